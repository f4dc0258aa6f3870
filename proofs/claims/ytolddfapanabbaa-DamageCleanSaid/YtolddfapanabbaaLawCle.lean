/-
  DamageClean, walked: without flaws nothing is damaged, and a flaw that covers a whole roll damages what it carries.
-/
import Derived.Test.YtolddfapanabbaaCleanP
import Derived.Test.YtolddfapanabbaaLawTab
namespace Go.Proofs.Ytolddfapanabbaa
open Go.RowKit
set_option linter.unusedSimpArgs false
set_option linter.unusedVariables false

/-- The row of rolls in block g, the first k of them with a flaw over all. -/
def WRel (w : World) (g : Nat) (rs : List Rl) (k : Nat) (F : Nat → Nat) : Prop :=
  (∀ i r, rs[i]? = some r → ∀ j u, (Rl.cells (bare r))[j]? = some u → j ≠ 6 → w.cell? ⟨g, i * 7 + j, none⟩ = some u) ∧
  (∀ i r, rs[i]? = some r → w.cell? ⟨g, i * 7 + 6, none⟩ = some (if i < k ∧ rollI (bare r) = 0 then .slice (some ⟨F i, 0, none⟩) 1 1 else .slice none 0 0)) ∧
  (∀ i r, rs[i]? = some r → i < k → rollI (bare r) = 0 → Blk w (F i) 59 #[.int .i64 0, .int .i64 0, .int .i64 r.ln, .int .i64 r.wd] ∧ F i ≠ g) ∧ (∀ j, w.frozen? ⟨g, j, none⟩ = false) ∧ g < w.heap.size
theorem WRel.later {w w' : World} {g : Nat} {rs : List Rl} {k : Nat} {F : Nat → Nat} (h : WRel w g rs k F) (hb : Later w w') : WRel w' g rs k F :=
  ⟨fun i r hr j u hu hj => hb.cell (h.1 i r hr j u hu hj), fun i r hr => hb.cell (h.2.1 i r hr), fun i r hr hi hq => ⟨(h.2.2.1 i r hr hi hq).1.later hb, (h.2.2.1 i r hr hi hq).2⟩, fun j => by rw [Below.frozen hb h.2.2.2.2]; exact h.2.2.2.1 j, Nat.lt_of_lt_of_le h.2.2.2.2 hb.size⟩
theorem WRel.skip {w : World} {g : Nat} {rs : List Rl} {k : Nat} {F : Nat → Nat} {r : Rl} (h : WRel w g rs k F) (hr : rs[k]? = some r) (hq : rollI (bare r) ≠ 0) : WRel w g rs (k + 1) F := by
  refine ⟨h.1, fun i r' hr' => ?_, fun i r' hr' hi hq' => ?_, h.2.2.2⟩
  · rw [h.2.1 i r' hr']
    by_cases e : i = k
    · subst e
      rw [hr] at hr'
      cases hr'
      rw [if_neg (by omega), if_neg (by rintro ⟨_, k⟩; exact hq k)]
    · congr 1
      by_cases e2 : i < k ∧ rollI (bare r') = 0
      · rw [if_pos e2, if_pos ⟨by omega, e2.2⟩]
      · rw [if_neg e2, if_neg (fun k => e2 ⟨by omega, k.2⟩)]
  · by_cases e : i = k
    · subst e; rw [hr] at hr'; cases hr'; exact absurd hq' hq
    · exact h.2.2.1 i r' hr' (by omega) hq'
theorem WRel.put {w : World} {g : Nat} {rs : List Rl} {k : Nat} {F : Nat → Nat} {r : Rl} (h : WRel w g rs k F) (hr : rs[k]? = some r) {n : Nat} (hB : Blk w n 59 #[.int .i64 0, .int .i64 0, .int .i64 r.ln, .int .i64 r.wd]) (hn : n ≠ g) (hq : rollI (bare r) = 0) :
    WRel (w.setCell ⟨g, k * 7 + 6, none⟩ (.slice (some ⟨n, 0, none⟩) 1 1)) g rs (k + 1) (fun i => if i = k then n else F i) := by
  have far : ∀ (b : Nat) (cs : Array Value), b ≠ g → Blk w b 59 cs → Blk (w.setCell ⟨g, k * 7 + 6, none⟩ (.slice (some ⟨n, 0, none⟩) 1 1)) b 59 cs := by
    intro b cs hb hk
    exact hk.far hb _
  refine ⟨fun i r' hr' j u hu hj => ?_, fun i r' hr' => ?_, fun i r' hr' hi hq' => ?_, fun j => ?_, by simpa using h.2.2.2.2⟩
  · rw [World.cell?_setCell_other _ _ _ _ (by
      intro e
      injection e with _ e2
      have : j < 7 := (List.getElem?_eq_some_iff.1 hu).1
      omega)]
    exact h.1 i r' hr' j u hu hj
  · by_cases e : i = k
    · subst e
      rw [hr] at hr'
      cases hr'
      rw [World.cell?_setCell_same _ _ _ (h.2.1 i r hr), if_pos ⟨by omega, hq⟩]
      simp only [if_true]
    · rw [World.cell?_setCell_other _ _ _ _ (by intro e; injection e with _ e2; omega), h.2.1 i r' hr']
      congr 1
      by_cases e2 : i < k ∧ rollI (bare r') = 0
      · rw [if_pos e2, if_pos ⟨by omega, e2.2⟩]
        simp only [if_neg e]
      · rw [if_neg e2, if_neg (fun k => e2 ⟨by omega, k.2⟩)]
  · by_cases e : i = k
    · subst e
      rw [hr] at hr'
      cases hr'
      simp only [if_true]
      exact ⟨far n _ hn hB, hn⟩
    · simp only [if_neg e]
      have := h.2.2.1 i r' hr' (by omega) hq'
      exact ⟨far _ _ this.2 this.1, this.2⟩
  · rw [World.frozen?_setCell]; exact h.2.2.2.1 j


@[go_sem] theorem build_rectWH (c d : Int) (w : World) : (Instr.build 59 #[(2, .int .i64 c), (3, .int .i64 d)]).run Try.prog w = .ok (.agg #[.int .i64 0, .int .i64 0, .int .i64 c, .int .i64 d]) w := run_build w 59 _ _ (by kernel_rfl)
theorem tabRows_getD (rs : List Rl) (polys : List (List Pt)) (ys : List Py) {i : Nat} (hi : i < ys.length) : (tabRows rs polys ys).getD i [] = polys.map fun q => (hitR ys[i].parts rs q).1 := by
  rw [List.getD_eq_getElem?_getD, tabRows, List.getElem?_map, List.getElem?_eq_getElem hi]
  rfl
theorem WRel.rolls {w W : World} {g : Nat} {rs : List Rl} {F : Nat → Nat} (hok : ∀ i (h : i < rs.length), RlOk w rs[i]) (h : WRel W g rs rs.length F) : Rolls W (some ⟨g, 0, none⟩) (wholeL rs F) := by
  refine fun _ => ⟨g, 0, rfl, fun i a ha => ?_⟩
  have hi : i < rs.length := by rw [← wholeL_len rs F]; exact (List.getElem?_eq_some_iff.1 ha).1
  obtain ⟨h1, e⟩ := wholeL_at hi F
  rw [List.getElem?_eq_getElem h1, e] at ha
  cases ha
  have hri := List.getElem?_eq_getElem hi
  have ho := hok i hi
  have h6 := h.2.1 i _ hri
  by_cases hq : rollI (bare rs[i]) = 0
  · rw [wholeR, if_pos hq]
    rw [if_pos ⟨hi, hq⟩] at h6
    obtain ⟨hB, _⟩ := h.2.2.1 i _ hri hi hq
    refine ⟨fun j v hv => ?_, ho.1, Nat.le_refl _, by show 1 ≤ maxLen; unfold maxLen; omega, fun _ => ⟨F i, 0, rfl, fun k p hp => ?_⟩, fun q hq' => ?_, ho.2.2.2.2.2⟩
    · rw [Nat.zero_add]
      by_cases hj : j = 6
      · subst hj
        cases hv
        exact h6
      · refine h.1 i _ hri j v ?_ hj
        rcases j with _ | _ | _ | _ | _ | _ | _ | j
        · exact hv
        · exact hv
        · exact hv
        · exact hv
        · exact hv
        · exact hv
        · exact absurd rfl hj
        · exact hv
    · rcases k with _ | k
      · cases hp
        exact ⟨hB.cell 0, hB.cell 1, hB.cell 2, hB.cell 3⟩
      · simp [withFl] at hp
    · have hq' : q ∈ [(⟨0, 0, (rs[i]).ln, (rs[i]).wd⟩ : Qd)] := hq'
      rw [List.mem_singleton.1 hq']
      have := (bare_base hq).2
      unfold QdI I64
      simp only []
      omega
  · rw [wholeR, if_neg hq]
    rw [if_neg (fun k => hq k.2)] at h6
    refine ⟨fun j v hv => ?_, bare_ok ho W⟩
    rw [Nat.zero_add]
    by_cases hj : j = 6
    · subst hj
      cases hv
      exact h6
    · exact h.1 i _ hri j v hv hj
theorem law39_plain2 (C : Option Addr) (cc : Nat) (rs : List Rl) (w : World) (hrs : Rolls w C rs) (hrl : rs.length ≤ 65536) :
    Calls Try.prog 24 #[.slice C rs.length cc] w (fun e w' => ∃ A c, e = .returned (.slice A rs.length c) ∧ Rolls w' A (rs.map bare) ∧ Later w w' ∧ (0 < rs.length → ∃ g, A = some ⟨g, 0, none⟩ ∧ WRel w' g rs 0 (fun _ => 0) ∧ w.heap.size ≤ g)) := by
  have hok : ∀ i (h : i < rs.length), RlOk w rs[i] := fun i h => by obtain ⟨_, _, _, _, _, _, _, _, _, _, ho⟩ := hrs.at_ h; exact ho
  refine (law39_plain C cc rs w hrs hrl).mono ?_
  rintro e w' ⟨v, rfl, ho, hb⟩
  obtain ⟨A, c, rfl, h1, h2, h3⟩ := OwnR.form rl_cells ho
  rw [List.length_map] at h1 h3 ho ⊢
  refine ⟨A, c, rfl, ?_, hb, fun hn => ?_⟩
  · refine (OwnR.list (ok := RlOk) rl_cells ho fun a ha => ?_).2.2.2
    obtain ⟨r, hr, rfl⟩ := List.mem_map.1 ha
    obtain ⟨i, hi, rfl⟩ := List.getElem_of_mem hr
    exact bare_ok (hok i hi) w'
  · obtain ⟨g, rfl, hg1, hg2, hg3, hg4⟩ := h3 hn
    refine ⟨g, rfl, ⟨fun i r hr j u hu _ => ?_, fun i r hr => ?_, fun i r hr hi => by omega, hg3, hg2⟩, hg1⟩
    · have := hg4 i (bare r) (by rw [List.getElem?_map, hr]; rfl) j u hu
      rwa [Nat.zero_add] at this
    · have := hg4 i (bare r) (by rw [List.getElem?_map, hr]; rfl) 6 _ rfl
      rw [Nat.zero_add] at this
      rw [this, if_neg (by omega)]
      rfl

set_option maxHeartbeats 8000000 in
set_option maxRecDepth 100000 in
theorem law39_DamageClean_in (hex : ∀ W, Calls Try.prog 15 #[] W (Ret (.bool true) W)) (y : Ly) (C Q : Option Addr) (cc qc : Nat) (rs : List Rl) (ps : List (List Pt)) (w : World)
    (hy : LyOk w y) (hr : Rolls w C rs) (hp : Polys w Q ps) (hfw : fewB y.ys rs ps = true) (hte : tabErr rs ps y.ys = 0) :
    Calls Try.prog 6 #[y.agg, .slice C rs.length cc, .slice Q ps.length qc] w (Ret (.bool true) w) := by
  have HX := Lib.hid hex
  clear hex
  have HF := Lib.hid (fun W (hW : Later w W) => law39_few y C Q cc qc rs ps W (hy.later hW) (hr.later hW) (hp.later hW))
  rw [hfw] at HF
  obtain ⟨⟨h12, h6, h6'⟩, h1, _, h2⟩ := few_all hfw
  clear hfw
  have hparts : ∀ p ∈ y.ys, p.parts.length ≤ 65536 := fun p hp => by have := h1 p hp; omega
  have hpl : PtsOk ps := fun p hp => by have := h2 p hp; omega
  have HT := Lib.hid (fun (C' : Option Addr) (cc' : Nat) (rs' : List Rl) W (hl : rs'.length ≤ 6) (hW : Later w W) (hR : Rolls W C' rs') => damage_Table_ok y.pa C' Q y.s1 y.s2 y.pc cc' qc y.n1 y.c1 y.n2 y.c2 y.l y.w y.rx y.ry y.ys rs' ps W (hy.later hW).1 hR (hp.later hW) (by omega) hparts hpl (by omega) (by omega))
  have HP := Lib.hid (fun W (hW : Later w W) => law39_plain2 C cc rs W (hr.later hW) (by omega))
  have HA := Lib.hid (fun W (hW : Later w W) => HT.out C cc rs W h6 hW (hr.later hW))
  rw [hte] at HA
  have HB := Lib.hid (fun (C' : Option Addr) (cc' : Nat) W (hW : Later w W) (hR : Rolls W C' (rs.map bare)) => HT.out C' cc' (rs.map bare) W (by simpa using h6) hW hR)
  rw [tab_clean hte, List.length_map] at HB
  unfold Ly.agg at HF ⊢
  obtain ⟨l0, l1, l2, l3, s1, n1, c1, s2, n2, c2, pa, pc, ys⟩ := y
  simp only [] at HF HA HB HT h12 h1 hparts hte ⊢
  go_enter Try.func6, Try.ntmps6
  go_upto_region 7 with (first
    | (go_at_call 20; (with_reducible refine (HF.out _ (by repeat' (with_reducible first | exact Later.refl _ | assumption | refine Later.drew ?_ | refine Later.drewN ?_ _ | refine Later.alloc ?_ _ | refine Later.put ?_ (by omega) _ | refine Later.trans ?_ (by assumption)))).mono ?_); rintro e w1 ⟨rfl, hb1⟩; have D0 : Blk w1 w.heap.size 45 #[.int .i64 l0, .int .i64 l1, .int .i64 l2, .int .i64 l3, .slice s1 n1 c1, .slice s2 n2 c2, .slice pa ys.length pc] := Blk.later (by repeat' (with_reducible first | assumption | (refine Blk.newAt ?_; simp; done) | refine Blk.alloc ?_ _ | refine Blk.drew ?_ | refine Blk.drewN ?_ _ | refine Blk.later ?_ (by assumption))) hb1; have hl1 : Later w w1 := (by repeat' (with_reducible first | exact Later.refl _ | assumption | refine Later.drew ?_ | refine Later.drewN ?_ _ | refine Later.alloc ?_ _ | refine Later.put ?_ (by omega) _ | refine Later.trans ?_ (by assumption))); have r0 := D0.cell 0; have r1 := D0.cell 1; have r2 := D0.cell 2; have r3 := D0.cell 3; have r4 := D0.cell 4; have r5 := D0.cell 5; have r6 := D0.cell 6)
    | (go_at_call 21; (with_reducible refine (HA.out _ hl1).mono ?_); rintro e w2 (⟨_, A2, c2', rfl, z1, z2, hb2⟩ | ⟨h, _⟩); rotate_left; exact absurd rfl h))
  have hl2 := hl1.trans hb2
  have D2 := D0.later hb2
  clear D0 r0 r1 r2 r3 r4 r5 r6 z2 hb2 hb1 HA HF hl1
  have r0 := D2.cell 0
  have r1 := D2.cell 1
  have r2 := D2.cell 2
  have r3 := D2.cell 3
  have r4 := D2.cell 4
  have r5 := D2.cell 5
  have r6 := D2.cell 6
  generalize w.heap.size = N at *
  go_region_held3 (fun w' : World => (∀ a : Addr, (w2.cell? a).isSome = true → w'.cell? a = w2.cell? a) ∧ Later w2 w') (first | assumption | exact keep_call (by assumption) (by assumption) | exact keep_call (by assumption) ((Later.refl _).alloc _) | exact keep_init _)
    (first
      | (go_at_call 24; (with_reducible refine (HP.out _ (hl2.trans (by assumption : _ ∧ Later w2 _).2)).mono ?_); rintro e w3 ⟨A3, c3', rfl, R3, hb3, _⟩)
      | (go_at_call 21; (with_reducible refine (HB.out _ _ _ (hl2.trans (by assumption : _ ∧ Later w2 _).2) R3).mono ?_); rintro e w4 (⟨_, A4, c4', rfl, z4, y4, hb4⟩ | ⟨h, _⟩); rotate_left; exact absurd rfl h))
  rename_i hHw
  have hl4 : Later w w4 := hl2.trans hHw.2
  have D4 := D2.later hHw.2
  clear r0 r1 r2 r3 r4 r5 r6 D2 hHw R3 hb3 hb4 HB hl2
  go_wp2_with (first | (go_at_call 24; (with_reducible refine (HP.out _ hl4).mono ?_); rintro e w5 ⟨A5, c5', rfl, R5, hb5, G5⟩))
  have hl5 := hl4.trans hb5
  have hok : ∀ i (h : i < rs.length), RlOk w rs[i] := fun i h => by obtain ⟨_, _, _, _, _, _, _, _, _, _, ho⟩ := hr.at_ h; exact ho
  have Hok := Lib.hid hok
  clear hok R5
  go_loopw [57] (fun iv wr => ∃ (k : Nat) (F : Nat → Nat), k ≤ rs.length ∧ iv = .int .i64 k ∧ (∀ g, A5 = some ⟨g, 0, none⟩ → 0 < rs.length → WRel wr g rs k F) ∧ Later w4 wr) (fun iv _ => rs.length - (intOf iv).toNat)
  case atStart =>
    refine ⟨0, fun _ => 0, by omega, rfl, fun g hg hn => ?_, hb5⟩
    obtain ⟨g', e, h, _⟩ := G5 hn
    rw [hg] at e
    cases e
    exact h
  case round =>
    obtain ⟨k, F, hk, rfl, hW, hb⟩ := hrel
    by_cases hlt : k < rs.length
    · obtain ⟨g, rfl, _, hg4⟩ := G5 (by omega)
      have hWg := hW g rfl (by omega)
      have hrk := List.getElem?_eq_getElem hlt
      have HK := Lib.hid (fun W => roll_Check (bare rs[k]) W (bare_ok (Hok.out k hlt) W))
      have e0 := hWg.1 k _ hrk 0 _ rfl (by omega)
      have e1 := hWg.1 k _ hrk 1 _ rfl (by omega)
      have e2 := hWg.1 k _ hrk 2 _ rfl (by omega)
      have e3 := hWg.1 k _ hrk 3 _ rfl (by omega)
      have e4 := hWg.1 k _ hrk 4 _ rfl (by omega)
      have e5 := hWg.1 k _ hrk 5 _ rfl (by omega)
      have e6 := hWg.2.1 k _ hrk
      rw [if_neg (by omega)] at e6
      have f6 := hWg.2.2.2.1 (k * 7 + 6)
      have hgz := hWg.2.2.2.2
      have Hrk := Lib.hid hrk
      have HWg := Lib.hid hWg
      clear hrk hWg hW G5
      generalize rs[k] = r at *
      have Hput := Lib.hid (fun (W : World) (h : WRel W g rs k F) (n : Nat) hB hn hq => WRel.put h Hrk.out (n := n) hB hn hq)
      have Hskip := Lib.hid (fun (W : World) (h : WRel W g rs k F) hq => WRel.skip h Hrk.out hq)
      obtain ⟨rid, rwd, rln, rtl, rta, rtb, fa, fc, fl⟩ := r
      unfold bare at HK Hput Hskip
      unfold Rl.agg at HK
      simp only [bare, Rl.cells, Nat.add_zero, List.length_nil] at e0 e1 e2 e3 e4 e5 HK Hput Hskip
      have hk0 : (0 : Int) ≤ (k : Int) := by omega
      have hk1 : (k : Int) < (rs.length : Int) := by omega
      rcases Classical.em (rollI (⟨rid, rwd, rln, rtl, rta, rtb, none, 0, []⟩ : Rl) = 0) with hq | hq
      · rw [hq] at HK
        have Hq := Lib.hid hq
        clear hq Hskip
        go_upto_region 12 with (first | (go_at_call 25; (with_reducible refine (HK.out _).mono ?_); rintro e w6 ⟨rfl, hb6⟩))
        have hl6 : Later wr w6 := ((Later.refl _).alloc _).trans hb6
        have b1 : w6.cell? ⟨wr.heap.size, 1, none⟩ = some (.int .i64 rwd) := hb6.cell (by simp [go_sem])
        have b2 : w6.cell? ⟨wr.heap.size, 2, none⟩ = some (.int .i64 rln) := hb6.cell (by simp [go_sem])
        have g6 := hl6.cell e6
        have fz : w6.frozen? ⟨g, k * 7 + 6, none⟩ = false := by rw [Below.frozen hl6 hgz]; exact f6
        have hgz6 : g < w6.heap.size := Nat.lt_of_lt_of_le hgz hl6.size
        have hwz6 : wr.heap.size < w6.heap.size := World.block_lt_of_cell? _ _ b1
        clear e0 e1 e2 e3 e4 e5 e6 f6 hb6 HK
        go_wp2
        go_roundw
        case rel =>
          refine ⟨k + 1, fun i => if i = k then w6.heap.size else F i, by omega, by go_num, fun g' hg' _ => ?_, ?_⟩
          · cases hg'
            rw [← World.setCell_alloc_past (hn := hgz6)]
            exact Hput.out _ ((HWg.out.later hl6).later ((Later.refl _).alloc _)) w6.heap.size (Blk.new w6 _ _) (by omega) Hq.out
          · rw [← World.setCell_alloc_past (hn := hgz6)]
            exact Later.put ((hb.trans hl6).alloc _) (by omega) _
        case measure => simp [intOf]; omega
      · have dq : (rollI (⟨rid, rwd, rln, rtl, rta, rtb, none, 0, []⟩ : Rl) == 0) = false := by simpa using hq
        have Hq := Lib.hid hq
        clear hq
        generalize rollI (⟨rid, rwd, rln, rtl, rta, rtb, none, 0, []⟩ : Rl) = er at HK dq
        go_wp2_with (first | (go_at_call 25; (with_reducible refine (HK.out _).mono ?_); rintro e w6 ⟨rfl, hb6⟩))
        go_roundw
        case rel =>
          refine ⟨k + 1, F, by omega, by go_num, fun g' hg' _ => ?_, ?_⟩
          · cases hg'
            exact (Hskip.out _ HWg.out Hq.out).later (((Later.refl _).alloc _).trans hb6)
          · exact hb.trans (((Later.refl _).alloc _).trans hb6)
        case measure => simp [intOf]; omega
    · have hke : k = rs.length := by omega
      subst hke
      have R5 : Rolls wr A5 (wholeL rs F) := by
        rcases Nat.eq_zero_or_pos rs.length with h0 | h0
        · intro hn; rw [wholeL_len] at hn; omega
        · obtain ⟨g, rfl, _, _⟩ := G5 h0
          exact WRel.rolls Hok.out (hW g rfl h0)
      have HS := Lib.hid (fun W (hl : Later w W) (hR : Rolls W A5 (wholeL rs F)) => HT.out A5 c5' (wholeL rs F) W (by rw [wholeL_len]; exact h6) hl hR)
      rw [tab_whole F hte, wholeL_len] at HS
      have hlr := hl4.trans hb
      have D5 := D4.later hb
      have y5 := y4.later hb
      have Hte := Lib.hid hte
      clear hW G5 D4 y4 hb hk hlt HT hte
      have r0 := D5.cell 0
      have r1 := D5.cell 1
      have r2 := D5.cell 2
      have r3 := D5.cell 3
      have r4 := D5.cell 4
      have r5 := D5.cell 5
      have r6 := D5.cell 6
      have t1 := tabRows_len (rs.map bare) ps ys
      have t2 := tabRows_len (wholeL rs F) ps ys
      have Hc := Lib.hid (fun i (hi : i < ys.length) => tabRows_getD (rs.map bare) ps ys hi)
      have Hs := Lib.hid (fun i (hi : i < ys.length) => tabRows_getD (wholeL rs F) ps ys hi)
      generalize tabRows (rs.map bare) ps ys = crow at *
      generalize tabRows (wholeL rs F) ps ys = srow at *
      rw [t1]
      have Ht2 := Lib.hid t2
      have Ht1 := Lib.hid t1
      clear t1 t2 z4
      go_upto_region 15 with (first | (go_at_call 21; (with_reducible refine (HS.out _ hlr R5).mono ?_); rintro e w7 (⟨_, A7, c7', rfl, z7, y7, hb7⟩ | ⟨h, _⟩); rotate_left; exact absurd rfl h))
      rw [Ht2.out]
      have hl7 := hlr.trans hb7
      have D7 := D5.later hb7
      have c7 := y5.later hb7
      clear r0 r1 r2 r3 r4 r5 r6 D5 y5 hb7 R5 HS hlr z7 HP
      have r6 := D7.cell 6
      go_wp2
      have Hfa := Lib.hid (tabErr_zero.1 Hte.out)
      clear Hte r6
      go_loopw [108] (fun iv wr => ∃ i : Nat, i ≤ ys.length ∧ iv = .int .i64 i ∧ Later w7 wr) (fun iv _ => ys.length - (intOf iv).toNat)
      case atStart => exact ⟨0, by omega, rfl, (by repeat' (with_reducible first | exact Later.refl _ | assumption | refine Later.drew ?_ | refine Later.drewN ?_ _ | refine Later.alloc ?_ _ | refine Later.put ?_ (by omega) _ | refine Later.trans ?_ (by assumption)))⟩
      case round =>
        obtain ⟨i, hi, rfl, hb⟩ := hrel
        have hlw := hl7.trans hb
        by_cases hlt : i < ys.length
        · obtain ⟨b1, o1, A1, k1', rfl, t1, t2, t3⟩ := (c7.later hb).at_ (k := i) (by rw [Ht1.out]; exact hlt)
          obtain ⟨b2, o2, A6, k2', rfl, v1, v2, v3⟩ := (y7.later hb).at_ (k := i) (by rw [Ht2.out]; exact hlt)
          rw [Hc.out i hlt] at t1 t2 t3
          rw [Hs.out i hlt] at v1 v2 v3
          simp only [List.length_map] at t1 t2 t3 v1 v2 v3
          have hokw : PyOk w ys[i] := by obtain ⟨_, _, _, _, _, h⟩ := hy.1.at_ hlt; exact h
          obtain ⟨bb, ob, epa, e1, e2, _⟩ := (hy.1.later hlw).at_ hlt
          simp only [] at epa
          subst epa
          have Hfy := Lib.hid (fun q hq => Hfa.out _ (List.getElem_mem hlt) q hq)
          have hpn := hparts _ (List.getElem_mem hlt)
          generalize ys[i] = y at *
          obtain ⟨lot, pp, pc', parts⟩ := y
          simp only [] at e1 e2 hpn t3 v3
          obtain ⟨hpc, hpm, hqd, hqi⟩ := hokw
          simp only [] at hpc hpm hqd hqi
          have hi0 : (0 : Int) ≤ (i : Int) := by omega
          have hi1 : (i : Int) < (ys.length : Int) := by omega
          have hbz : bb < wr.heap.size := World.block_lt_of_cell? _ _ e1
          have hb1z : b1 < wr.heap.size := World.block_lt_of_cell? _ _ t1
          have hb2z : b2 < wr.heap.size := World.block_lt_of_cell? _ _ v1
          have Ht3 := Lib.hid t3
          have Hv3 := Lib.hid v3
          clear t3 v3
          go_wp2
          refine name_world (fun W3 hW3 => ?_)
          have hl3 : Later wr W3 := by rw [hW3]; exact (by repeat' (with_reducible first | exact Later.refl _ | assumption | refine Later.drew ?_ | refine Later.drewN ?_ _ | refine Later.alloc ?_ _ | refine Later.put ?_ (by omega) _ | refine Later.trans ?_ (by assumption)))
          have P3 : Blk W3 wr.heap.size 24 #[.int .i64 lot, .slice pp parts.length pc'] := by rw [hW3]; exact (by repeat' (with_reducible first | assumption | (refine Blk.newAt ?_; simp; done) | refine Blk.alloc ?_ _ | refine Blk.drew ?_ | refine Blk.drewN ?_ _ | refine Blk.later ?_ (by assumption)))
          clear hW3 e1 e2 hbz
          have tt1 := hl3.cell t1
          have vv1 := hl3.cell v1
          clear t1 v1 hb1z hb2z
          generalize wr.heap.size = G at *
          obtain ⟨wo, rfl⟩ : ∃ wo : World, wo = wr := ⟨_, rfl⟩
          go_loopw [133] (fun iv wq => ∃ k : Nat, k ≤ ps.length ∧ iv = .int .i64 k ∧ Later W3 wq) (fun iv _ => ps.length - (intOf iv).toNat)
          case atStart => exact ⟨0, by omega, rfl, Later.refl _⟩
          case round =>
            obtain ⟨k, hk, rfl, hb2⟩ := hrel
            have hl3w := hl3.trans hb2
            have hlx := hlw.trans hl3w
            by_cases hlk : k < ps.length
            · obtain ⟨bq, oq, A', c', rfl, k1, k2, k3⟩ := (hp.later hlx).at_ hlk
              obtain ⟨j, n, hj, hn, hcar, ha, ⟨hck, hb0, hlo, hlh, hhi⟩, hwd, hcl, hin, _, heq⟩ := clean_facts F (Hfy.out _ (List.getElem_mem hlk))
              have hpn2 := hpl _ (List.getElem_mem hlk)
              obtain ⟨b1', o1', rfl, t3⟩ := Ht3.out (by omega)
              obtain ⟨b2', o2', rfl, v3⟩ := Hv3.out (by omega)
              have tc := hl3w.cell (t3 k hlk)
              have vc := hl3w.cell (v3 k hlk)
              rw [show (ps.map fun q => (hitR parts (rs.map bare) q).1).getD k false = (hitR parts (rs.map bare) ps[k]).1 by simp [hlk], hcl] at tc
              rw [show (ps.map fun q => (hitR parts (wholeL rs F) q).1).getD k false = (hitR parts (wholeL rs F) ps[k]).1 by simp [hlk]] at vc
              have tr := hb2.cell tt1
              have vr := hb2.cell vv1
              have PB := P3.later hb2
              generalize ps[k] = q at *
              generalize (hitR parts (wholeL rs F) q).1 = sp at *
              have HC := Lib.hid (fun W (hW : Later wr W) => damage_Carrier A' pp c' pc' lot parts q W hpn2 k2 (k3.later hW) hpn hpc (hqd.later (hlx.trans hW)))
              rw [hcar] at HC
              have HBx := Lib.hid (fun W (hW : Later wr W) => polygon_Box_ok A' c' q W hpn2 k2 (k3.later hW) hck)
              have HH := Lib.hid (fun W (hW : Later wr W) => overlap_Hits A' c' q (loOf q).x 0 ((hiOf q).x - (loOf q).x) (rs[n]).wd W hpn2 k2 (k3.later hW) (by unfold I64; omega) (by unfold I64; omega) (by unfold I64; omega) (by unfold I64; omega))
              rw [hin] at HH
              clear hcar hck hin hcl hlo hlh hhi
              generalize (hitsR q (loOf q).x 0 ((hiOf q).x - (loOf q).x) (rs[n]).wd).1 = ins at *
              generalize (loOf q).x = lx at *
              generalize (loOf q).y = ly at *
              generalize (hiOf q).x - lx = bx at *
              generalize (hiOf q).y - ly = bY at *
              obtain ⟨bp, op, rfl, hpat⟩ := hqd (by omega)
              obtain ⟨x1, x2, x3, x4⟩ := (hpat.later hlx).get hj
              obtain ⟨bc, oc, rfl, z0, z1, z2, z3, z4, z5, z6, zok⟩ := (hr.later hlx).at_ hn
              rw [ha] at x1
              generalize parts[j] = qx at *
              generalize rs[n] = r at *
              obtain ⟨qa, qb, qc2, qd⟩ := qx
              obtain ⟨rid, rwd, rln, rtl, rta, rtb, fa, fc, fl⟩ := r
              simp only [] at x1 x2 x3 x4 z0 z1 z2 z3 z4 z5 z6 heq hb0 HH
              clear ha zok
              have p0 := PB.cell 0
              have p1 := PB.cell 1
              have hk0 : (0 : Int) ≤ (k : Int) := by omega
              have hk1 : (k : Int) < (ps.length : Int) := by omega
              have hj0 : (0 : Int) ≤ (j : Int) := by omega
              have hj1 : (j : Int) < (parts.length : Int) := by omega
              have hn0 : (0 : Int) ≤ (n : Int) := by omega
              have hn1 : (n : Int) < (rs.length : Int) := by omega
              go_upto_region 26 with (first | (go_at_call 16; (with_reducible refine (HC.out _ (by repeat' (with_reducible first | exact Later.refl _ | assumption | refine Later.drew ?_ | refine Later.drewN ?_ _ | refine Later.alloc ?_ _ | refine Later.put ?_ (by omega) _ | refine Later.trans ?_ (by assumption)))).mono ?_); rintro e w8 ⟨rfl, hb8⟩))
              have P8 := PB.later hb8
              have hl8 : Later wr w8 := hb8
              have tr8 := hb8.cell tr
              have tc8 := hb8.cell tc
              have y1 := hb8.cell x1
              have y2 := hb8.cell x2
              have y3 := hb8.cell x3
              have y4 := hb8.cell x4
              clear p0 p1 PB tr tc x1 x2 x3 x4 HC hb8 k1
              have p1 := P8.cell 1
              have hbz : bp < w8.heap.size := World.block_lt_of_cell? _ _ y1
              have hGz : G < w8.heap.size := P8.lt
              go_upto_region 31 with fail
              refine name_world (fun W9 hW9 => ?_)
              have hl9 : Later w8 W9 := by rw [hW9]; exact (by repeat' (with_reducible first | exact Later.refl _ | assumption | refine Later.drew ?_ | refine Later.drewN ?_ _ | refine Later.alloc ?_ _ | refine Later.put ?_ (by omega) _ | refine Later.trans ?_ (by assumption)))
              have X9 : Blk W9 w8.heap.size 62 #[.int .i64 n, .int .i64 qb, .int .i64 qc2, .int .i64 qd] := by rw [hW9]; exact (by repeat' (with_reducible first | assumption | (refine Blk.newAt ?_; simp; done) | refine Blk.alloc ?_ _ | refine Blk.drew ?_ | refine Blk.drewN ?_ _ | refine Blk.later ?_ (by assumption)))
              clear hW9 p1 P8 tr8 tc8 y1 y2 y3 y4 hbz hGz
              generalize w8.heap.size = X at *
              go_upto_region 32 with (first | (go_at_call 26; (with_reducible refine (HBx.out _ (hl8.trans hl9)).mono ?_); rintro e w10 ⟨rfl, hb10⟩))
              have hl10 : Later wr w10 := (hl8.trans hl9).trans hb10
              have X10 := X9.later hb10
              refine name_world (fun W11 hW11 => ?_)
              have hl11 : Later w10 W11 := by rw [hW11]; exact (by repeat' (with_reducible first | exact Later.refl _ | assumption | refine Later.drew ?_ | refine Later.drewN ?_ _ | refine Later.alloc ?_ _ | refine Later.put ?_ (by omega) _ | refine Later.trans ?_ (by assumption)))
              have Y11 : Blk W11 w10.heap.size 59 #[.int .i64 lx, .int .i64 ly, .int .i64 bx, .int .i64 bY] := by rw [hW11]; exact (by repeat' (with_reducible first | assumption | (refine Blk.newAt ?_; simp; done) | refine Blk.alloc ?_ _ | refine Blk.drew ?_ | refine Blk.drewN ?_ _ | refine Blk.later ?_ (by assumption)))
              clear hW11 X9
              generalize w10.heap.size = Y at *
              have X11 := X10.later hl11
              have hlr11 := hl10.trans hl11
              have u0 := hlr11.cell z0
              have u1 := hlr11.cell z1
              have u2 := hlr11.cell z2
              have u3 := hlr11.cell z3
              have u4 := hlr11.cell z4
              have u5 := hlr11.cell z5
              have u6 := hlr11.cell z6
              have i0 := X11.cell 0
              have hbz : bc < W11.heap.size := World.block_lt_of_cell? _ _ u0
              clear z0 z1 z2 z3 z4 z5 z6 X10 hl11
              go_upto_region 33 with fail
              refine name_world (fun W12 hW12 => ?_)
              have hl12 : Later W11 W12 := by rw [hW12]; exact (by repeat' (with_reducible first | exact Later.refl _ | assumption | refine Later.drew ?_ | refine Later.drewN ?_ _ | refine Later.alloc ?_ _ | refine Later.put ?_ (by omega) _ | refine Later.trans ?_ (by assumption)))
              have Z12 : Blk W12 W11.heap.size 56 #[.string rid, .int .i64 rwd, .int .i64 rln, .int .i64 rtl, .int .i64 rta, .int .i64 rtb, .slice fa fl.length fc] := by rw [hW12]; exact (by repeat' (with_reducible first | assumption | (refine Blk.newAt ?_; simp; done) | refine Blk.alloc ?_ _ | refine Blk.drew ?_ | refine Blk.drewN ?_ _ | refine Blk.later ?_ (by assumption)))
              clear hW12 u0 u1 u2 u3 u4 u5 u6 i0 hbz
              generalize W11.heap.size = Z at *
              have X12 := X11.later hl12
              have Y12 := Y11.later hl12
              have hlr12 := hlr11.trans hl12
              have i0 := Y12.cell 0
              have i2 := Y12.cell 2
              have i3 := Z12.cell 1
              go_upto_region 34 with (first | (go_at_call 27; (with_reducible refine (HH.out _ hlr12).mono ?_); rintro e w13 ⟨rfl, hb13⟩))
              have hlr13 := hlr12.trans hb13
              have X13 := X12.later hb13
              have Z13 := Z12.later hb13
              have vr13 := hlr13.cell vr
              have vc13 := hlr13.cell vc
              clear i0 i2 i3 X11 X12 Y11 Y12 Z12 vr vc
              have j1 := X13.cell 1
              have j2 := X13.cell 2
              have j3 := Z13.cell 2
              have d1 : decide ((0 : Int) ≤ qb) = true := by simpa using hb0
              by_cases hon : qc2 ≤ rln
              · have he := heq hb0 hon
                subst he
                have d2 : decide (qc2 ≤ rln) = true := by simpa using hon
                cases sp
                all_goals
                  go_wp2
                  go_roundw
                  case rel => exact ⟨k + 1, by omega, by go_num, hb2.trans hlr13⟩
                  case measure => simp [intOf]; omega
              · have d2 : decide (qc2 ≤ rln) = false := by simpa using hon
                go_wp2
                go_roundw
                case rel => exact ⟨k + 1, by omega, by go_num, hb2.trans hlr13⟩
                case measure => simp [intOf]; omega
            · go_wp2
              go_roundw
              case rel => exact ⟨i + 1, by omega, by go_num, hb.trans hl3w⟩
              case measure => simp [intOf]; omega
        · go_wp2_with (first | (go_at_call 15; refine (HX.out _).mono ?_; rintro e w4 ⟨rfl, hb4⟩))
          go_ret
          exact ⟨rfl, hlw.trans hb4⟩

set_option maxHeartbeats 4000000 in
set_option maxRecDepth 100000 in
theorem law39_DamageClean_out (hex : ∀ W, Calls Try.prog 15 #[] W (Ret (.bool true) W)) (y : Ly) (C Q : Option Addr) (cc qc : Nat) (rs : List Rl) (ps : List (List Pt)) (w : World)
    (hy : LyOk w y) (hr : Rolls w C rs) (hp : Polys w Q ps) (ho : fewB y.ys rs ps = false ∨ tabErr rs ps y.ys ≠ 0) :
    Calls Try.prog 6 #[y.agg, .slice C rs.length cc, .slice Q ps.length qc] w (Ret (.bool true) w) := by
  have HX := Lib.hid hex
  clear hex
  have HF := Lib.hid (fun W (hW : Later w W) => law39_few y C Q cc qc rs ps W (hy.later hW) (hr.later hW) (hp.later hW))
  rcases hfw : fewB y.ys rs ps with _ | _
  · rw [hfw] at HF
    clear hfw ho
    unfold Ly.agg at HF ⊢
    obtain ⟨l0, l1, l2, l3, s1, n1, c1, s2, n2, c2, pa, pc, ys⟩ := y
    simp only [] at HF ⊢
    go_enter Try.func6, Try.ntmps6
    go_wp2_with (first | (go_at_call 20; (with_reducible refine (HF.out _ (by repeat' (with_reducible first | exact Later.refl _ | assumption | refine Later.drew ?_ | refine Later.drewN ?_ _ | refine Later.alloc ?_ _ | refine Later.put ?_ (by omega) _ | refine Later.trans ?_ (by assumption)))).mono ?_); rintro e w1 ⟨rfl, hb1⟩) | (go_at_call 15; refine (HX.out _).mono ?_; rintro e w2 ⟨rfl, hb2⟩))
    go_ret
    exact ⟨rfl, (by repeat' (with_reducible first | exact Later.refl _ | assumption | refine Later.drew ?_ | refine Later.drewN ?_ _ | refine Later.alloc ?_ _ | refine Later.put ?_ (by omega) _ | refine Later.trans ?_ (by assumption)))⟩
  · rw [hfw] at HF
    have hte : tabErr rs ps y.ys ≠ 0 := by
      rcases ho with h | h
      · rw [hfw] at h; cases h
      · exact h
    obtain ⟨⟨h12, h6, h6'⟩, h1, _, h2⟩ := few_all hfw
    clear hfw ho
    have hparts : ∀ p ∈ y.ys, p.parts.length ≤ 65536 := fun p hp => by have := h1 p hp; omega
    have hpl : PtsOk ps := fun p hp => by have := h2 p hp; omega
    have HA := Lib.hid (fun W (hW : Later w W) => damage_Table_ok y.pa C Q y.s1 y.s2 y.pc cc qc y.n1 y.c1 y.n2 y.c2 y.l y.w y.rx y.ry y.ys rs ps W (hy.later hW).1 (hr.later hW) (hp.later hW) (by omega) hparts hpl (by omega) (by omega))
    generalize tabRows rs ps y.ys = rows at *
    generalize tabErr rs ps y.ys = te at *
    have d0 : (te != 0) = true := by simpa using hte
    have Hne := Lib.hid hte
    clear hte
    unfold Ly.agg at HF ⊢
    obtain ⟨l0, l1, l2, l3, s1, n1, c1, s2, n2, c2, pa, pc, ys⟩ := y
    simp only [] at HF HA h12 ⊢
    go_enter Try.func6, Try.ntmps6
    go_wp2_with (first
      | (go_at_call 20; (with_reducible refine (HF.out _ (by repeat' (with_reducible first | exact Later.refl _ | assumption | refine Later.drew ?_ | refine Later.drewN ?_ _ | refine Later.alloc ?_ _ | refine Later.put ?_ (by omega) _ | refine Later.trans ?_ (by assumption)))).mono ?_); rintro e w1 ⟨rfl, hb1⟩; have D0 : Blk w1 w.heap.size 45 #[.int .i64 l0, .int .i64 l1, .int .i64 l2, .int .i64 l3, .slice s1 n1 c1, .slice s2 n2 c2, .slice pa ys.length pc] := Blk.later (by repeat' (with_reducible first | assumption | (refine Blk.newAt ?_; simp; done) | refine Blk.alloc ?_ _ | refine Blk.drew ?_ | refine Blk.drewN ?_ _ | refine Blk.later ?_ (by assumption))) hb1; have hl1 : Later w w1 := (by repeat' (with_reducible first | exact Later.refl _ | assumption | refine Later.drew ?_ | refine Later.drewN ?_ _ | refine Later.alloc ?_ _ | refine Later.put ?_ (by omega) _ | refine Later.trans ?_ (by assumption))); have r0 := D0.cell 0; have r1 := D0.cell 1; have r2 := D0.cell 2; have r3 := D0.cell 3; have r4 := D0.cell 4; have r5 := D0.cell 5; have r6 := D0.cell 6)
      | (go_at_call 21; (with_reducible refine (HA.out _ hl1).mono ?_); rintro e w2 (⟨h, _⟩ | ⟨_, rfl, hb2⟩); exact absurd h Hne.out)
      | (go_at_call 15; refine (HX.out _).mono ?_; rintro e w5 ⟨rfl, hb5⟩))
    go_ret
    exact ⟨rfl, (by repeat' (with_reducible first | exact Later.refl _ | assumption | refine Later.drew ?_ | refine Later.drewN ?_ _ | refine Later.alloc ?_ _ | refine Later.put ?_ (by omega) _ | refine Later.trans ?_ (by assumption)))⟩

theorem law39_DamageClean (hex : ∀ W, Calls Try.prog 15 #[] W (Ret (.bool true) W)) (y : Ly) (C : Option Addr) (cc : Nat) (rs : List Rl) (Q : Option Addr) (qc : Nat) (ps : List (List Pt)) (w : World)
    (hy : LyOk w y) (hr : rs.length ≤ cc ∧ cc ≤ maxLen ∧ Rolls w C rs) (hp : ps.length ≤ qc ∧ qc ≤ maxLen ∧ Polys w Q ps ∧ ∀ l ∈ ps, ∀ p ∈ l, I64 p.x ∧ I64 p.y) :
    Calls Try.prog 6 #[y.agg, .slice C rs.length cc, .slice Q ps.length qc] w (Ret (.bool true) w) := by
  rcases hf : fewB y.ys rs ps with _ | _
  · exact law39_DamageClean_out hex y C Q cc qc rs ps w hy hr.2.2 hp.2.2.1 (.inl hf)
  · rcases Classical.em (tabErr rs ps y.ys = 0) with h | h
    · exact law39_DamageClean_in hex y C Q cc qc rs ps w hy hr.2.2 hp.2.2.1 hf h
    · exact law39_DamageClean_out hex y C Q cc qc rs ps w hy hr.2.2 hp.2.2.1 (.inr h)

end Go.Proofs.Ytolddfapanabbaa
