/-
  The walk of fill.Step, where nothing fails but the search for a place.
-/
import Derived.Test.YtdhakoecjmaebaaGreatZStpA
namespace Go.Proofs.YtdhakoecjmaebaaGreat
open Go.RowKit Go.Lib
set_option linter.unusedSimpArgs false
set_option linter.unusedVariables false

theorem bag_addnE (g : Nat) (l : List En) (e : En) (F : Nat → Prop) (o : Option Nat) (v0 : Value) (A : Option Addr) (c : Nat) (w : World) (hb : BagE w g l F o v0) (hA : ∀ b o, A = some ⟨b, o, none⟩ → ¬ F b ∧ b < w.heap.size) (px : Ens w A [e]) (hx : I64E e) (hl : l.length ≤ 59999) (hin : e ∉ l) :
    Calls Tryz.prog 53 #[.pointer (some ⟨g, 0, none⟩), .slice A 1 c] w (fun en w' => en = .returned (.tuple #[]) ∧ ∃ o v, BagE w' g (l ++ [e]) (fun k => F k ∨ w.heap.size ≤ k) o v ∧ Keep F w w') := by
  have h := bag_addE g l [e] F o v0 A c w hb hA px (fun p hp => by rw [List.mem_singleton.1 hp]; exact hx) (by simp; omega)
  unfold AddPostE at h
  rw [show addAllE l [e] = l ++ [e] by unfold addAllE addE; rw [List.foldl_cons, List.foldl_nil, if_neg hin]] at h
  exact h
theorem ens_of_blk {w : World} {g : Nat} {E : TypeId} {e : En} (h : Blk w g E #[.int .i64 e.p.sh, .bool e.p.fl, .int .i64 e.p.q, .int .i64 e.p.x, .int .i64 e.p.y, .int .i64 e.r]) : Ens w (some ⟨g, 0, none⟩) [e] := fun _ => ⟨g, 0, rfl, fun i p hp => by
  rcases i with _ | i
  · simp at hp
    subst hp
    refine ⟨fun j u hu => ?_, trivial⟩
    rw [show 0 + 0 * 6 + j = j by omega, h.cell, ← Array.getElem?_toList]
    exact hu
  · simp at hp⟩
theorem endO_len {b : Bd} {l : List Sh} {puts : List Pu} {sh : Int} {s : Sh} {placed : List (List Pt)} {q : Int} : (endOf b l puts sh s placed q).length ≤ 1 := by
  unfold endOf
  split <;> simp
theorem endO_bd {f : Int → List En} (hf : ∀ q, (f q).length ≤ 1) : ∀ (l : List Int), (l.flatMap f).length ≤ l.length
  | [] => by simp
  | q :: l => by
    have h1 := endO_bd hf l
    have h2 := hf q
    rw [List.flatMap_cons, List.length_append, List.length_cons]
    omega
theorem step_join {w2 w5 w8 X w23 : World} {g n0 n1 : Nat} {l : List En} {o : Option Nat} {v : Value} (h28 : Later w2 w8) (hX : Later w8 X) (hge : g = w2.heap.size) (hg0 : g < n0) (hz : n1 ≤ w8.heap.size)
    (hK : Keep (fun i => g ≤ i ∧ (i < n0 ∨ n1 ≤ i) ∧ i < w8.heap.size) X w23) (hB : BagE w23 g l (fun k => (g ≤ k ∧ (k < n0 ∨ n1 ≤ k) ∧ k < w8.heap.size) ∨ X.heap.size ≤ k) o v) (hk : ∀ i, n0 ≤ i → i < n1 → w8.heap[i]? = w5.heap[i]?) :
    BagE w23 g l (fun i => g ≤ i ∧ (i < n0 ∨ n1 ≤ i) ∧ i < w23.heap.size) o v ∧ Later w2 w23 ∧ (∀ i, n0 ≤ i → i < n1 → w23.heap[i]? = w5.heap[i]?) ∧ n1 ≤ w23.heap.size := by
  have s1 := h28.size
  have s2 := hX.size
  have s3 := hK.2.2.2.1
  refine ⟨hB.cut.mono fun i hi => ?_, Later.keep (h28.trans hX) hK fun j hj => by omega, fun i h1 h2 => ?_, by omega⟩
  · obtain ⟨h1, h2⟩ := hi
    rcases h1 with h1 | h1
    · exact ⟨h1.1, h1.2.1, h2⟩
    · exact ⟨by omega, Or.inr (by omega), h2⟩
  · exact (hK.2.2.2.2 i (by omega) (fun hf => by omega)).trans ((hX.block i (by omega)).trans (hk i h1 h2))
def StepPost (r : Pu × Int) (w : World) (e : Ending) (w' : World) : Prop := e = .returned (.tuple #[r.1.agg, .int .i64 r.2]) ∧ Later w w'
set_option maxHeartbeats 16000000 in
set_option maxRecDepth 100000 in
theorem fill_Step (b : Bd) (C P : Option Addr) (cc pc : Nat) (l : List Sh) (puts : List Pu) (ks : Nat) (w : World) (hs : Shapes w C l) (hl : l.length ≤ 65536) (hlen : ∀ s ∈ l, s.ps.length ≤ 6) (hpu : Puts w P puts) (hpn : puts.length ≤ 3) (hks : ks < l.length)
    (hbl : 1 ≤ b.l ∧ b.l ≤ 1048576) (hbw : 1 ≤ b.w ∧ b.w ≤ 1048576) (h0 : (polyR l ⟨ks, false, 0, 0, 0⟩).2 = 0) (h1 : (polysR l puts).2 = 0) (h2 : ∀ q ∈ turnsR (gs l ks).gr, (polyR l ⟨ks, false, q, 0, 0⟩).2 = 0) :
    Calls Tryz.prog 24 #[b.agg, .slice C l.length cc, .slice P puts.length pc, .int .i64 ks] w (StepPost (stepR b l puts ks) w) := by
  obtain ⟨hp1, hp2⟩ := polys_ok h1
  have hpe : prepE b l puts ks false 0 = 0 := by
    unfold prepE
    rw [if_neg (by omega), if_neg (by simpa using h0)]
    exact h1
  have HSt := Lib.hid (step_of hpe (by simpa using h2))
  simp only [Int.toNat_natCast] at HSt
  have hlen' : ∀ s ∈ l, s.ps.length ≤ 1099511627776 := fun s h => by have := hlen s h; omega
  have HPr := Lib.hid (fun W (hW : Later w W) => fill_prepare b C P cc pc l puts ks false 0 W (hs.later hW) hl hlen' (hpu.later hW) (by omega) hbl hbw h0 h1)
  have gsk : gs l ks = l[ks] := by simp [gs, hks]
  rw [gsk] at HSt h2
  have HAl := Lib.hid (fun W => turn_All (l[ks]).gr W)
  have HPo := Lib.hid (fun q (hq : q ∈ turnsR (l[ks]).gr) W (hW : Later w W) => place_Poly_yes C cc l ⟨ks, false, q, 0, 0⟩ W (hs.later hW) hl hlen' (h2 q hq))
  have t6 : ∀ q ∈ turnsR (l[ks]).gr, (polyR l ⟨ks, false, q, 0, 0⟩).1.length ≤ 6 := fun q hq => by
    obtain ⟨_, _, _, _, _, g6⟩ := poly_zero (h2 q hq)
    rw [g6]
    unfold placedPs
    rw [List.length_map, turnPs_len]
    simp only [Int.toNat_natCast, gsk]
    exact hlen _ (List.getElem_mem hks)
  have tk : ∀ q ∈ turnsR (l[ks]).gr, checkI (polyR l ⟨ks, false, q, 0, 0⟩).1 = 0 := fun q hq => (polyR_ok (h2 q hq)).2.2
  have p6 : ∀ u ∈ (polysR l puts).1, u.length ≤ 6 := by
    rw [hp1]
    intro u hu
    obtain ⟨p, hp, rfl⟩ := List.mem_map.1 hu
    obtain ⟨g1, g2, _, _, _, g6⟩ := poly_zero (hp2 p hp)
    rw [g6]
    unfold placedPs
    rw [List.length_map, turnPs_len]
    have hz : p.sh.toNat < l.length := by omega
    rw [show gs l p.sh.toNat = l[p.sh.toNat] by simp [gs, hz]]
    exact hlen _ (List.getElem_mem hz)
  have pk : ∀ u ∈ (polysR l puts).1, checkI u = 0 := by
    rw [hp1]
    intro u hu
    obtain ⟨p, hp, rfl⟩ := List.mem_map.1 hu
    exact (polyR_ok (hp2 p hp)).2.2
  have pl : (polysR l puts).1.length ≤ 3 := by rw [hp1, List.length_map]; exact hpn
  have HFi := Lib.hid (fun (p : Pu) W (hW : Later w W) => place_Fits b C P cc pc l puts p W (hs.later hW) hl hlen' (hpu.later hW) (by omega))
  have Htk := Lib.hid tk
  have Ht6 := Lib.hid t6
  have Hp6 := Lib.hid p6
  have Hpk := Lib.hid pk
  have Hhs := Lib.hid hs
  clear hp1 hp2 hpe h0 h1 hlen' hlen hpu tk t6 p6 pk hs gsk
  generalize (polysR l puts).1 = placed at *
  generalize (polyR l ⟨ks, false, 0, 0, 0⟩).1 = t0 at *
  have HnR := Lib.hid (show (turnsR (l[ks]).gr).Nodup from (show ([0, 1, 2, 3] : List Int).Nodup by decide).filter _)
  have hR4 : (turnsR (l[ks]).gr).length ≤ 4 := List.length_filter_le _ _
  have HRq := Lib.hid (fun q (hq : q ∈ turnsR (l[ks]).gr) => (by
    have := turns_sub hq
    simp only [List.mem_cons, List.not_mem_nil, or_false] at this
    omega : 0 ≤ q ∧ q ≤ 3))
  generalize stepR b l puts ks = R at *
  generalize turnsR (l[ks]).gr = ts at *
  unfold PrepPost at HPr
  obtain ⟨bl, bw, brx, bry⟩ := b
  unfold Bd.agg at *
  simp only [] at hbl hbw HPr HFi ⊢
  go_enter Tryz.func24, Tryz.ntmps24
  go_upto_region 1 with fail
  refine name_world (fun W1 hW1 => ?_)
  have hl1 : Later w W1 := by rw [hW1]; exact (by repeat' (with_reducible first | exact Later.refl _ | assumption | refine Later.drew ?_ | refine Later.drewN ?_ _ | refine Later.alloc ?_ _ | refine Later.put ?_ (by omega) _ | refine Later.trans ?_ (by assumption)))
  have B4 : Blk W1 w.heap.size 25 #[.int .i64 bl, .int .i64 bw, .int .i64 brx, .int .i64 bry] := by rw [hW1]; exact (by repeat' (with_reducible first | assumption | (refine Blk.newAt ?_; simp; done) | refine Blk.alloc ?_ _ | refine Blk.drew ?_ | refine Blk.drewN ?_ _ | refine Blk.later ?_ (by assumption)))
  have B8 : Blk W1 (w.heap.size + 1) 44 #[.int .i64 0, .bool false, .int .i64 0, .int .i64 0, .int .i64 0] := by rw [hW1]; exact (by repeat' (with_reducible first | assumption | (refine Blk.newAt ?_; simp; done) | refine Blk.alloc ?_ _ | refine Blk.drew ?_ | refine Blk.drewN ?_ _ | refine Blk.later ?_ (by assumption)))
  clear hW1
  obtain ⟨g4, hg4⟩ : ∃ g, g = w.heap.size := ⟨_, rfl⟩
  obtain ⟨g8, hg8⟩ : ∃ g, g = w.heap.size + 1 := ⟨_, rfl⟩
  have hg8w : w.heap.size ≤ g8 := by omega
  have hg48 : g4 ≠ g8 := by omega
  rw [← hg8] at B8
  rw [← hg4] at B4
  rw [← hg8, ← hg4]
  clear hg4 hg8
  have b0 : W1.cell? ⟨g4, 0, none⟩ = some (.int .i64 bl) := B4.cell 0
  have b1 : W1.cell? ⟨g4, 1, none⟩ = some (.int .i64 bw) := B4.cell 1
  have b2 : W1.cell? ⟨g4, 2, none⟩ = some (.int .i64 brx) := B4.cell 2
  have b3 : W1.cell? ⟨g4, 3, none⟩ = some (.int .i64 bry) := B4.cell 3
  have zb4 := B4.lt
  go_upto_region 4 with (go_at_call 49; (with_reducible refine (HPr.out _ hl1).mono ?_); rintro e w2 ⟨A1, c1, A2, c2, rfl, _, _, p2, hb2⟩)
  have Hp2 := Lib.hid p2
  have hl2 : Later w w2 := hl1.trans hb2
  have C4 := B4.later hb2
  have C8 := B8.later hb2
  clear b0 b1 b2 b3 zb4 B4 B8 hb2 p2
  go_upto_region 5 with fail
  refine name_world (fun W4 hW4 => ?_)
  have hl24 : Later w2 W4 := by rw [hW4]; exact (by repeat' (with_reducible first | exact Later.refl _ | assumption | refine Later.drew ?_ | refine Later.drewN ?_ _ | refine Later.alloc ?_ _ | refine Later.put ?_ (by omega) _ | refine Later.trans ?_ (by assumption)))
  have hBag0 : Blk W4 w2.heap.size 121 #[.map none, .slice none 0 0] := by rw [hW4]; exact (by repeat' (with_reducible first | assumption | (refine Blk.newAt ?_; simp; done) | refine Blk.alloc ?_ _ | refine Blk.drew ?_ | refine Blk.drewN ?_ _ | refine Blk.later ?_ (by assumption)))
  clear hW4
  have hB4 := Lib.hid (show BagE W4 w2.heap.size [] (fun i => w2.heap.size ≤ i ∧ i < W4.heap.size) none (.slice none 0 0) from ⟨hBag0, World.ownsRow_nil _ _ _ _, fun _ => rfl, fun m e => (by cases e), ⟨Nat.le_refl _, hBag0.lt⟩, fun k e => by cases e⟩)
  clear hBag0
  obtain ⟨g, hge⟩ : ∃ g, g = w2.heap.size := ⟨_, rfl⟩
  rw [← hge] at hB4
  rw [← hge]
  have Hge := Lib.hid hge
  clear hge
  obtain ⟨bs, os, eC, xw0, xw1, xw2, xw3, xw4, _⟩ := Hhs.out.at_ hks
  subst eC
  have XW := Lib.hid (And.intro xw0 (And.intro xw1 (And.intro xw2 (And.intro xw3 xw4))))
  have zbw : bs < w.heap.size := World.block_lt_of_cell? _ _ xw0
  have x1 := (hl2.trans hl24).cell xw1
  have zbs : bs < W4.heap.size := by have := (hl2.trans hl24).size; omega
  clear xw0 xw1 xw2 xw3 xw4
  have hks0 : (0 : Int) ≤ (ks : Int) := by omega
  have hks1 : (ks : Int) < (l.length : Int) := by omega
  go_upto_region 6 with (go_at_call 50; (with_reducible refine (HAl.out _).mono ?_); rintro e w5 ⟨v5, rfl, ho5, hb5⟩; obtain ⟨A5, c5, rfl, _, _, hx5⟩ := ho5.form tn2_len)
  have hl5 : Later w2 w5 := hl24.trans hb5
  obtain ⟨n0, hn0⟩ : ∃ n, n = W4.heap.size := ⟨_, rfl⟩
  obtain ⟨n1, hn1⟩ : ∃ n, n = w5.heap.size := ⟨_, rfl⟩
  have hg0 : g < n0 := by rw [hn0]; exact hB4.out.blk.lt
  have h01 : n0 ≤ n1 := by rw [hn0, hn1]; exact hb5.size
  have Hrow := Lib.hid (show ∀ k (hk : k < ts.length), ∃ bt, A5 = some ⟨bt, 0, none⟩ ∧ n0 ≤ bt ∧ bt < n1 ∧ w5.cell? ⟨bt, k * 2, none⟩ = some (.bool false) ∧ w5.cell? ⟨bt, k * 2 + 1, none⟩ = some (.int .i64 ts[k]) from fun k hk => by
    obtain ⟨bt, e, h1, h2, _, h4⟩ := hx5 (by omega)
    have q0 := h4 k _ (List.getElem?_eq_getElem hk) 0 _ rfl
    have q1 := h4 k _ (List.getElem?_eq_getElem hk) 1 _ rfl
    rw [Nat.zero_add] at q0 q1
    exact ⟨bt, e, by omega, by omega, q0, q1⟩)
  have HB5 := Lib.hid (show BagE w5 g [] (fun i => g ≤ i ∧ (i < n0 ∨ n1 ≤ i) ∧ i < w5.heap.size) none (.slice none 0 0) from (hB4.out.later hb5).mono (fun i hi => by have := Hge.out; omega))
  have hn1' : n1 ≤ w5.heap.size := by omega
  clear hx5 ho5 hB4 hn0 hn1 x1 zbs hb5 hl24
  generalize hsk : l[ks] = s at *
  clear hsk
  go_loopw [46] (fun iv wr => ∃ (k : Nat) (acc : List En) (o : Option Nat) (v : Value), k ≤ ts.length ∧ iv = .int .i64 k ∧ BagE wr g acc (fun i => g ≤ i ∧ (i < n0 ∨ n1 ≤ i) ∧ i < wr.heap.size) o v ∧ Hid (acc = (ts.take k).flatMap (endOf ⟨bl, bw, brx, bry⟩ l puts ks s placed)) ∧ Later w2 wr ∧ Hid (∀ i, n0 ≤ i → i < n1 → wr.heap[i]? = w5.heap[i]?) ∧ n1 ≤ wr.heap.size) (fun iv _ => ts.length - (intOf iv).toNat)
  case atStart => exact ⟨0, [], none, .slice none 0 0, by omega, rfl, HB5.out, Lib.hid rfl, hl5, Lib.hid (fun _ _ _ => rfl), hn1'⟩
  case round =>
    obtain ⟨k, acc, o, v, hk, rfl, hB, Hac, hbl5, Hkp, hzn⟩ := hrel
    have HBk := Lib.hid hB
    clear hB
    by_cases hlt : k < ts.length
    · obtain ⟨bt, rfl, hbt0, hbt1, q0, q1⟩ := Hrow.out k hlt
      have hcell : ∀ j, wr.cell? ⟨bt, j, none⟩ = w5.cell? ⟨bt, j, none⟩ := fun j => World.cell?_of_block (a := ⟨bt, j, none⟩) (Hkp.out bt hbt0 hbt1)
      rw [← hcell] at q0 q1
      clear hcell
      have zbt : bt < wr.heap.size := by omega
      have hqm := List.getElem_mem hlt
      have Hnx := Lib.hid (ends_next (f := endOf ⟨bl, bw, brx, bry⟩ l puts ks s placed) hlt)
      have Hnot := Lib.hid (show ∀ e ∈ acc, e.p.q ≠ ts[k] from fun e he hq => by
        rw [Hac.out, List.mem_flatMap] at he
        obtain ⟨q', hq', he⟩ := he
        rw [end_q e he] at hq
        obtain ⟨i, hi, rfl⟩ := List.getElem_of_mem hq'
        rw [List.length_take] at hi
        rw [List.getElem_take] at hq
        have := (List.nodup_iff_pairwise_ne.1 HnR.out)
        have h3 := List.pairwise_iff_getElem.1 this i k (by omega) hlt (by omega)
        exact h3 hq)
      have hacl : acc.length ≤ 4 := by
        have := endO_bd (f := endOf ⟨bl, bw, brx, bry⟩ l puts ks s placed) (fun _ => endO_len) (ts.take k)
        rw [← Hac.out, List.length_take] at this
        omega
      have HPq := Lib.hid (fun W (hW : Later wr W) => HPo.out _ hqm W ((hl2.trans hbl5).trans hW))
      have kt := Htk.out _ hqm
      have nt := Ht6.out _ hqm
      have Heo := Lib.hid (show endOf ⟨bl, bw, brx, bry⟩ l puts ks s placed ts[k] = match firstFit ⟨bl, bw, brx, bry⟩ l puts ks ts[k] (candR ⟨bl, bw, brx, bry⟩ s false ts[k] (polyR l ⟨ks, false, ts[k], 0, 0⟩).1 placed) with | some p => [⟨p, p.x + (hiOf (polyR l ⟨ks, false, ts[k], 0, 0⟩).1).x⟩] | none => [] from rfl)
      have hqb := HRq.out _ hqm
      unfold PolyOk Pu.agg at HPq
      simp only [] at HPq
      clear hqm
      generalize hqe : ts[k] = q at *
      clear hqe
      generalize (polyR l ⟨ks, false, q, 0, 0⟩).1 = tq at *
      go_upto_region 8 with fail
      refine name_world (fun W8 hW8 => ?_)
      have hb8 : Later wr W8 := by rw [hW8]; exact (by repeat' (with_reducible first | exact Later.refl _ | assumption | refine Later.drew ?_ | refine Later.drewN ?_ _ | refine Later.alloc ?_ _ | refine Later.put ?_ (by omega) _ | refine Later.trans ?_ (by assumption)))
      have Dt : Blk W8 wr.heap.size 42 #[.bool false, .int .i64 q] := by rw [hW8]; exact (by repeat' (with_reducible first | assumption | (refine Blk.newAt ?_; simp; done) | refine Blk.alloc ?_ _ | refine Blk.drew ?_ | refine Blk.drewN ?_ _ | refine Blk.later ?_ (by assumption)))
      clear hW8 q0 q1 zbt
      obtain ⟨gt, hgt⟩ : ∃ g, g = wr.heap.size := ⟨_, rfl⟩
      rw [← hgt] at Dt
      rw [← hgt]
      clear hgt
      have k0 : W8.cell? ⟨gt, 0, none⟩ = some (.bool false) := Dt.cell 0
      have k1 : W8.cell? ⟨gt, 1, none⟩ = some (.int .i64 q) := Dt.cell 1
      have zt := Dt.lt
      go_upto_region 11 with (go_at_call 9; (with_reducible refine (HPq.out _ hb8).mono ?_); rintro e w9 ⟨A6, c6, rfl, hc6, _, p9, hb9⟩)
      have Hp9 := Lib.hid p9
      have HBx := Lib.hid (fun W (hW : Later w9 W) => polygon_Box_ok A6 c6 tq W (by omega) hc6 (Hp9.out.later hW) kt)
      clear p9 k0 k1 zt
      have D9 := Dt.later hb9
      have hl9 : Later wr w9 := hb8.trans hb9
      go_upto_region 14 with (go_at_call 10; (with_reducible refine (HBx.out _ (Later.refl _)).mono ?_); rintro e w10 ⟨rfl, hb10⟩)
      refine name_world (fun W11 hW11 => ?_)
      have hb1011 : Later w10 W11 := by rw [hW11]; exact (by repeat' (with_reducible first | exact Later.refl _ | assumption | refine Later.drew ?_ | refine Later.drewN ?_ _ | refine Later.alloc ?_ _ | refine Later.put ?_ (by omega) _ | refine Later.trans ?_ (by assumption)))
      have DB : Blk W11 w10.heap.size 48 #[.int .i64 (loOf tq).x, .int .i64 (loOf tq).y, .int .i64 ((hiOf tq).x - (loOf tq).x), .int .i64 ((hiOf tq).y - (loOf tq).y)] := by rw [hW11]; exact (by repeat' (with_reducible first | assumption | (refine Blk.newAt ?_; simp; done) | refine Blk.alloc ?_ _ | refine Blk.drew ?_ | refine Blk.drewN ?_ _ | refine Blk.later ?_ (by assumption)))
      clear hW11
      have hb911 : Later w9 W11 := hb10.trans hb1011
      have hl11 : Later wr W11 := hl9.trans hb911
      have hl211 : Later w2 W11 := hbl5.trans hl11
      have D11 := D9.later hb911
      have E4 := C4.later hl211
      obtain ⟨g18, hg18⟩ : ∃ g, g = w10.heap.size := ⟨_, rfl⟩
      rw [← hg18] at DB
      rw [← hg18]
      clear hg18
      have hlw11 : Later w W11 := hl2.trans hl211
      have hzz11 := hlw11.size
      obtain ⟨xa, xb, xc, xd, xe⟩ := XW.out
      have HCd := Lib.hid (fun W (hW : Later W11 W) => fill_candidates ⟨bl, bw, brx, bry⟩ s false q A6 A2 c6 c2 tq placed W hc6 ((Hp9.out.later hb911).later hW) ((Hp2.out.later hl211).later hW) kt Hpk.out nt Hp6.out pl hbw)
      have hvn := cand_near (b := ⟨bl, bw, brx, bry⟩) (s := s) (f := false) (q := q) (t := tq) (placed := placed) kt hbw
      have hvl := cand_len (b := ⟨bl, bw, brx, bry⟩) (s := s) (f := false) (q := q) nt Hp6.out pl
      have hlo := loOf_near kt
      have hhi := hiOf_near kt
      unfold Bd.agg Sh.agg SpotsPost at HCd
      simp only [] at HCd
      have Hvn := Lib.hid hvn
      clear hvn
      generalize candR ⟨bl, bw, brx, bry⟩ s false q tq placed = vs at *
      have hS : ∀ w' : World, Later W11 w' → (w'.cell? ⟨g4, 0, none⟩ = some (.int .i64 bl) ∧ w'.cell? ⟨g4, 1, none⟩ = some (.int .i64 bw) ∧ w'.cell? ⟨g4, 2, none⟩ = some (.int .i64 brx) ∧ w'.cell? ⟨g4, 3, none⟩ = some (.int .i64 bry) ∧ w'.cell? ⟨bs, os + ks * 5, none⟩ = some (.slice s.pa s.ps.length s.pc) ∧ w'.cell? ⟨bs, os + ks * 5 + 1, none⟩ = some (.int .i64 s.gr) ∧ w'.cell? ⟨bs, os + ks * 5 + 2, none⟩ = some (.bool s.mt) ∧ w'.cell? ⟨bs, os + ks * 5 + 3, none⟩ = some (.int .i64 s.ax) ∧ w'.cell? ⟨bs, os + ks * 5 + 4, none⟩ = some (.int .i64 s.ay) ∧ w'.cell? ⟨gt, 0, none⟩ = some (.bool false) ∧ w'.cell? ⟨gt, 1, none⟩ = some (.int .i64 q) ∧ g4 < w'.heap.size ∧ bs < w'.heap.size ∧ gt < w'.heap.size) := fun w' h => ⟨(E4.later h).cell 0, (E4.later h).cell 1, (E4.later h).cell 2, (E4.later h).cell 3, h.cell (hlw11.cell xa), h.cell (hlw11.cell xb), h.cell (hlw11.cell xc), h.cell (hlw11.cell xd), h.cell (hlw11.cell xe), (D11.later h).cell 0, (D11.later h).cell 1, (E4.later h).lt, by have := h.size; omega, (D11.later h).lt⟩
      clear xa xb xc xd xe
      refine wp_region_held_drew (S := fun w' : World => w'.cell? ⟨g4, 0, none⟩ = some (.int .i64 bl) ∧ w'.cell? ⟨g4, 1, none⟩ = some (.int .i64 bw) ∧ w'.cell? ⟨g4, 2, none⟩ = some (.int .i64 brx) ∧ w'.cell? ⟨g4, 3, none⟩ = some (.int .i64 bry) ∧ w'.cell? ⟨bs, os + ks * 5, none⟩ = some (.slice s.pa s.ps.length s.pc) ∧ w'.cell? ⟨bs, os + ks * 5 + 1, none⟩ = some (.int .i64 s.gr) ∧ w'.cell? ⟨bs, os + ks * 5 + 2, none⟩ = some (.bool s.mt) ∧ w'.cell? ⟨bs, os + ks * 5 + 3, none⟩ = some (.int .i64 s.ax) ∧ w'.cell? ⟨bs, os + ks * 5 + 4, none⟩ = some (.int .i64 s.ay) ∧ w'.cell? ⟨gt, 0, none⟩ = some (.bool false) ∧ w'.cell? ⟨gt, 1, none⟩ = some (.int .i64 q) ∧ g4 < w'.heap.size ∧ bs < w'.heap.size ∧ gt < w'.heap.size) (by kernel_rfl) (hS _ (Later.refl _).drew) (fun hHeld => ?_)
      refine take_at (i := 0) (d := 72) (v := ?_) rfl rfl (by kernel_rfl) (by kernel_rfl) (by kernel_rfl) (fun _ _ _ h => h) (by rfl) ?_ (by assumption) ?_
      rotate_left
      · (intro w hSw; (try dsimp only at hSw); go_simp; (try with_reducible rfl))
      simp only [Act.put, List.setIfInBounds_toArray, List.set_cons_zero, List.set_cons_succ]
      refine take_at (i := 1) (d := 73) (v := ?_) rfl rfl (by kernel_rfl) (by kernel_rfl) (by kernel_rfl) (fun _ _ _ h => h) (by rfl) ?_ (by assumption) ?_
      rotate_left
      · (intro w hSw; (try dsimp only at hSw); go_simp; (try with_reducible rfl))
      simp only [Act.put, List.setIfInBounds_toArray, List.set_cons_zero, List.set_cons_succ]
      refine take_at (i := 2) (d := 74) (v := ?_) rfl rfl (by kernel_rfl) (by kernel_rfl) (by kernel_rfl) (fun _ _ _ h => h) (by rfl) ?_ (by assumption) ?_
      rotate_left
      · (intro w hSw; (try dsimp only at hSw); go_simp; (try with_reducible rfl))
      simp only [Act.put, List.setIfInBounds_toArray, List.set_cons_zero, List.set_cons_succ]
      refine take_at (i := 3) (d := 75) (v := ?_) rfl rfl (by kernel_rfl) (by kernel_rfl) (by kernel_rfl) (fun _ _ _ h => h) (by rfl) ?_ (by assumption) ?_
      rotate_left
      · (intro w hSw; (try dsimp only at hSw); go_simp; (try with_reducible rfl))
      simp only [Act.put, List.setIfInBounds_toArray, List.set_cons_zero, List.set_cons_succ]
      refine take_at (i := 4) (d := 76) (v := ?_) rfl rfl (by kernel_rfl) (by kernel_rfl) (by kernel_rfl) (fun _ _ _ h => h) (by rfl) ?_ (by assumption) ?_
      rotate_left
      · (intro w hSw; (try dsimp only at hSw); go_simp; (try with_reducible rfl))
      simp only [Act.put, List.setIfInBounds_toArray, List.set_cons_zero, List.set_cons_succ]
      refine take_at (i := 5) (d := 77) (v := ?_) rfl rfl (by kernel_rfl) (by kernel_rfl) (by kernel_rfl) (fun _ _ _ h => h) (by rfl) ?_ (by assumption) ?_
      rotate_left
      · (intro w hSw; (try dsimp only at hSw); go_simp; (try with_reducible rfl))
      simp only [Act.put, List.setIfInBounds_toArray, List.set_cons_zero, List.set_cons_succ]
      refine take_at (i := 6) (d := 78) (v := ?_) rfl rfl (by kernel_rfl) (by kernel_rfl) (by kernel_rfl) (fun _ _ _ h => h) (by rfl) ?_ (by assumption) ?_
      rotate_left
      · (intro w hSw; (try dsimp only at hSw); go_simp; (try with_reducible rfl))
      simp only [Act.put, List.setIfInBounds_toArray, List.set_cons_zero, List.set_cons_succ]
      refine take_at (i := 7) (d := 79) (v := ?_) rfl rfl (by kernel_rfl) (by kernel_rfl) (by kernel_rfl) (fun _ _ _ h => h) (by rfl) ?_ (by assumption) ?_
      rotate_left
      · (intro w hSw; (try dsimp only at hSw); go_simp; (try with_reducible rfl))
      simp only [Act.put, List.setIfInBounds_toArray, List.set_cons_zero, List.set_cons_succ]
      clear hHeld
      refine call_at (i := 8) (d := 80) (f := 51) (args := #[.agg #[.int .i64 bl, .int .i64 bw, .int .i64 brx, .int .i64 bry], .agg #[.slice s.pa s.ps.length s.pc, .int .i64 s.gr, .bool s.mt, .int .i64 s.ax, .int .i64 s.ay], .agg #[.bool false, .int .i64 q], .slice A6 tq.length c6, .slice A2 placed.length c2]) (by kernel_rfl) rfl rfl (by rfl) (by go_simp) ?_
      refine (HCd.out _ (Later.refl _).drew).mono ?_
      rintro e w8 ⟨v8, rfl, ho8, hb8⟩
      have hb8' : Later W11 w8 := (Later.refl _).drew.trans hb8
      refine ⟨_, rfl, hS _ hb8', fun hHeld => ?_⟩
      simp only [Act.put, List.setIfInBounds_toArray, List.set_cons_zero, List.set_cons_succ]
      refine take_at (i := 9) (d := 71) (v := ?_) rfl rfl (by kernel_rfl) (by kernel_rfl) (by kernel_rfl) (fun _ _ _ h => h) (by rfl) ?_ (by assumption) ?_
      rotate_left
      · (intro w hSw; (try dsimp only at hSw); go_simp; (try with_reducible rfl))
      simp only [Act.put, List.setIfInBounds_toArray, List.set_cons_zero, List.set_cons_succ]
      refine take_at (i := 10) (d := 81) (v := ?_) rfl rfl (by kernel_rfl) (by kernel_rfl) (by kernel_rfl) (fun _ _ _ h => h) (by rfl) ?_ (by assumption) ?_
      rotate_left
      · (intro w hSw; (try dsimp only at hSw); go_simp; (try with_reducible rfl))
      simp only [Act.put, List.setIfInBounds_toArray, List.set_cons_zero, List.set_cons_succ]
      refine take_at (i := 11) (d := 82) (v := ?_) rfl rfl (by kernel_rfl) (by kernel_rfl) (by kernel_rfl) (fun _ _ _ h => h) (by rfl) ?_ (by assumption) ?_
      rotate_left
      · (intro w hSw; (try dsimp only at hSw); go_simp; (try with_reducible rfl))
      simp only [Act.put, List.setIfInBounds_toArray, List.set_cons_zero, List.set_cons_succ]
      refine take_at (i := 12) (d := 19) (v := ?_) rfl rfl (by kernel_rfl) (by kernel_rfl) (by kernel_rfl) (fun _ _ _ h => h) (by rfl) ?_ (by assumption) ?_
      rotate_left
      · (intro w hSw; (try dsimp only at hSw); go_simp; (try with_reducible rfl))
      simp only [Act.put, List.setIfInBounds_toArray, List.set_cons_zero, List.set_cons_succ]
      refine take_at (i := 13) (d := 17) (v := ?_) rfl rfl (by kernel_rfl) (by kernel_rfl) (by kernel_rfl) (fun _ _ _ h => h) (by rfl) ?_ (by assumption) ?_
      rotate_left
      · (intro w hSw; (try dsimp only at hSw); go_simp; (try with_reducible rfl))
      simp only [Act.put, List.setIfInBounds_toArray, List.set_cons_zero, List.set_cons_succ]
      clear hHeld hS
      refine wpAnyH_done (by kernel_rfl) ?_ _
      obtain ⟨A8, c8, rfl, _, _, p8⟩ := ho8.pts
      have Hp8 := Lib.hid p8
      have hl8 : Later wr w8 := hl11.trans hb8'
      have hl28 : Later w2 w8 := hl211.trans hb8'
      have F4 := E4.later hb8'
      have Ft := D11.later hb8'
      have FB := DB.later hb8'
      clear p8 ho8 hb8 D11 E4 DB
      go_upto_region 18 with fail
      have Hhi := Lib.hid (show (loOf tq).x + ((hiOf tq).x - (loOf tq).x) = (hiOf tq).x by omega)
      unfold NearP at hlo hhi
      have hlo1 := hlo.1
      have hlo2 := hlo.2.1
      have hhi1 := hhi.1
      have hhi2 := hhi.2.1
      clear hlo hhi
      obtain ⟨lx, hlx⟩ : ∃ x, x = (loOf tq).x := ⟨_, rfl⟩
      obtain ⟨wd, hwd⟩ : ∃ x, x = (hiOf tq).x - (loOf tq).x := ⟨_, rfl⟩
      rw [← hwd, ← hlx] at FB Hhi
      have hwb : -2097152 ≤ wd ∧ wd ≤ 2097152 := by omega
      have hlb : -1048576 ≤ lx ∧ lx ≤ 1048576 := by omega
      generalize (hiOf tq).x = hx at *
      clear hlx hwd
      have HB8 := Lib.hid (show BagE w8 g acc (fun i => g ≤ i ∧ (i < n0 ∨ n1 ≤ i) ∧ i < w8.heap.size) o v from (HBk.out.later hl8).mono (fun i hi => by have := hl8.size; omega))
      have Hk8 := Lib.hid (show ∀ i, n0 ≤ i → i < n1 → w8.heap[i]? = w5.heap[i]? from fun i h1 h2 => (hl8.block i (by omega)).trans (Hkp.out i h1 h2))
      have hz8 : n1 ≤ w8.heap.size := by have := hl8.size; omega
      go_loopw [89] (fun jv wq => ∃ j : Nat, j ≤ vs.length ∧ jv = .int .i64 j ∧ Hid (firstFit ⟨bl, bw, brx, bry⟩ l puts ks q vs = firstFit ⟨bl, bw, brx, bry⟩ l puts ks q (vs.drop j)) ∧ Later w8 wq) (fun jv _ => vs.length - (intOf jv).toNat)
      case atStart => exact ⟨0, by omega, rfl, Lib.hid rfl, Later.refl _⟩
      case round =>
        obtain ⟨j, hj, rfl, Hff, hbq⟩ := hrel
        by_cases hjl : j < vs.length
        · obtain ⟨b9, o9, rfl, x0, x1⟩ := (Hp8.out.later hbq).at_ hjl
          have zb9 := World.block_lt_of_cell? _ _ x0
          have Hfn := Lib.hid (fit_next (b := ⟨bl, bw, brx, bry⟩) (l := l) (puts := puts) (sh := ks) (q := q) hjl)
          have hpn := Hvn.out _ (List.getElem_mem hjl)
          generalize vs[j] = p at *
          obtain ⟨px, py⟩ := p
          unfold NearP at hpn
          simp only [] at x0 x1 hpn Hfn
          have HFp := Lib.hid (fun W (hW : Later w W) => HFi.out ⟨ks, false, q, px, py⟩ W hW)
          unfold Pu.agg at HFp
          simp only [] at HFp
          generalize fitsR ⟨bl, bw, brx, bry⟩ l puts ⟨ks, false, q, px, py⟩ = fv at *
          have G4 := F4.later hbq
          have Gt := Ft.later hbq
          have GB := FB.later hbq
          have t0' : wr.cell? ⟨gt, 0, none⟩ = some (.bool false) := Gt.cell 0
          have t1' : wr.cell? ⟨gt, 1, none⟩ = some (.int .i64 q) := Gt.cell 1
          have zt := Gt.lt
          go_upto_region 21 with fail
          refine name_world (fun W21 hW21 => ?_)
          have hb21 : Later wr W21 := by rw [hW21]; exact (by repeat' (with_reducible first | exact Later.refl _ | assumption | refine Later.drew ?_ | refine Later.drewN ?_ _ | refine Later.alloc ?_ _ | refine Later.put ?_ (by omega) _ | refine Later.trans ?_ (by assumption)))
          have Da : Blk W21 wr.heap.size 29 #[.int .i64 px, .int .i64 py] := by rw [hW21]; exact (by repeat' (with_reducible first | assumption | (refine Blk.newAt ?_; simp; done) | refine Blk.alloc ?_ _ | refine Blk.drew ?_ | refine Blk.drewN ?_ _ | refine Blk.later ?_ (by assumption)))
          have Dp : Blk W21 (wr.heap.size + 1) 44 #[.int .i64 ks, .bool false, .int .i64 q, .int .i64 px, .int .i64 py] := by rw [hW21]; exact (by repeat' (with_reducible first | assumption | (refine Blk.newAt ?_; simp; done) | refine Blk.alloc ?_ _ | refine Blk.drew ?_ | refine Blk.drewN ?_ _ | refine Blk.later ?_ (by assumption)))
          clear hW21 x0 x1 zb9 t0' t1' zt
          obtain ⟨ga, hga⟩ : ∃ g, g = wr.heap.size := ⟨_, rfl⟩
          obtain ⟨gp, hgp⟩ : ∃ g, g = wr.heap.size + 1 := ⟨_, rfl⟩
          rw [← hgp] at Dp
          rw [← hga] at Da
          rw [← hgp, ← hga]
          clear hgp hga
          have hq21 : Later w8 W21 := hbq.trans hb21
          have hw21 : Later w W21 := (hl2.trans hl28).trans hq21
          have K4 := G4.later hb21
          have b0 : W21.cell? ⟨g4, 0, none⟩ = some (.int .i64 bl) := K4.cell 0
          have b1 : W21.cell? ⟨g4, 1, none⟩ = some (.int .i64 bw) := K4.cell 1
          have b2 : W21.cell? ⟨g4, 2, none⟩ = some (.int .i64 brx) := K4.cell 2
          have b3 : W21.cell? ⟨g4, 3, none⟩ = some (.int .i64 bry) := K4.cell 3
          have zb4 := K4.lt
          have p0 : W21.cell? ⟨gp, 0, none⟩ = some (.int .i64 ks) := Dp.cell 0
          have p1 : W21.cell? ⟨gp, 1, none⟩ = some (.bool false) := Dp.cell 1
          have p2 : W21.cell? ⟨gp, 2, none⟩ = some (.int .i64 q) := Dp.cell 2
          have p3 : W21.cell? ⟨gp, 3, none⟩ = some (.int .i64 px) := Dp.cell 3
          have p4 : W21.cell? ⟨gp, 4, none⟩ = some (.int .i64 py) := Dp.cell 4
          have zp := Dp.lt
          by_cases hfv : fv = 0
          · have Hfe := Lib.hid (show firstFit ⟨bl, bw, brx, bry⟩ l puts ks q vs = some ⟨ks, false, q, px, py⟩ by rw [Hff.out, Hfn.out, if_pos hfv])
            have dv : (fv == 0) = true := by simpa using hfv
            have Heo2 := Lib.hid (show endOf ⟨bl, bw, brx, bry⟩ l puts ks s placed q = [⟨⟨ks, false, q, px, py⟩, px + lx + wd⟩] by
              rw [Heo.out, Hfe.out]
              have := Hhi.out
              simp only [List.cons.injEq, and_true, En.mk.injEq, true_and]
              omega)
            clear hfv
            go_upto_region 22 with (go_at_call 52; (with_reducible refine (HFp.out _ hw21).mono ?_); rintro e w22 ⟨rfl, hb22⟩)
            have L22 := hq21.trans hb22
            have M4 := Dp.later hb22
            have Ma := Da.later hb22
            have MB := (GB.later hb21).later hb22
            clear p0 p1 p2 p3 p4 zp b0 b1 b2 b3 zb4
            have p0 : w22.cell? ⟨gp, 0, none⟩ = some (.int .i64 ks) := M4.cell 0
            have p1 : w22.cell? ⟨gp, 1, none⟩ = some (.bool false) := M4.cell 1
            have p2 : w22.cell? ⟨gp, 2, none⟩ = some (.int .i64 q) := M4.cell 2
            have p3 : w22.cell? ⟨gp, 3, none⟩ = some (.int .i64 px) := M4.cell 3
            have p4 : w22.cell? ⟨gp, 4, none⟩ = some (.int .i64 py) := M4.cell 4
            have zp := M4.lt
            have a0 : w22.cell? ⟨ga, 0, none⟩ = some (.int .i64 px) := Ma.cell 0
            have za := Ma.lt
            have c0 : w22.cell? ⟨g18, 0, none⟩ = some (.int .i64 lx) := MB.cell 0
            have c2 : w22.cell? ⟨g18, 2, none⟩ = some (.int .i64 wd) := MB.cell 2
            have zc := MB.lt
            have hz22 := L22.size
            have HA2 := Lib.hid (fun (W : World) (hW : Later w22 W) (hp : Ens W (some ⟨w22.heap.size, 0, none⟩) [⟨⟨ks, false, q, px, py⟩, px + lx + wd⟩]) (hz : w22.heap.size < W.heap.size) =>
              bag_addnE g acc ⟨⟨ks, false, q, px, py⟩, px + lx + wd⟩ (fun i => g ≤ i ∧ (i < n0 ∨ n1 ≤ i) ∧ i < w8.heap.size) o v (some ⟨w22.heap.size, 0, none⟩) 1 W ((HB8.out.later L22).later hW) (fun b o e => by cases e; exact ⟨fun hh => by omega, hz⟩) hp (by
                unfold I64E R64
                simp only []
                omega) (by omega) (fun hin => Hnot.out _ hin rfl))
            go_wp2_with (go_at_call 53; (with_reducible refine (HA2.out _ (by repeat' (with_reducible first | exact Later.refl _ | assumption | refine Later.drew ?_ | refine Later.drewN ?_ _ | refine Later.alloc ?_ _ | refine Later.put ?_ (by omega) _ | refine Later.trans ?_ (by assumption))) (by exact ens_of_blk (Blk.new _ _ _)) (by simp)).mono ?_); rintro e w23 ⟨rfl, o23, v23, hB23, hK23⟩)
            obtain ⟨j1, j2, j3, j4⟩ := step_join hl28 (by exact (by repeat' (with_reducible first | exact Later.refl _ | assumption | refine Later.drew ?_ | refine Later.drewN ?_ _ | refine Later.alloc ?_ _ | refine Later.put ?_ (by omega) _ | refine Later.trans ?_ (by assumption)))) Hge.out hg0 hz8 hK23 hB23 Hk8.out
            refine ⟨⟨k + 1, _, o23, v23, by omega, by go_num, j1, Lib.hid (by rw [Hnx.out, Heo2.out, Hac.out]), j2, Lib.hid j3, j4⟩, ?_⟩
            simp [intOf]
            omega
          · have Hfe := Lib.hid (show firstFit ⟨bl, bw, brx, bry⟩ l puts ks q vs = firstFit ⟨bl, bw, brx, bry⟩ l puts ks q (vs.drop (j + 1)) by rw [Hff.out, Hfn.out, if_neg hfv])
            have dv : (fv == 0) = false := by simpa using hfv
            go_wp2_with (go_at_call 52; (with_reducible refine (HFp.out _ hw21).mono ?_); rintro e w22 ⟨rfl, hb22⟩)
            go_roundw
            case rel => exact ⟨j + 1, by omega, by go_num, Hfe, hq21.trans hb22⟩
            case measure => simp [intOf]; omega
        · have hje : j = vs.length := by omega
          subst hje
          have Hno := Lib.hid (show endOf ⟨bl, bw, brx, bry⟩ l puts ks s placed q = [] by rw [Heo.out, Hff.out, List.drop_length]; rfl)
          have hzq := hbq.size
          have hBq := Lib.hid (show BagE wr g acc (fun i => g ≤ i ∧ (i < n0 ∨ n1 ≤ i) ∧ i < wr.heap.size) o v from (HB8.out.later hbq).mono (fun i hi => ⟨hi.1, hi.2.1, by omega⟩))
          have hkq := Lib.hid (show ∀ i, n0 ≤ i → i < n1 → wr.heap[i]? = w5.heap[i]? from fun i h1 h2 => (hbq.block i (by omega)).trans (Hk8.out i h1 h2))
          have hlq := hl28.trans hbq
          have hzz : n1 ≤ wr.heap.size := by omega
          go_wp2
          refine ⟨⟨k + 1, acc, o, v, by omega, by go_num, hBq.out, Lib.hid (by rw [Hnx.out, Hno.out, List.append_nil, Hac.out]), hlq, hkq, hzz⟩, ?_⟩
          simp [intOf]
          omega
    · have hke : k = ts.length := by omega
      subst hke
      have hacl : acc.length ≤ 4 := by
        have := endO_bd (f := endOf ⟨bl, bw, brx, bry⟩ l puts ks s placed) (fun _ => endO_len) (ts.take ts.length)
        rw [← Hac.out, List.length_take] at this
        omega
      have Hal := Lib.hid (show acc = ts.flatMap (endOf ⟨bl, bw, brx, bry⟩ l puts ks s placed) by rw [Hac.out, List.take_length])
      obtain ⟨A9, c9, rfl, _, _, _⟩ := HBk.out.row.form en6_len
      have HL := Lib.hid (fun W (hW : Later wr W) => fill_least A9 c9 acc W (by omega) ((HBk.out.row.later hW).list en6_len (fun _ _ => trivial)).2.2.2)
      have y1 : wr.cell? ⟨g, 1, none⟩ = some (.slice A9 acc.length c9) := HBk.out.blk.cell 1
      have zg := HBk.out.blk.lt
      have hwr : Later w wr := hl2.trans hbl5
      have D8 := C8.later hbl5
      rw [← Hal.out] at HSt
      clear HBk Hac Hkp Hrow HB5 C4
      by_cases hz : acc = []
      · subst hz
        have hR := HSt.out
        rw [if_pos rfl] at hR
        subst hR
        have eL : decide (0 < ([] : List En).length) = false := rfl
        rw [eL] at HL
        clear eL
        simp only [List.length_nil] at HL y1
        have eB : enV (bestL []) = .agg #[.int .i64 0, .bool false, .int .i64 0, .int .i64 0, .int .i64 0, .int .i64 0] := rfl
        rw [eB] at HL
        clear eB
        go_upto_region 26 with (go_at_call 54; (with_reducible refine (HL.out _ (by exact (by repeat' (with_reducible first | exact Later.refl _ | assumption | refine Later.drew ?_ | refine Later.drewN ?_ _ | refine Later.alloc ?_ _ | refine Later.put ?_ (by omega) _ | refine Later.trans ?_ (by assumption))))).mono ?_); rintro e w9 ⟨rfl, hb9⟩)
        refine name_world (fun WA hWA => ?_)
        have hbA : Later w9 WA := by rw [hWA]; exact (by repeat' (with_reducible first | exact Later.refl _ | assumption | refine Later.drew ?_ | refine Later.drewN ?_ _ | refine Later.alloc ?_ _ | refine Later.put ?_ (by omega) _ | refine Later.trans ?_ (by assumption)))
        have zA := D8.lt
        have KA := D8.later (hb9.trans hbA)
        clear hWA
        have hlA := hwr.trans (hb9.trans hbA)
        have r0 : WA.cell? ⟨g8, 0, none⟩ = some (.int .i64 0) := KA.cell 0
        have r1 : WA.cell? ⟨g8, 1, none⟩ = some (.bool false) := KA.cell 1
        have r2 : WA.cell? ⟨g8, 2, none⟩ = some (.int .i64 0) := KA.cell 2
        have r3 : WA.cell? ⟨g8, 3, none⟩ = some (.int .i64 0) := KA.cell 3
        have r4 : WA.cell? ⟨g8, 4, none⟩ = some (.int .i64 0) := KA.cell 4
        have fz0 := KA.frozen 0
        have fz1 := KA.frozen 1
        have fz2 := KA.frozen 2
        have fz3 := KA.frozen 3
        have fz4 := KA.frozen 4
        have zr := KA.lt
        go_wp2
        refine bodyPost_ret (v := .tuple #[.agg #[.int .i64 0, .bool false, .int .i64 0, .int .i64 0, .int .i64 0], .int .i64 18]) (by simp [results, Tryz.results24, go_sem, r0, r1, r2, r3, r4]) rfl ⟨rfl, ?_⟩
        exact ((((hlA.put hg8w _).put hg8w _).put hg8w _).put hg8w _).put hg8w _
      · have hR := HSt.out
        rw [if_neg hz] at hR
        have eL : decide (0 < acc.length) = true := by
          rw [decide_eq_true_eq]
          exact List.length_pos_iff.2 hz
        rw [eL] at HL
        clear eL
        generalize bestL acc = be at *
        obtain ⟨⟨f1, f2, f3, f4, f5⟩, f6⟩ := be
        subst hR
        unfold enV at HL
        go_upto_region 26 with (go_at_call 54; (with_reducible refine (HL.out _ (by exact (by repeat' (with_reducible first | exact Later.refl _ | assumption | refine Later.drew ?_ | refine Later.drewN ?_ _ | refine Later.alloc ?_ _ | refine Later.put ?_ (by omega) _ | refine Later.trans ?_ (by assumption))))).mono ?_); rintro e w9 ⟨rfl, hb9⟩)
        refine name_world (fun WA hWA => ?_)
        have hbA : Later w9 WA := by rw [hWA]; exact (by repeat' (with_reducible first | exact Later.refl _ | assumption | refine Later.drew ?_ | refine Later.drewN ?_ _ | refine Later.alloc ?_ _ | refine Later.put ?_ (by omega) _ | refine Later.trans ?_ (by assumption)))
        have zA := D8.lt
        have KA := D8.later (hb9.trans hbA)
        have BA : Blk WA w9.heap.size 128 #[.int .i64 f1, .bool f2, .int .i64 f3, .int .i64 f4, .int .i64 f5, .int .i64 f6] := by rw [hWA]; exact (by repeat' (with_reducible first | assumption | (refine Blk.newAt ?_; simp; done) | refine Blk.alloc ?_ _ | refine Blk.drew ?_ | refine Blk.drewN ?_ _ | refine Blk.later ?_ (by assumption)))
        clear hWA
        have hlA := hwr.trans (hb9.trans hbA)
        generalize w9.heap.size = gA at *
        have r0 : WA.cell? ⟨g8, 0, none⟩ = some (.int .i64 0) := KA.cell 0
        have r1 : WA.cell? ⟨g8, 1, none⟩ = some (.bool false) := KA.cell 1
        have r2 : WA.cell? ⟨g8, 2, none⟩ = some (.int .i64 0) := KA.cell 2
        have r3 : WA.cell? ⟨g8, 3, none⟩ = some (.int .i64 0) := KA.cell 3
        have r4 : WA.cell? ⟨g8, 4, none⟩ = some (.int .i64 0) := KA.cell 4
        have b0 : WA.cell? ⟨gA, 0, none⟩ = some (.int .i64 f1) := BA.cell 0
        have b1 : WA.cell? ⟨gA, 1, none⟩ = some (.bool f2) := BA.cell 1
        have b2 : WA.cell? ⟨gA, 2, none⟩ = some (.int .i64 f3) := BA.cell 2
        have b3 : WA.cell? ⟨gA, 3, none⟩ = some (.int .i64 f4) := BA.cell 3
        have b4 : WA.cell? ⟨gA, 4, none⟩ = some (.int .i64 f5) := BA.cell 4
        have zb := BA.lt
        have fz0 := KA.frozen 0
        have fz1 := KA.frozen 1
        have fz2 := KA.frozen 2
        have fz3 := KA.frozen 3
        have fz4 := KA.frozen 4
        have zr := KA.lt
        go_wp2
        refine bodyPost_ret (v := .tuple #[.agg #[.int .i64 f1, .bool f2, .int .i64 f3, .int .i64 f4, .int .i64 f5], .int .i64 0]) (by simp [results, Tryz.results24, go_sem, r0, r1, r2, r3, r4]) rfl ⟨rfl, ?_⟩
        exact ((((hlA.put hg8w _).put hg8w _).put hg8w _).put hg8w _).put hg8w _
end Go.Proofs.YtdhakoecjmaebaaGreat
