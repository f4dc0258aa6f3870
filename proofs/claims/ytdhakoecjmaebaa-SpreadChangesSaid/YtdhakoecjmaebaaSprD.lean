/-
  The walk of spread.Check.
-/
import Derived.Test.YtdhakoecjmaebaaSprC
namespace Go.Proofs.Ytdhakoecjmaebaa
open Go.RowKit
set_option linter.unusedSimpArgs false
set_option linter.unusedVariables false

theorem ply_facts {len wd : Int} {polys : List (List Pt)} {rs : List Rl} {lots : List Int} {lot : Int} : ∀ {l : List Qd} {prev : Option Qd}, plyGo len wd polys rs lots lot prev l = 0 →
    ∀ p ∈ l, clothB p rs = true ∧ 0 ≤ p.d ∧ p.d ≤ len ∧ gL lots p.a.toNat = lot ∧ wd ≤ (grl rs p.a.toNat).wd := by
  intro l
  induction l with
  | nil => intro prev _ p hp; cases hp
  | cons q l ih =>
    intro prev h p hp
    rcases Classical.em (partErr len wd polys rs lots lot prev q = 0) with h0 | h0
    · rw [ply_ok h0] at h
      rcases List.mem_cons.1 hp with rfl | hp
      · unfold partErr at h0
        split at h0
        · cases h0
        · rename_i h1
          split at h0
          · cases h0
          · rename_i h2
            split at h0
            · cases h0
            · rename_i h3
              refine ⟨?_, by omega, by omega, by simpa using h2, by omega⟩
              rcases hc : clothB p rs with _ | _
              · exact absurd (.inl hc) h1
              · rfl
      · exact ih h p hp
    · rw [ply_bad h0] at h
      exact absurd h h0
theorem sc_cloth {len wd : Int} {polys : List (List Pt)} {rs : List Rl} {lots : List Int} {ys : List Pl} (h : chkClothR len wd polys rs lots.length ≠ 0) : scheckR len wd polys rs lots ys = chkClothR len wd polys rs lots.length := by unfold scheckR; rw [if_pos h]
theorem sc_long {len wd : Int} {polys : List (List Pt)} {rs : List Rl} {lots : List Int} {ys : List Pl} (h : chkClothR len wd polys rs lots.length = 0) (h1 : 40 < ys.length) : scheckR len wd polys rs lots ys = 5 := by unfold scheckR; rw [if_neg (by simpa using h), if_pos h1]
theorem sc_ply {len wd : Int} {polys : List (List Pt)} {rs : List Rl} {lots : List Int} {ys : List Pl} (h : chkClothR len wd polys rs lots.length = 0) (h1 : ¬ 40 < ys.length) (h2 : plysErr len wd polys rs lots ys ≠ 0) : scheckR len wd polys rs lots ys = plysErr len wd polys rs lots ys := by unfold scheckR; rw [if_neg (by simpa using h), if_neg h1, if_pos h2]
theorem sc_twice {len wd : Int} {polys : List (List Pt)} {rs : List Rl} {lots : List Int} {ys : List Pl} (h : chkClothR len wd polys rs lots.length = 0) (h1 : ¬ 40 < ys.length) (h2 : plysErr len wd polys rs lots ys = 0) (h3 : ¬ NoTwice (allQ ys)) : scheckR len wd polys rs lots ys = 14 := by unfold scheckR; rw [if_neg (by simpa using h), if_neg h1, if_neg (by simpa using h2), if_neg h3]
theorem sc_ok {len wd : Int} {polys : List (List Pt)} {rs : List Rl} {lots : List Int} {ys : List Pl} (h : chkClothR len wd polys rs lots.length = 0) (h1 : ¬ 40 < ys.length) (h2 : plysErr len wd polys rs lots ys = 0) (h3 : NoTwice (allQ ys)) : scheckR len wd polys rs lots ys = 0 := by unfold scheckR; rw [if_neg (by simpa using h), if_neg h1, if_neg (by simpa using h2), if_pos h3]
theorem allP_len {ys : List Py} {m : Nat} (h : ∀ y ∈ ys, y.parts.length ≤ m) : (allP ys).length ≤ ys.length * m := by
  unfold allP
  induction ys with
  | nil => simp
  | cons y l ih =>
    rw [List.flatMap_cons, List.length_append, List.length_cons, Nat.succ_mul]
    have := h y (List.mem_cons_self ..)
    have := ih (fun z hz => h z (List.mem_cons_of_mem _ hz))
    omega

set_option maxHeartbeats 4000000 in
set_option maxRecDepth 100000 in
theorem spread_Check (Q C L S1 S2 P : Option Addr) (qc cc lc n1 c1 n2 c2 pc : Nat) (len wd rx ry : Int) (polys : List (List Pt)) (rs : List Rl) (lots : List Int) (ys : List Py) (w : World)
    (hps : Polys w Q polys) (hpl : ∀ p ∈ polys, p.length ≤ 1099511627776) (hr : Rolls w C rs) (hrl : rs.length ≤ 1099511627776) (hL : Ints w L lots) (hll : lots.length ≤ 9223372036854775807) (hy : Plys w P ys) (hyl : ys.length ≤ 1099511627776) (hpart : ∀ y ∈ ys, y.parts.length ≤ 1000) :
    Calls Try.prog 9 #[.agg #[.int .i64 len, .int .i64 wd, .int .i64 rx, .int .i64 ry, .slice S1 n1 c1, .slice S2 n2 c2, .slice P ys.length pc], .slice Q polys.length qc, .slice C rs.length cc, .slice L lots.length lc] w
      (Ret (.int .i64 (scheckR len wd polys rs lots (ys.map Py.pl))) w) := by
  have HK := Lib.hid (fun W (hW : Later w W) => spread_checkCloth Q C L S1 S2 qc cc lc lots.length n1 c1 n2 c2 len wd rx ry polys rs W (hps.later hW) hpl (hr.later hW) hrl hll)
  have Hsc1 := Lib.hid (sc_cloth (len := len) (wd := wd) (polys := polys) (rs := rs) (lots := lots) (ys := ys.map Py.pl))
  have Hsc2 := Lib.hid (sc_long (len := len) (wd := wd) (polys := polys) (rs := rs) (lots := lots) (ys := ys.map Py.pl))
  have Hsc3 := Lib.hid (sc_ply (len := len) (wd := wd) (polys := polys) (rs := rs) (lots := lots) (ys := ys.map Py.pl))
  have Hsc4 := Lib.hid (sc_twice (len := len) (wd := wd) (polys := polys) (rs := rs) (lots := lots) (ys := ys.map Py.pl))
  have Hsc5 := Lib.hid (sc_ok (len := len) (wd := wd) (polys := polys) (rs := rs) (lots := lots) (ys := ys.map Py.pl))
  have Hcz := Lib.hid (cloth_zero (len := len) (wd := wd) (polys := polys) (rs := rs) (nl := lots.length))
  generalize scheckR len wd polys rs lots (ys.map Py.pl) = R at *
  generalize chkClothR len wd polys rs lots.length = er at *
  have Hsc2 := Lib.hid (show er = 0 → 40 < ys.length → R = 5 from fun h h1 => Hsc2.out h (by rw [List.length_map]; exact h1))
  have Hsc3 := Lib.hid (show er = 0 → ¬ 40 < ys.length → plysErr len wd polys rs lots (ys.map Py.pl) ≠ 0 → R = plysErr len wd polys rs lots (ys.map Py.pl) from fun h h1 => Hsc3.out h (by rw [List.length_map]; exact h1))
  have Hsc4 := Lib.hid (show er = 0 → ¬ 40 < ys.length → plysErr len wd polys rs lots (ys.map Py.pl) = 0 → ¬ NoTwice (allP ys) → R = 14 from fun h h1 h2 h3 => Hsc4.out h (by rw [List.length_map]; exact h1) h2 (by rw [allP_pl]; exact h3))
  have Hsc5 := Lib.hid (show er = 0 → ¬ 40 < ys.length → plysErr len wd polys rs lots (ys.map Py.pl) = 0 → NoTwice (allP ys) → R = 0 from fun h h1 h2 h3 => Hsc5.out h (by rw [List.length_map]; exact h1) h2 (by rw [allP_pl]; exact h3))
  rcases Classical.em (er = 0) with h0 | h0
  · subst h0
    obtain ⟨hext, hcr, hw1, hw2⟩ := Hcz.out rfl
    obtain ⟨hl1, hl2, _⟩ := ext_zero hext
    obtain ⟨hr20, hrz, hnl⟩ := chkRolls_zero hcr
    have hln : ∀ r ∈ rs, r.ln ≤ 1048576 := fun r hr => (roll_ok (hrz r hr)).2.2.2.1.2
    have Hnl := Lib.hid hnl
    clear hnl hcr hrz hext Hcz
    by_cases h40 : 40 < ys.length
    · have d40 : decide ((40 : Int) < (ys.length : Int)) = true := by simp; omega
      have HRv := Lib.hid (Hsc2.out (by first | trivial | rfl) h40)
      go_enter Try.func9, Try.ntmps9
      go_wp2_with (first | (go_at_call 14; (with_reducible refine (HK.out _ (by repeat' (with_reducible first | exact Later.refl _ | assumption | refine Later.drew ?_ | refine Later.drewN ?_ _ | refine Later.alloc ?_ _ | refine Later.put ?_ (by omega) _ | refine Later.trans ?_ (by assumption)))).mono ?_); rintro e w1 ⟨rfl, hb1⟩; have c6 : w1.cell? ⟨w.heap.size, 6, none⟩ = some (.slice P ys.length pc) := hb1.cell (by simp [go_sem])))
      go_ret
      exact ⟨ret_int HRv.out.symm, (by repeat' (with_reducible first | exact Later.refl _ | assumption | refine Later.drew ?_ | refine Later.drewN ?_ _ | refine Later.alloc ?_ _ | refine Later.put ?_ (by omega) _ | refine Later.trans ?_ (by assumption)))⟩
    · have d40 : decide ((40 : Int) < (ys.length : Int)) = false := by simp; omega
      have h40' : ys.length ≤ 40 := by omega
      have HU := Lib.hid (fun (hcl : ∀ p ∈ allP ys, clothB p rs = true) W (hW : Later w W) => spread_used P C S1 S2 pc cc n1 c1 n2 c2 len wd rx ry ys rs W (hy.later hW) hcl (by omega) (by omega) (by have := allP_len hpart; omega))
      go_enter Try.func9, Try.ntmps9
      go_upto_region 6 with (first | (go_at_call 14; (with_reducible refine (HK.out _ (by repeat' (with_reducible first | exact Later.refl _ | assumption | refine Later.drew ?_ | refine Later.drewN ?_ _ | refine Later.alloc ?_ _ | refine Later.put ?_ (by omega) _ | refine Later.trans ?_ (by assumption)))).mono ?_); rintro e w1 ⟨rfl, hb1⟩; have c6 : w1.cell? ⟨w.heap.size, 6, none⟩ = some (.slice P ys.length pc) := hb1.cell (by simp [go_sem])))
      have D4 : Blk w1 w.heap.size 39 #[.int .i64 len, .int .i64 wd, .int .i64 rx, .int .i64 ry, .slice S1 n1 c1, .slice S2 n2 c2, .slice P ys.length pc] := Blk.later (by repeat' (with_reducible first | assumption | (refine Blk.newAt ?_; simp; done) | refine Blk.alloc ?_ _ | refine Blk.drew ?_ | refine Blk.drewN ?_ _ | refine Blk.later ?_ (by assumption))) hb1
      have hl1w : Later w w1 := (by repeat' (with_reducible first | exact Later.refl _ | assumption | refine Later.drew ?_ | refine Later.drewN ?_ _ | refine Later.alloc ?_ _ | refine Later.put ?_ (by omega) _ | refine Later.trans ?_ (by assumption)))
      clear hb1 HK d40
      generalize w.heap.size = g4 at *
      go_wp2
      go_loopw [31] (fun iv wr => ∃ k : Nat, k ≤ ys.length ∧ iv = .int .i64 k ∧ plysErr len wd polys rs lots (ys.map Py.pl) = plysErr len wd polys rs lots ((ys.drop k).map Py.pl) ∧ Later w1 wr) (fun iv _ => ys.length - (intOf iv).toNat)
      case atStart => exact ⟨0, by omega, rfl, rfl, Later.refl _⟩
      case round =>
        obtain ⟨k, hk, rfl, he, hb⟩ := hrel
        have He := Lib.hid he
        clear he
        have hlw : Later w wr := hl1w.trans hb
        have m0 : wr.cell? ⟨g4, 0, none⟩ = some (.int .i64 len) := hb.cell (D4.cell 0)
        have m1 : wr.cell? ⟨g4, 1, none⟩ = some (.int .i64 wd) := hb.cell (D4.cell 1)
        have m2 : wr.cell? ⟨g4, 2, none⟩ = some (.int .i64 rx) := hb.cell (D4.cell 2)
        have m3 : wr.cell? ⟨g4, 3, none⟩ = some (.int .i64 ry) := hb.cell (D4.cell 3)
        have m4 : wr.cell? ⟨g4, 4, none⟩ = some (.slice S1 n1 c1) := hb.cell (D4.cell 4)
        have m5 : wr.cell? ⟨g4, 5, none⟩ = some (.slice S2 n2 c2) := hb.cell (D4.cell 5)
        have m6 : wr.cell? ⟨g4, 6, none⟩ = some (.slice P ys.length pc) := hb.cell (D4.cell 6)
        have z4 : g4 < wr.heap.size := World.block_lt_of_cell? _ _ m0
        by_cases hlt : k < ys.length
        · have hokw : PyOk w ys[k] := by obtain ⟨_, _, _, _, _, h⟩ := hy.at_ hlt; exact h
          obtain ⟨hpc, hpm, hqd, hqi⟩ := hokw
          obtain ⟨bb, ob, rfl, e1, e2, _⟩ := (hy.later hlw).at_ hlt
          have hbz : bb < wr.heap.size := World.block_lt_of_cell? _ _ e1
          have Hd := Lib.hid (drop_cons' ys k hlt)
          have hpn := hpart _ (List.getElem_mem hlt)
          generalize ys[k] = y at *
          obtain ⟨lot, pa, pc', parts⟩ := y
          simp only [] at e1 e2 hpc hpm hqd hpn Hd
          have HP := Lib.hid (fun W (hW : Later w W) => spread_checkPly Q C L S1 S2 pa qc cc lc n1 c1 n2 c2 pc' len wd rx ry lot polys rs lots parts W (hps.later hW) hpl (hr.later hW) hr20 (hL.later hW) Hnl.out (hqd.later hW) (by omega) ⟨hl1, hl2⟩ hln)
          have Hb := Lib.hid (fun l => plys_bad (len := len) (wd := wd) (polys := polys) (rs := rs) (lots := lots) (y := (lot, parts)) (l := l))
          have Hg := Lib.hid (fun l => plys_good (len := len) (wd := wd) (polys := polys) (rs := rs) (lots := lots) (y := (lot, parts)) (l := l))
          generalize plyR len wd polys rs lots (lot, parts) = pe at *
          have Hd2 := Lib.hid (show (ys.drop k).map Py.pl = (lot, parts) :: (ys.drop (k + 1)).map Py.pl by rw [Hd.out]; rfl)
          rcases Classical.em (pe = 0) with h0 | h0
          · subst h0
            go_wp2_with (first | (go_at_call 21; (with_reducible refine (HP.out _ (hlw.trans (by repeat' (with_reducible first | exact Later.refl _ | assumption | refine Later.drew ?_ | refine Later.drewN ?_ _ | refine Later.alloc ?_ _ | refine Later.put ?_ (by omega) _ | refine Later.trans ?_ (by assumption))))).mono ?_); rintro e w5 ⟨rfl, hb5⟩))
            go_roundw
            case rel => exact ⟨k + 1, by omega, by go_num, by rw [He.out, Hd2.out, Hg.out _ (by first | trivial | rfl)], hb.trans (by repeat' (with_reducible first | exact Later.refl _ | assumption | refine Later.drew ?_ | refine Later.drewN ?_ _ | refine Later.alloc ?_ _ | refine Later.put ?_ (by omega) _ | refine Later.trans ?_ (by assumption)))⟩
            case measure => simp [intOf]; omega
          · have dn : (pe != 0) = true := by simpa using h0
            have HRv := Lib.hid (show R = pe by
              have e : plysErr len wd polys rs lots (ys.map Py.pl) = pe := by rw [He.out, Hd2.out, Hb.out _ h0]
              rw [Hsc3.out (by first | trivial | rfl) h40 (by rw [e]; exact h0), e])
            go_wp2_with (first | (go_at_call 21; (with_reducible refine (HP.out _ (hlw.trans (by repeat' (with_reducible first | exact Later.refl _ | assumption | refine Later.drew ?_ | refine Later.drewN ?_ _ | refine Later.alloc ?_ _ | refine Later.put ?_ (by omega) _ | refine Later.trans ?_ (by assumption))))).mono ?_); rintro e w5 ⟨rfl, hb5⟩))
            go_ret
            exact ⟨ret_int HRv.out.symm, hlw.trans (by repeat' (with_reducible first | exact Later.refl _ | assumption | refine Later.drew ?_ | refine Later.drewN ?_ _ | refine Later.alloc ?_ _ | refine Later.put ?_ (by omega) _ | refine Later.trans ?_ (by assumption)))⟩
        · have hpz : plysErr len wd polys rs lots (ys.map Py.pl) = 0 := by rw [He.out, List.drop_eq_nil_of_le (by omega)]; rfl
          have hcl : ∀ p ∈ allP ys, clothB p rs = true := by
            intro p hp
            obtain ⟨y, hy', hp⟩ := List.mem_flatMap.1 hp
            exact (ply_facts (plys_all.1 hpz (y.lot, y.parts) (List.mem_map.2 ⟨y, hy', rfl⟩)) p hp).1
          have HUU := Lib.hid (HU.out hcl)
          have Hpz := Lib.hid hpz
          clear hpz hcl
          by_cases hnt : NoTwice (allP ys)
          · have HRv := Lib.hid (Hsc5.out (by first | trivial | rfl) h40 Hpz.out hnt)
            have Hnt := Lib.hid hnt
            clear hnt
            go_wp2_with (first | (go_at_call 22; (with_reducible refine (HUU.out _ hlw).mono ?_); rintro e w5 (⟨_, T, vs, rfl, _, _, hb5⟩ | ⟨h, _⟩); rotate_left; exact absurd Hnt.out h))
            go_ret
            exact ⟨ret_int HRv.out.symm, hlw.trans hb5⟩
          · have HRv := Lib.hid (Hsc4.out (by first | trivial | rfl) h40 Hpz.out hnt)
            have Hnt := Lib.hid hnt
            clear hnt
            go_wp2_with (first | (go_at_call 22; (with_reducible refine (HUU.out _ hlw).mono ?_); rintro e w5 (⟨h, _⟩ | ⟨_, rfl, hb5⟩); exact absurd h Hnt.out))
            go_ret
            exact ⟨ret_int HRv.out.symm, hlw.trans hb5⟩
  · have dn : (er != 0) = true := by simpa using h0
    have HRv := Lib.hid (Hsc1.out h0)
    go_enter Try.func9, Try.ntmps9
    go_wp2_with (first | (go_at_call 14; (with_reducible refine (HK.out _ (by repeat' (with_reducible first | exact Later.refl _ | assumption | refine Later.drew ?_ | refine Later.drewN ?_ _ | refine Later.alloc ?_ _ | refine Later.put ?_ (by omega) _ | refine Later.trans ?_ (by assumption)))).mono ?_); rintro e w1 ⟨rfl, hb1⟩))
    go_ret
    exact ⟨ret_int HRv.out.symm, (by repeat' (with_reducible first | exact Later.refl _ | assumption | refine Later.drew ?_ | refine Later.drewN ?_ _ | refine Later.alloc ?_ _ | refine Later.put ?_ (by omega) _ | refine Later.trans ?_ (by assumption)))⟩

end Go.Proofs.Ytdhakoecjmaebaa
