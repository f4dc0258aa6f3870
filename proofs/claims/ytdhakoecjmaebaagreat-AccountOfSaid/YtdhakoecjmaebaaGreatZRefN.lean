/-
 The reference of layer 11: twice the area, the opposite order, the least vertex, the normal form.
-/
import Derived.Test.YtdhakoecjmaebaaGreatZAppR
import Derived.Test.YtdhakoecjmaebaaGreatZRef
namespace Go.Proofs.YtdhakoecjmaebaaGreat
open Go.RowKit
set_option linter.unusedSimpArgs false
set_option linter.unusedVariables false
def pt2 (p : Pt) : List Value := [.int .i64 p.x, .int .i64 p.y]
theorem pt2_len (p : Pt) : (pt2 p).length = 2 := rfl
theorem pt2_one (p : Pt) : ∀ u ∈ pt2 p, u.oneCell' = true := by
 intro u hu
 simp only [pt2, List.mem_cons, List.not_mem_nil, or_false] at hu
 rcases hu with rfl | rfl <;> rfl
theorem flat_pt2 (l : List Pt) : flat l = l.flatMap pt2 := by
 induction l with
 | nil => rfl
 | cons p l ih => rw [flat, ih]; rfl
theorem slt_spot : SlT Tryz.prog 28 29 2 := SlT.mk (z := .agg #[.int .i64 0, .int .i64 0]) (by_ := 16) Tryz.underlying28 (by kernel_rfl) (by omega) rfl (by omega)
theorem Pts.src {w : World} {A : Option Addr} {l : List Pt} (h : Pts w A l) : SrcAt w A (l.flatMap pt2) := by rw [← flat_pt2]; exact src_cells h
theorem Pts.none {w : World} {A : Option Addr} {l : List Pt} (h : Pts w A l) : A = none → l.length = 0 := by
 intro e
 rcases Nat.eq_zero_or_pos l.length with h0 | h0
 ·exact h0
 ·obtain ⟨b, o, e', _⟩ := h h0
  rw [e] at e'; cases e'
theorem OwnR.pts {w : World} {base : Nat} {v : Value} {l : List Pt} (h : OwnR w base 29 2 pt2 v l) : ∃ A c, v = .slice A l.length c ∧ l.length ≤ c ∧ c ≤ maxLen ∧ Pts w A l := by
 obtain ⟨A, c, e, h1, h2, h3⟩ := h.form pt2_len
 refine ⟨A, c, e, h1, h2, fun hn => ?_⟩
 obtain ⟨g, rfl, _, _, _, hx⟩ := h3 hn
 refine ⟨g, 0, rfl, fun i p hp => ⟨hx i p hp 0 _ rfl, hx i p hp 1 _ rfl⟩⟩
set_option maxHeartbeats 2000000 in
theorem ref11_Twice (A : Option Addr) (c : Nat) (ps : List Pt) (w : World) (hn : ps.length ≤ 64) (hp : Pts w A ps) (hsm : AllSm ps) :
  Calls Tryz.prog 136 #[.slice A ps.length c] w (Ret (.int .i64 (areaI ps)) w) := by
 go_enter Tryz.func136, Tryz.ntmps136
 go_wp2
 go_loopw [3, 4] (fun sv i wr => ∃ (k : Nat) (s : Int), k ≤ ps.length ∧ i = .int .i64 k ∧ sv = .int .i64 s ∧ areaI ps = areaGo ps (ps.length - k) k s ∧ Later w wr ∧ (-35184372088832 * (k : Int) ≤ s ∧ s ≤ 35184372088832 * (k : Int))) (fun _ i _ => ps.length - (intOf i).toNat)
 case atStart => exact ⟨0, 0, by omega, rfl, rfl, rfl, Later.refl _, by omega, by omega⟩
 case round =>
  obtain ⟨k, s, hk, rfl, rfl, he, hb, hs⟩ := hrel
  have He := Lib.hid he
  clear he
  by_cases hlt : k < ps.length
  ·have hm1 : (k + 1) % ps.length < ps.length := Nat.mod_lt _ (by omega)
   obtain ⟨b, o, rfl, hat⟩ := (hp.later hb) (by omega)
   obtain ⟨e1, e2⟩ := hat.get hlt
   obtain ⟨f1, f2⟩ := hat.get hm1
   rw [← gp_eq] at e1 e2 f1 f2
   have hbz : b < wr.heap.size := World.block_lt_of_cell? _ _ e1
   have hnil : ¬ ps = [] := by intro h; rw [h] at hlt; simp at hlt
   have hi0 : (0 : Int) ≤ (k : Int) := by omega
   have hi2 : (k : Int) < (ps.length : Int) := by omega
   have hw1 : IntKind.i64.wrap ((k : Int) + 1) = (k : Int) + 1 := IntWalk.i64_in _ (by omega)
   have ht1 : ((k : Int) + 1).tmod (ps.length : Int) = ((k : Int) + 1) % (ps.length : Int) := Int.tmod_eq_emod_of_nonneg (by omega)
   have hi1 : (0 : Int) ≤ ((k : Int) + 1) % (ps.length : Int) ∧ ((k : Int) + 1) % (ps.length : Int) < (ps.length : Int) := ⟨Int.emod_nonneg _ (by omega), Int.emod_lt_of_pos _ (by omega)⟩
   have hn1 : (((k : Int) + 1) % (ps.length : Int)).toNat = (k + 1) % ps.length := toNat_emod k 1 ps.length
   have ht := area_term (gp ps k) (gp ps ((k + 1) % ps.length)) (hsm _) (hsm _)
   go_wp2
   go_region_held3 (fun w' : World => (∀ a : Addr, (wr.cell? a).isSome = true → w'.cell? a = wr.cell? a) ∧ Later wr w') (first | assumption | exact keep_call (by assumption) (by assumption) | exact keep_call (by assumption) ((Later.refl _).alloc _) | exact keep_init _ | exact ⟨Later.keeps (by assumption), by assumption⟩ | exact ⟨Later.keeps (by repeat' (with_reducible first | exact .refl _ | assumption | refine .drew ?_ | refine .drewN ?_ _ | refine .alloc ?_ _ | refine .put ?_ (by omega) _ | refine .trans ?_ (by assumption))), (by repeat' (with_reducible first | exact .refl _ | assumption | refine .drew ?_ | refine .drewN ?_ _ | refine .alloc ?_ _ | refine .put ?_ (by omega) _ | refine .trans ?_ (by assumption)))⟩) (fail)
   all_goals
    try rename_i hHw
    go_wp2
    go_roundw
    case rel => exact ⟨k + 1, _, by omega, by go_num, rfl, by rw [Int.add_sub_assoc]; exact area_step He.out hlt, (by repeat' (with_reducible first | exact .refl _ | assumption | refine .drew ?_ | refine .drewN ?_ _ | refine .alloc ?_ _ | refine .put ?_ (by omega) _ | refine .trans ?_ (by assumption))), by omega, by omega⟩
    case measure => simp [intOf]; omega
  ·go_wp2
   go_ret
   exact ⟨ret_int (by rw [He.out, show ps.length - k = 0 by omega]; rfl), hb⟩
set_option maxHeartbeats 2000000 in
theorem ref11_Reversed (A : Option Addr) (c : Nat) (ps : List Pt) (w : World) (hn : ps.length ≤ 64) (hp : Pts w A ps) :
  Calls Tryz.prog 213 #[.slice A ps.length c] w (RetPts ps.reverse w) := by
 have hw0 : IntKind.i64.wrap ((ps.length : Int) - 1) = (ps.length : Int) - 1 := IntWalk.i64_in _ (by omega)
 go_enter Tryz.func213, Tryz.ntmps213
 go_wp2
 go_loopw [3, 4] (fun v ii wr => ((∃ k : Nat, k < ps.length ∧ ii = .int .i64 (k : Int) ∧ OwnR wr w.heap.size 29 2 pt2 v (ps.reverse.take (ps.length - 1 - k))) ∨ (ii = .int .i64 (-1) ∧ OwnR wr w.heap.size 29 2 pt2 v ps.reverse)) ∧ Later w wr) (fun _ ii _ => (intOf ii + 1).toNat)
 case atStart =>
  refine ⟨?_, Later.refl _⟩
  rcases Nat.eq_zero_or_pos ps.length with h0 | h0
  ·right
   refine ⟨by rw [h0]; rfl, ?_⟩
   rw [List.eq_nil_of_length_eq_zero h0]
   exact World.ownsRow_nil _ _ _ _
  ·left
   refine ⟨ps.length - 1, by omega, by congr 1; omega, ?_⟩
   rw [Nat.sub_self, List.take_zero]
   exact World.ownsRow_nil _ _ _ _
 case round =>
  obtain ⟨hk2, hb⟩ := hrel
  rcases hk2 with ⟨j, hj, rfl, hown⟩ | ⟨rfl, hown⟩
  ·obtain ⟨bb, ob, rfl, e0, e1⟩ := (hp.later hb).at_ hj
   have hbz : bb < wr.heap.size := World.block_lt_of_cell? _ _ e0
   have htk : ps.reverse.take (ps.length - j) = ps.reverse.take (ps.length - 1 - j) ++ [ps[j]] := by
    rw [show ps.length - j = (ps.length - 1 - j) + 1 by omega, List.take_succ_eq_append_getElem (by simp; omega)]
    congr 1
    rw [List.getElem_reverse]
    congr 1
    congr 1
    omega
   have Ht := Lib.hid htk
   have hll : (ps.reverse.take (ps.length - 1 - j)).length ≤ 64 := by simp; omega
   clear htk
   generalize ps[j] = q at *
   obtain ⟨qx, qy⟩ := q
   simp only [] at e0 e1
   generalize ps.reverse.take (ps.length - 1 - j) = acc at *
   have Ho := Lib.hid hown
   have Hll := Lib.hid hll
   clear hown hll
   have hw1 : IntKind.i64.wrap ((j : Int) - 1) = (j : Int) - 1 := IntWalk.i64_in _ (by omega)
   have i1 : (0 : Int) ≤ (j : Int) := by omega
   have i2 : (j : Int) < (ps.length : Int) := by omega
   go_upto_region 5 with fail
   have hB : Blk (wr.alloc (.cells #[.int .i64 qx, .int .i64 qy] 29)) wr.heap.size 29 #[.int .i64 qx, .int .i64 qy] := Blk.new _ _ _
   have HS := Lib.hid (SrcAt.blk hB)
   clear hB
   go_wp2_with (at_builtin; refine wpList_append_rec slt_spot pt2_len pt2_one rfl (.tmp 12) (.tmp 17) rfl (base := w.heap.size) (l := acc) rfl (OwnR.alloc Ho.out _) [⟨qx, qy⟩] rfl (by intro h; cases h) HS.out (by have := Hll.out; simp; omega) (by have := hb.size; simp; omega) ?_; intro A3 c3' w3 ho3 hg3)
   have hl3 : Later w w3 := Later.grown (by repeat' (with_reducible first | exact .refl _ | assumption | refine .drew ?_ | refine .drewN ?_ _ | refine .alloc ?_ _ | refine .put ?_ (by omega) _ | refine .trans ?_ (by assumption))) hg3 (fun g hg => (World.ownsRow.lt Ho.out g hg).1)
   clear hg3
   simp only [List.length_append, List.length_singleton] at ho3
   go_wp2
   go_roundw
   case rel =>
    refine ⟨?_, hl3⟩
    rcases Nat.eq_zero_or_pos j with h0 | h0
    ·right
     subst h0
     refine ⟨rfl, ?_⟩
     have hh := Ht.out
     rw [Nat.sub_zero, List.take_of_length_le (by simp)] at hh
     rw [hh]
     exact ho3
    ·left
     refine ⟨j - 1, by omega, by congr 1; omega, ?_⟩
     rw [show ps.length - 1 - (j - 1) = ps.length - j by omega, Ht.out]
     exact ho3
   case measure => simp [intOf]
  ·go_wp2
   go_ret
   obtain ⟨A6, c6, e6, h1, h2, h3⟩ := hown.pts
   exact ⟨A6, c6, by rw [← e6]; rfl, h1, h2, h3, hb⟩
set_option maxHeartbeats 1000000 in
theorem ref11_Less (a b : Pt) (w : World) :
  Calls Tryz.prog 230 #[.agg #[.int .i64 a.x, .int .i64 a.y], .agg #[.int .i64 b.x, .int .i64 b.y]] w (Ret (.bool (lessP a b)) w) := by
 obtain ⟨ax, ay⟩ := a
 obtain ⟨bx, bY⟩ := b
 simp only []
 go_enter Tryz.func230, Tryz.ntmps230
 go_wp2
 all_goals
  go_ret
  exact ⟨ret_bool (by unfold lessP; rw [Bool.eq_iff_iff]; simp; try omega), (by repeat' (with_reducible first | exact .refl _ | assumption | refine .drew ?_ | refine .drewN ?_ _ | refine .alloc ?_ _ | refine .put ?_ (by omega) _ | refine .trans ?_ (by assumption)))⟩
theorem least_first {l : List Pt} (h : 0 < l.length) : leastOf l = leastGo l (l.length - 1) 1 0 := by
 unfold leastOf
 obtain ⟨f, hf⟩ : ∃ f, l.length = f + 1 := ⟨l.length - 1, by omega⟩
 rw [hf, leastGo]
 have : lessP (gp l 0) (gp l 0) = false := by unfold lessP; simp
 rw [this]
 rfl
set_option maxHeartbeats 2000000 in
theorem ref11_Least (A : Option Addr) (c : Nat) (ps : List Pt) (w : World) (h0 : 0 < ps.length) (hn : ps.length ≤ 64) (hcap : ps.length ≤ c) (hp : Pts w A ps) :
  Calls Tryz.prog 214 #[.slice A ps.length c] w (RetPts (rotOf ps) w) := by
 obtain ⟨b, o, rfl, hat⟩ := id (hp h0)
 have hl0 := least_first h0
 have hnil : ¬ ps = [] := by intro h; rw [h] at h0; simp at h0
 go_enter Tryz.func214, Tryz.ntmps214
 go_wp2
 go_loopw [3, 4] (fun mv ii wr => ∃ k m : Nat, 1 ≤ k ∧ k ≤ ps.length ∧ m < ps.length ∧ ii = .int .i64 k ∧ mv = .int .i64 m ∧ leastOf ps = leastGo ps (ps.length - k) k m ∧ Later w wr) (fun _ ii _ => ps.length - (intOf ii).toNat)
 case atStart => exact ⟨1, 0, by omega, by omega, by omega, rfl, rfl, hl0, Later.refl _⟩
 case round =>
  clear hl0
  obtain ⟨k, m, hk1, hk, hm, rfl, rfl, he, hb⟩ := hrel
  have He := Lib.hid he
  clear he
  by_cases hlt : k < ps.length
  ·obtain ⟨e1, e2⟩ := (hat.later hb).get hlt
   obtain ⟨f1, f2⟩ := (hat.later hb).get hm
   rw [← gp_eq] at e1 e2 f1 f2
   have hbz : b < wr.heap.size := World.block_lt_of_cell? _ _ e1
   have i1 : (0 : Int) ≤ (k : Int) := by omega
   have i2 : (k : Int) < (ps.length : Int) := by omega
   have i3 : (0 : Int) ≤ (m : Int) := by omega
   have i4 : (m : Int) < (ps.length : Int) := by omega
   have hw1 : IntKind.i64.wrap ((k : Int) + 1) = (k : Int) + 1 := IntWalk.i64_in _ (by omega)
   have Hst := Lib.hid (least_step He.out hlt)
   have HL := Lib.hid (fun W => ref11_Less (gp ps k) (gp ps m) W)
   generalize lessP (gp ps k) (gp ps m) = lb at *
   generalize gp ps k = pk at *
   generalize gp ps m = pm at *
   obtain ⟨kx, ky⟩ := pk
   obtain ⟨mx, my⟩ := pm
   simp only [] at e1 e2 f1 f2 HL
   cases lb with
   | false =>
    go_wp2
    go_region_held3 (fun w' : World => (∀ a : Addr, (wr.cell? a).isSome = true → w'.cell? a = wr.cell? a) ∧ Later wr w') (first | assumption | exact keep_call (by assumption) (by assumption) | exact keep_call (by assumption) ((Later.refl _).alloc _) | exact keep_init _ | exact ⟨Later.keeps (by assumption), by assumption⟩ | exact ⟨Later.keeps (by repeat' (with_reducible first | exact .refl _ | assumption | refine .drew ?_ | refine .drewN ?_ _ | refine .alloc ?_ _ | refine .put ?_ (by omega) _ | refine .trans ?_ (by assumption))), (by repeat' (with_reducible first | exact .refl _ | assumption | refine .drew ?_ | refine .drewN ?_ _ | refine .alloc ?_ _ | refine .put ?_ (by omega) _ | refine .trans ?_ (by assumption)))⟩) ((first | (go_at_call 230; (with_reducible refine (HL.out _).mono ?_); rintro e w2 ⟨rfl, hb2⟩)))
    all_goals
     rename_i hHw
     go_wp2
     go_roundw
     case rel => exact ⟨k + 1, m, by omega, by omega, hm, by go_num, rfl, by simpa using Hst.out, hb.trans hHw.2⟩
     case measure => simp [intOf]; omega
   | true =>
    go_wp2
    go_region_held3 (fun w' : World => (∀ a : Addr, (wr.cell? a).isSome = true → w'.cell? a = wr.cell? a) ∧ Later wr w') (first | assumption | exact keep_call (by assumption) (by assumption) | exact keep_call (by assumption) ((Later.refl _).alloc _) | exact keep_init _ | exact ⟨Later.keeps (by assumption), by assumption⟩ | exact ⟨Later.keeps (by repeat' (with_reducible first | exact .refl _ | assumption | refine .drew ?_ | refine .drewN ?_ _ | refine .alloc ?_ _ | refine .put ?_ (by omega) _ | refine .trans ?_ (by assumption))), (by repeat' (with_reducible first | exact .refl _ | assumption | refine .drew ?_ | refine .drewN ?_ _ | refine .alloc ?_ _ | refine .put ?_ (by omega) _ | refine .trans ?_ (by assumption)))⟩) ((first | (go_at_call 230; (with_reducible refine (HL.out _).mono ?_); rintro e w2 ⟨rfl, hb2⟩)))
    all_goals
     rename_i hHw
     go_wp2
     go_roundw
     case rel => exact ⟨k + 1, k, by omega, by omega, hlt, by go_num, rfl, by simpa using Hst.out, hb.trans hHw.2⟩
     case measure => simp [intOf]; omega
  ·have hml : leastOf ps = m := by rw [He.out, show ps.length - k = 0 by omega]; rfl
   have i3 : (0 : Int) ≤ (m : Int) := by omega
   have i4 : (m : Int) ≤ (ps.length : Int) := by omega
   have i5 : (ps.length : Int) ≤ (c : Int) := by omega
   have i6 : (m : Int) ≤ (c : Int) := by omega
   have i7 : (m : Int).toNat = m := by omega
   have hcm : ¬ c = m := by omega
   have hd1 : (ps.drop m).length = ps.length - m := by simp
   have hd2 : (ps.take m).length = m := by simp; omega
   have s1 : SrcAt wr (some ⟨b, o + m * 2, none⟩) ((ps.drop m).flatMap pt2) := Pts.src (fun hn => ⟨b, o + m * 2, rfl, fun i p hp' => by
    rw [List.getElem?_drop] at hp'
    have := (hat.later hb) _ p hp'
    rw [show o + (m + i) * 2 = o + m * 2 + i * 2 by omega] at this
    exact this⟩)
   have s2 : SrcAt wr (some ⟨b, o, none⟩) ((ps.take m).flatMap pt2) := Pts.src ((hp.later hb).take m)
   have S1 := Lib.hid s1
   have S2 := Lib.hid s2
   clear s1 s2
   have hown0 : OwnR wr w.heap.size 29 2 pt2 (.slice none 0 0) ([] : List Pt) := World.ownsRow_nil _ _ _ _
   have Ho := Lib.hid hown0
   clear hown0
   go_wp2_with (first
    | (at_builtin; refine wpList_append_rec slt_spot pt2_len pt2_one rfl (.tmp 22) (.tmp 25) rfl (base := w.heap.size) (l := []) rfl Ho.out (A := some ⟨b, o + m * 2, none⟩) (c := c - m) (ps.drop m) (by rw [hd1]; rfl) (by intro h; cases h) S1.out (by simp; omega) hb.size ?_; intro A3 c3' w3 ho3 hg3; have hl3 : Later w w3 := Later.grown hb hg3 (by intro g hg; cases hg); have hl4 : Later wr w3 := Later.grown (Later.refl _) hg3 (by intro g hg; cases hg); rw [List.nil_append] at ho3; have Ho3 := Lib.hid ho3; clear hg3 ho3)
    | (at_builtin; refine wpList_append_rec slt_spot pt2_len pt2_one rfl (.tmp 27) (.tmp 30) rfl (base := w.heap.size) (v := .slice A3 (ps.drop m).length c3') (l := ps.drop m) (by rw [hd1]; rfl) Ho3.out (A := some ⟨b, o, none⟩) (c := c) (ps.take m) (by rw [hd2]; rfl) (by intro h; cases h) (S2.out.later hl4) (by simp; omega) hl3.size ?_; intro A4 c4' w4 ho4 hg4; have hl5 : Later w w4 := Later.grown hl3 hg4 (fun g hg => (World.ownsRow.lt Ho3.out g hg).1)))
   go_ret
   obtain ⟨A6, c6, e6, q1, q2, q3⟩ := ho4.pts
   have hrot : rotOf ps = ps.drop m ++ ps.take m := by unfold rotOf; rw [hml]
   rw [hrot]
   exact ⟨A6, c6, by rw [← e6]; simp; omega, q1, q2, q3, hl5⟩
def rnormalOf (ps : List Pt) : List Pt := rotOf (if areaI (cornersOf ps) < 0 then (cornersOf ps).reverse else cornersOf ps)
set_option maxHeartbeats 4000000 in
set_option maxRecDepth 100000 in
theorem ref11_Normal_ok (A : Option Addr) (c : Nat) (ps : List Pt) (w : World) (hcap : ps.length ≤ c) (hp : Pts w A ps) (hok : rcheckI ps = 0) (h3 : 3 ≤ ps.length) (hn : ps.length ≤ 40) (hsm : AllSm ps) (hne : 0 < (cornersOf ps).length) (hcs : AllSm (cornersOf ps)) (hcl : (cornersOf ps).length ≤ 40) :
  Calls Tryz.prog 173 #[.slice A ps.length c] w (RetPts0 (rnormalOf ps) w) := by
 obtain ⟨b, o, rfl, hat⟩ := id (hp (by omega))
 have hC := ref11_Check (some ⟨b, o, none⟩) c ps w (by omega) hcap hp
 rw [hok] at hC
 have HC := Lib.hid hC
 clear hC hok
 have Hne := Lib.hid hne
 have Hcs := Lib.hid hcs
 have Hcl := Lib.hid hcl
 clear hne hcs hcl
 have hnil : ¬ ps = [] := by intro h; rw [h] at h3; simp at h3
 go_enter Tryz.func173, Tryz.ntmps173
 go_wp2_with (first | (go_at_call 135; refine HC.out.mono ?_; rintro e w1 ⟨rfl, hb1⟩))
 go_loopw [5, 7] (fun v ii wr => ∃ (k : Nat) (acc : List Pt), k ≤ ps.length ∧ ii = .int .i64 k ∧ OwnR wr w.heap.size 29 2 pt2 v acc ∧ cornersOf ps = cornGo ps (ps.length - k) k acc ∧ Later w wr ∧ acc.length ≤ k) (fun _ ii _ => ps.length - (intOf ii).toNat)
 case atStart => exact ⟨0, [], by omega, rfl, World.ownsRow_nil _ _ _ _, rfl, hb1, by simp⟩
 case round =>
  clear hb1
  obtain ⟨k, acc, hk, rfl, hown, he, hb, hal⟩ := hrel
  have He := Lib.hid he
  have Ho := Lib.hid hown
  clear he hown
  by_cases hlt : k < ps.length
  ·have hm0 : (k + ps.length - 1) % ps.length < ps.length := Nat.mod_lt _ (by omega)
   have hm1 : (k + 1) % ps.length < ps.length := Nat.mod_lt _ (by omega)
   obtain ⟨d1, d2⟩ := (hat.later hb).get hm0
   obtain ⟨e1, e2⟩ := (hat.later hb).get hlt
   obtain ⟨f1, f2⟩ := (hat.later hb).get hm1
   rw [← gp_eq] at d1 d2 e1 e2 f1 f2
   have hbz : b < wr.heap.size := World.block_lt_of_cell? _ _ e1
   have s0 := hsm ((k + ps.length - 1) % ps.length)
   have s1 := hsm k
   have s2 := hsm ((k + 1) % ps.length)
   have i1 : (0 : Int) ≤ (k : Int) := by omega
   have i2 : (k : Int) < (ps.length : Int) := by omega
   have hw0 : IntKind.i64.wrap ((k : Int) + ps.length) = (k : Int) + ps.length := IntWalk.i64_in _ (by omega)
   have hw0' : IntKind.i64.wrap ((k : Int) + ps.length - 1) = (k : Int) + ps.length - 1 := IntWalk.i64_in _ (by omega)
   have ht0 : ((k : Int) + ps.length - 1).tmod (ps.length : Int) = ((k : Int) + ps.length - 1) % (ps.length : Int) := Int.tmod_eq_emod_of_nonneg (by omega)
   have hi0 : (0 : Int) ≤ ((k : Int) + ps.length - 1) % (ps.length : Int) ∧ ((k : Int) + ps.length - 1) % (ps.length : Int) < (ps.length : Int) := ⟨Int.emod_nonneg _ (by omega), Int.emod_lt_of_pos _ (by omega)⟩
   have hn0 : (((k : Int) + ps.length - 1) % (ps.length : Int)).toNat = (k + ps.length - 1) % ps.length := toNat_emod' k ps.length ps.length (by omega)
   have hw1 : IntKind.i64.wrap ((k : Int) + 1) = (k : Int) + 1 := IntWalk.i64_in _ (by omega)
   have ht1 : ((k : Int) + 1).tmod (ps.length : Int) = ((k : Int) + 1) % (ps.length : Int) := Int.tmod_eq_emod_of_nonneg (by omega)
   have hi1 : (0 : Int) ≤ ((k : Int) + 1) % (ps.length : Int) ∧ ((k : Int) + 1) % (ps.length : Int) < (ps.length : Int) := ⟨Int.emod_nonneg _ (by omega), Int.emod_lt_of_pos _ (by omega)⟩
   have hn1 : (((k : Int) + 1) % (ps.length : Int)).toNat = (k + 1) % ps.length := toNat_emod k 1 ps.length
   have HX := Lib.hid (fun W => ref11_Cross _ _ _ _ _ _ W s0.1 s0.2 s1.1 s1.2 s2.1 s2.2)
   have Hst := Lib.hid (corn_step He.out hlt)
   have hbe : bendI ps k = crossI (gp ps ((k + ps.length - 1) % ps.length)).x (gp ps ((k + ps.length - 1) % ps.length)).y (gp ps k).x (gp ps k).y (gp ps ((k + 1) % ps.length)).x (gp ps ((k + 1) % ps.length)).y := rfl
   by_cases hbd : bendI ps k = 0
   ·rw [if_pos hbd] at Hst
    rw [← hbe, hbd] at HX
    clear hbd hbe
    go_wp2
    go_region_held3 (fun w' : World => (∀ a : Addr, (wr.cell? a).isSome = true → w'.cell? a = wr.cell? a) ∧ Later wr w') (first | assumption | exact keep_call (by assumption) (by assumption) | exact keep_call (by assumption) ((Later.refl _).alloc _) | exact keep_init _ | exact ⟨Later.keeps (by assumption), by assumption⟩ | exact ⟨Later.keeps (by repeat' (with_reducible first | exact .refl _ | assumption | refine .drew ?_ | refine .drewN ?_ _ | refine .alloc ?_ _ | refine .put ?_ (by omega) _ | refine .trans ?_ (by assumption))), (by repeat' (with_reducible first | exact .refl _ | assumption | refine .drew ?_ | refine .drewN ?_ _ | refine .alloc ?_ _ | refine .put ?_ (by omega) _ | refine .trans ?_ (by assumption)))⟩) ((first | (go_at_call 212; (with_reducible refine (HX.out _).mono ?_); rintro e w2 ⟨rfl, hb2⟩)))
    all_goals
     rename_i hHw
     go_wp2
     go_roundw
     case rel => exact ⟨k + 1, acc, by omega, by go_num, Ho.out.later hHw.2, Hst.out, hb.trans hHw.2, by omega⟩
     case measure => simp [intOf]; omega
   ·have t1 : (bendI ps k != 0) = true := by simp [hbd]
    rw [if_neg hbd] at Hst
    rw [← hbe] at HX
    clear hbd hbe
    generalize bendI ps k = bk at *
    go_wp2
    go_region_held3 (fun w' : World => (∀ a : Addr, (wr.cell? a).isSome = true → w'.cell? a = wr.cell? a) ∧ Later wr w') (first | assumption | exact keep_call (by assumption) (by assumption) | exact keep_call (by assumption) ((Later.refl _).alloc _) | exact keep_init _ | exact ⟨Later.keeps (by assumption), by assumption⟩ | exact ⟨Later.keeps (by repeat' (with_reducible first | exact .refl _ | assumption | refine .drew ?_ | refine .drewN ?_ _ | refine .alloc ?_ _ | refine .put ?_ (by omega) _ | refine .trans ?_ (by assumption))), (by repeat' (with_reducible first | exact .refl _ | assumption | refine .drew ?_ | refine .drewN ?_ _ | refine .alloc ?_ _ | refine .put ?_ (by omega) _ | refine .trans ?_ (by assumption)))⟩) ((first | (go_at_call 212; (with_reducible refine (HX.out _).mono ?_); rintro e w2 ⟨rfl, hb2⟩)))
    all_goals
     rename_i hHw
     have g1 := hHw.2.cell e1
     have g2 := hHw.2.cell e2
     go_upto_region 10 with fail
     have hB : Blk (w2.alloc (.cells #[.int .i64 (gp ps k).x, .int .i64 (gp ps k).y] 29)) w2.heap.size 29 #[.int .i64 (gp ps k).x, .int .i64 (gp ps k).y] := Blk.new _ _ _
     have HS := Lib.hid (SrcAt.blk hB)
     clear hB
     have hlw2 : Later w w2 := hb.trans hHw.2
     have Ho2 := Lib.hid (Ho.out.later hHw.2)
     go_wp2_with (at_builtin; refine wpList_append_rec slt_spot pt2_len pt2_one rfl (.tmp 42) (.tmp 47) rfl (base := w.heap.size) (l := acc) rfl (OwnR.alloc Ho2.out _) [gp ps k] rfl (by intro h; cases h) HS.out (by simp; omega) (by have := hlw2.size; simp; omega) ?_; intro A3 c3' w3 ho3 hg3)
     have hl3 : Later w w3 := Later.grown (hlw2.alloc _) hg3 (fun g hg => (World.ownsRow.lt Ho2.out g hg).1)
     clear hg3
     simp only [List.length_append, List.length_singleton] at ho3
     go_wp2
     go_roundw
     case rel => exact ⟨k + 1, acc ++ [gp ps k], by omega, by go_num, ho3, Hst.out, hl3, by simp; omega⟩
     case measure => simp [intOf]; omega
  ·have hcr : cornersOf ps = acc := by rw [He.out, show ps.length - k = 0 by omega]; rfl
   have Hrn := Lib.hid (show rnormalOf ps = rotOf (if areaI acc < 0 then acc.reverse else acc) by unfold rnormalOf; rw [hcr])
   rw [hcr] at Hne Hcs Hcl
   obtain ⟨A6, c6, rfl, q1, q2, q3⟩ := Ho.out.pts
   have HT := Lib.hid (fun W (hW : Later wr W) => ref11_Twice A6 c6 acc W (by have := Hcl.out; omega) (q3.later hW) Hcs.out)
   have HR := Lib.hid (fun W (hW : Later wr W) => ref11_Reversed A6 c6 acc W (by have := Hcl.out; omega) (q3.later hW))
   have HL := Lib.hid (fun (A : Option Addr) (c : Nat) (l : List Pt) (hl : l.length = acc.length) W (hc : l.length ≤ c) (hP : Pts W A l) => ref11_Least A c l W (by have := Hne.out; omega) (by have := Hcl.out; omega) hc hP)
   clear hcr He Ho
   by_cases har : areaI acc < 0
   ·rw [if_pos har] at Hrn
    have d1 : decide (areaI acc < 0) = true := by simpa using har
    generalize areaI acc = ar at *
    have hrl : acc.reverse.length = acc.length := by simp
    go_wp2_with (first
     | (go_at_call 136; (with_reducible refine (HT.out _ (by repeat' (with_reducible first | exact .refl _ | assumption | refine .drew ?_ | refine .drewN ?_ _ | refine .alloc ?_ _ | refine .put ?_ (by omega) _ | refine .trans ?_ (by assumption)))).mono ?_); rintro e w2 ⟨rfl, hb2⟩)
     | (go_at_call 213; (with_reducible refine (HR.out _ (by repeat' (with_reducible first | exact .refl _ | assumption | refine .drew ?_ | refine .drewN ?_ _ | refine .alloc ?_ _ | refine .put ?_ (by omega) _ | refine .trans ?_ (by assumption)))).mono ?_); rintro e w3 ⟨A7, c7, rfl, r1, r2, r3, hb3⟩; rw [hrl])
     | (go_at_call 214; refine (hrl ▸ HL.out A7 c7 acc.reverse hrl _ r1 r3).mono ?_; rintro e w4 ⟨A8, c8, rfl, t1, t2, t3, hb4⟩))
    go_ret2
    rw [Hrn.out]
    exact ⟨A8, c8, rfl, t1, t2, t3, hb.trans (hb2.trans (hb3.trans hb4))⟩
   ·rw [if_neg har] at Hrn
    have d1 : decide (areaI acc < 0) = false := by simpa using har
    generalize areaI acc = ar at *
    go_wp2_with (first
     | (go_at_call 136; (with_reducible refine (HT.out _ (by repeat' (with_reducible first | exact .refl _ | assumption | refine .drew ?_ | refine .drewN ?_ _ | refine .alloc ?_ _ | refine .put ?_ (by omega) _ | refine .trans ?_ (by assumption)))).mono ?_); rintro e w2 ⟨rfl, hb2⟩)
     | (go_at_call 214; (with_reducible refine (HL.out A6 c6 acc rfl _ q1 (q3.later hb2)).mono ?_); rintro e w4 ⟨A8, c8, rfl, t1, t2, t3, hb4⟩))
    go_ret2
    rw [Hrn.out]
    exact ⟨A8, c8, rfl, t1, t2, t3, hb.trans (hb2.trans hb4)⟩
end Go.Proofs.YtdhakoecjmaebaaGreat
