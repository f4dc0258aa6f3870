/-
  The walks of cmp.Or and of the three comparisons of spots; slices.SortFunc at spots: the row holds the sorted list.
-/
import Derived.Test.YtdhakoecjmaebaaGreatZGeoC
import Derived.Test.YtdhakoecjmaebaaGreatZNofP
import Derived.StillTailTactics
namespace Go.Proofs.YtdhakoecjmaebaaGreat
open Go.RowKit Go.Shelf Go.Lib Go.Sort
set_option linter.unusedSimpArgs false
set_option linter.unusedVariables false

/-- The first number that is not 0. -/
def orI : List Int → Int
  | [] => 0
  | a :: l => if a = 0 then orI l else a
theorem or_zero {l : List Int} {k : Nat} (h : k < l.length) (h0 : l[k] = 0) : orI (l.drop k) = orI (l.drop (k + 1)) := by rw [List.drop_eq_getElem_cons h, orI, if_pos h0]
theorem or_hit {l : List Int} {k : Nat} (h : k < l.length) (h0 : l[k] ≠ 0) : orI (l.drop k) = l[k] := by rw [List.drop_eq_getElem_cons h, orI, if_neg h0]
set_option maxHeartbeats 1000000 in
theorem cmp_Or (g : Nat) (l : List Int) (w : World) (hl : l.length ≤ 65536) (h : ∀ i (hi : i < l.length), w.cell? ⟨g, i, none⟩ = some (.int .i64 l[i])) :
    Calls Tryz.prog 94 #[.slice (some ⟨g, 0, none⟩) l.length l.length] w fun e w' => e = .returned (.int .i64 (orI l)) ∧ w' = w := by
  have Hc := Lib.hid h
  clear h
  go_enter Tryz.func94, Tryz.ntmps94
  go_wp2
  go_loop [8] (fun iv => ∃ k : Nat, k ≤ l.length ∧ iv = .int .i64 k ∧ orI l = orI (l.drop k)) (fun iv => l.length - (intOf iv).toNat)
  case atStart => exact ⟨0, by omega, rfl, rfl⟩
  case round =>
    obtain ⟨k, hk, rfl, he⟩ := hrel
    have He := Lib.hid he
    clear he
    by_cases hlt : k < l.length
    · have e1 := Hc.out k hlt
      have zb := World.block_lt_of_cell? _ _ e1
      have H0 := Lib.hid (or_zero hlt)
      have H1 := Lib.hid (or_hit hlt)
      generalize l[k] = n at *
      by_cases h0 : n = 0
      · subst h0
        have d0 : ((0 : Int) != 0) = false := by simp
        go_wp2
        go_round
        case rel => exact ⟨k + 1, by omega, by go_num, by rw [He.out, H0.out rfl]⟩
        case measure => simp [intOf]; omega
      · have d0 : (n != 0) = true := by simpa using h0
        have HR := Lib.hid (show orI l = n by rw [He.out, H1.out h0])
        clear h0
        go_wp2
        go_ret
        exact ⟨ret_int HR.out.symm, rfl⟩
    · have HR := Lib.hid (show orI l = 0 by rw [He.out, List.drop_eq_nil_of_le (by omega)]; rfl)
      go_wp2
      go_ret
      exact ⟨ret_int HR.out.symm, rfl⟩

/-- By X, then by Y. -/
def cmpP (x y : Pt) : Int := orI [Lib.compareInt x.x y.x, Lib.compareInt x.y y.y]
theorem compareInt_cases (a b : Int) : (a < b ∧ Lib.compareInt a b = -1) ∨ (a = b ∧ Lib.compareInt a b = 0) ∨ (b < a ∧ Lib.compareInt a b = 1) := by
  unfold Lib.compareInt
  by_cases h1 : a < b
  · exact .inl ⟨h1, by simp [h1]⟩
  · by_cases h2 : b < a
    · exact .inr (.inr ⟨h2, by simp [h1, h2]⟩)
    · exact .inr (.inl ⟨by omega, by simp [h1, h2]⟩)
theorem cmp_lt (x y : Pt) : ltOf cmpP x y = lessP x y := by
  unfold ltOf cmpP orI orI orI
  rw [Bool.eq_iff_iff, decide_eq_true_iff, less_iff]
  rcases compareInt_cases x.x y.x with ⟨h, e⟩ | ⟨h, e⟩ | ⟨h, e⟩ <;> rcases compareInt_cases x.y y.y with ⟨h', e'⟩ | ⟨h', e'⟩ | ⟨h', e'⟩ <;> rw [e, e'] <;> simp <;> omega
theorem cmp_swo : SWO (ltOf cmpP) where
  irrefl x := by rw [cmp_lt, less_not]; omega
  trans x y z h1 h2 := by rw [cmp_lt] at *; rw [less_iff] at *; omega
  ntrans x y z h1 h2 := by rw [cmp_lt] at *; rw [less_not] at *; omega
set_option maxRecDepth 100000 in
set_option maxHeartbeats 2000000 in
theorem nofit_cmp (x y : Pt) (W : World) : Calls Tryz.prog 70 #[.agg #[.int .i64 x.x, .int .i64 x.y], .agg #[.int .i64 y.x, .int .i64 y.y]] W fun e w' => e = .returned (.int .i64 (cmpP x y)) ∧ ∃ q os', w' = grow (W.drewN q) os' := by
  have hcon := fun a b W' => AnyG.cmp_Compare_int cmpInt a b W'
  change ∀ a b W', Calls Tryz.prog 95 _ _ _ at hcon
  have HC := Lib.hid hcon
  have HD := Lib.hid (show cmpP x y = orI [Lib.compareInt x.x y.x, Lib.compareInt x.y y.y] from rfl)
  clear hcon
  obtain ⟨a, b⟩ := x
  obtain ⟨c, d⟩ := y
  simp only [] at HD ⊢
  have HC1 := Lib.hid (fun W' => HC.out a c W')
  have HC2 := Lib.hid (fun W' => HC.out b d W')
  have HO := Lib.hid (fun (g : Nat) (W' : World) (h0 : W'.cell? ⟨g, 0, none⟩ = some (.int .i64 (Lib.compareInt a c))) (h1 : W'.cell? ⟨g, 1, none⟩ = some (.int .i64 (Lib.compareInt b d))) =>
    cmp_Or g [Lib.compareInt a c, Lib.compareInt b d] W' (by simp) (by
      intro i hi
      rcases i with _ | _ | i
      · exact h0
      · exact h1
      · simp at hi; omega))
  clear HC
  generalize cmpP ⟨a, b⟩ ⟨c, d⟩ = r at *
  rw [← HD.out] at HO
  generalize Lib.compareInt a c = m at *
  generalize Lib.compareInt b d = n at *
  clear HD
  go_enter Tryz.func70, Tryz.ntmps70
  go_upto_region 1 with fail
  refine name_world (fun W1 hW1 => ?_)
  have HW := Lib.hid hW1
  have k0 : W1.cell? ⟨W.heap.size, 0, none⟩ = some (.int .i64 a) := by rw [hW1]; simp [go_sem]
  have k1 : W1.cell? ⟨W.heap.size, 1, none⟩ = some (.int .i64 b) := by rw [hW1]; simp [go_sem]
  have k2 : W1.cell? ⟨W.heap.size + 1, 0, none⟩ = some (.int .i64 c) := by rw [hW1]; simp [go_sem]
  have k3 : W1.cell? ⟨W.heap.size + 1, 1, none⟩ = some (.int .i64 d) := by rw [hW1]; simp [go_sem]
  have kz : W.heap.size + 1 < W1.heap.size := by rw [hW1]; simp
  have kz0 : W.heap.size < W1.heap.size := by omega
  clear hW1
  refine wp_region_still_tail 10 (by kernel_rfl) (by kernel_rfl) ?_
  simp only [List.take_succ_cons, List.take_zero, List.drop_succ_cons, List.drop_zero]
  still_step
  still_step
  still_step
  still_step
  still_call (HC1.out _)
  still_step
  still_step
  still_step
  still_step
  still_call (HC2.out _)
  refine wpStill_nil ?_
  change wpList _ _ _ _ _ (World.drew _)
  clear k0 k1 k2 k3
  go_wp2_with (first | (go_at_call 94; refine (HO.out _ _ (by simp [go_sem]) (by simp [go_sem])).mono ?_; rintro e w' ⟨rfl, rfl⟩))
  go_ret
  refine ⟨rfl, 1, #[.cells #[.int .i64 a, .int .i64 b] 29, .cells #[.int .i64 c, .int .i64 d] 29, .cells #[.int .i64 m, .int .i64 n] 3], ?_⟩
  rw [HW.out]
  rfl
set_option maxRecDepth 100000 in
set_option maxHeartbeats 2000000 in
theorem fill_cmp (x y : Pt) (W : World) : Calls Tryz.prog 92 #[.agg #[.int .i64 x.x, .int .i64 x.y], .agg #[.int .i64 y.x, .int .i64 y.y]] W fun e w' => e = .returned (.int .i64 (cmpP x y)) ∧ ∃ q os', w' = grow (W.drewN q) os' := by
  have hcon := fun a b W' => AnyG.cmp_Compare_int cmpInt a b W'
  change ∀ a b W', Calls Tryz.prog 95 _ _ _ at hcon
  have HC := Lib.hid hcon
  have HD := Lib.hid (show cmpP x y = orI [Lib.compareInt x.x y.x, Lib.compareInt x.y y.y] from rfl)
  clear hcon
  obtain ⟨a, b⟩ := x
  obtain ⟨c, d⟩ := y
  simp only [] at HD ⊢
  have HC1 := Lib.hid (fun W' => HC.out a c W')
  have HC2 := Lib.hid (fun W' => HC.out b d W')
  have HO := Lib.hid (fun (g : Nat) (W' : World) (h0 : W'.cell? ⟨g, 0, none⟩ = some (.int .i64 (Lib.compareInt a c))) (h1 : W'.cell? ⟨g, 1, none⟩ = some (.int .i64 (Lib.compareInt b d))) =>
    cmp_Or g [Lib.compareInt a c, Lib.compareInt b d] W' (by simp) (by
      intro i hi
      rcases i with _ | _ | i
      · exact h0
      · exact h1
      · simp at hi; omega))
  clear HC
  generalize cmpP ⟨a, b⟩ ⟨c, d⟩ = r at *
  rw [← HD.out] at HO
  generalize Lib.compareInt a c = m at *
  generalize Lib.compareInt b d = n at *
  clear HD
  go_enter Tryz.func92, Tryz.ntmps92
  go_upto_region 1 with fail
  refine name_world (fun W1 hW1 => ?_)
  have HW := Lib.hid hW1
  have k0 : W1.cell? ⟨W.heap.size, 0, none⟩ = some (.int .i64 a) := by rw [hW1]; simp [go_sem]
  have k1 : W1.cell? ⟨W.heap.size, 1, none⟩ = some (.int .i64 b) := by rw [hW1]; simp [go_sem]
  have k2 : W1.cell? ⟨W.heap.size + 1, 0, none⟩ = some (.int .i64 c) := by rw [hW1]; simp [go_sem]
  have k3 : W1.cell? ⟨W.heap.size + 1, 1, none⟩ = some (.int .i64 d) := by rw [hW1]; simp [go_sem]
  have kz : W.heap.size + 1 < W1.heap.size := by rw [hW1]; simp
  have kz0 : W.heap.size < W1.heap.size := by omega
  clear hW1
  refine wp_region_still_tail 10 (by kernel_rfl) (by kernel_rfl) ?_
  simp only [List.take_succ_cons, List.take_zero, List.drop_succ_cons, List.drop_zero]
  still_step
  still_step
  still_step
  still_step
  still_call (HC1.out _)
  still_step
  still_step
  still_step
  still_step
  still_call (HC2.out _)
  refine wpStill_nil ?_
  change wpList _ _ _ _ _ (World.drew _)
  clear k0 k1 k2 k3
  go_wp2_with (first | (go_at_call 94; refine (HO.out _ _ (by simp [go_sem]) (by simp [go_sem])).mono ?_; rintro e w' ⟨rfl, rfl⟩))
  go_ret
  refine ⟨rfl, 1, #[.cells #[.int .i64 a, .int .i64 b] 29, .cells #[.int .i64 c, .int .i64 d] 29, .cells #[.int .i64 m, .int .i64 n] 3], ?_⟩
  rw [HW.out]
  rfl
set_option maxRecDepth 100000 in
set_option maxHeartbeats 2000000 in
theorem convex_cmp (x y : Pt) (W : World) : Calls Tryz.prog 151 #[.agg #[.int .i64 x.x, .int .i64 x.y], .agg #[.int .i64 y.x, .int .i64 y.y]] W fun e w' => e = .returned (.int .i64 (cmpP x y)) ∧ ∃ q os', w' = grow (W.drewN q) os' := by
  have hcon := fun a b W' => AnyG.cmp_Compare_int cmpInt a b W'
  change ∀ a b W', Calls Tryz.prog 95 _ _ _ at hcon
  have HC := Lib.hid hcon
  have HD := Lib.hid (show cmpP x y = orI [Lib.compareInt x.x y.x, Lib.compareInt x.y y.y] from rfl)
  clear hcon
  obtain ⟨a, b⟩ := x
  obtain ⟨c, d⟩ := y
  simp only [] at HD ⊢
  have HC1 := Lib.hid (fun W' => HC.out a c W')
  have HC2 := Lib.hid (fun W' => HC.out b d W')
  have HO := Lib.hid (fun (g : Nat) (W' : World) (h0 : W'.cell? ⟨g, 0, none⟩ = some (.int .i64 (Lib.compareInt a c))) (h1 : W'.cell? ⟨g, 1, none⟩ = some (.int .i64 (Lib.compareInt b d))) =>
    cmp_Or g [Lib.compareInt a c, Lib.compareInt b d] W' (by simp) (by
      intro i hi
      rcases i with _ | _ | i
      · exact h0
      · exact h1
      · simp at hi; omega))
  clear HC
  generalize cmpP ⟨a, b⟩ ⟨c, d⟩ = r at *
  rw [← HD.out] at HO
  generalize Lib.compareInt a c = m at *
  generalize Lib.compareInt b d = n at *
  clear HD
  go_enter Tryz.func151, Tryz.ntmps151
  go_upto_region 1 with fail
  refine name_world (fun W1 hW1 => ?_)
  have HW := Lib.hid hW1
  have k0 : W1.cell? ⟨W.heap.size, 0, none⟩ = some (.int .i64 a) := by rw [hW1]; simp [go_sem]
  have k1 : W1.cell? ⟨W.heap.size, 1, none⟩ = some (.int .i64 b) := by rw [hW1]; simp [go_sem]
  have k2 : W1.cell? ⟨W.heap.size + 1, 0, none⟩ = some (.int .i64 c) := by rw [hW1]; simp [go_sem]
  have k3 : W1.cell? ⟨W.heap.size + 1, 1, none⟩ = some (.int .i64 d) := by rw [hW1]; simp [go_sem]
  have kz : W.heap.size + 1 < W1.heap.size := by rw [hW1]; simp
  have kz0 : W.heap.size < W1.heap.size := by omega
  clear hW1
  refine wp_region_still_tail 10 (by kernel_rfl) (by kernel_rfl) ?_
  simp only [List.take_succ_cons, List.take_zero, List.drop_succ_cons, List.drop_zero]
  still_step
  still_step
  still_step
  still_step
  still_call (HC1.out _)
  still_step
  still_step
  still_step
  still_step
  still_call (HC2.out _)
  refine wpStill_nil ?_
  change wpList _ _ _ _ _ (World.drew _)
  clear k0 k1 k2 k3
  go_wp2_with (first | (go_at_call 94; refine (HO.out _ _ (by simp [go_sem]) (by simp [go_sem])).mono ?_; rintro e w' ⟨rfl, rfl⟩))
  go_ret
  refine ⟨rfl, 1, #[.cells #[.int .i64 a, .int .i64 b] 29, .cells #[.int .i64 c, .int .i64 d] 29, .cells #[.int .i64 m, .int .i64 n] 3], ?_⟩
  rw [HW.out]
  rfl

/-- What the sort leaves: the sorted list in the same row; nothing else turned. -/
def SortedPost (base g cap : Nat) (l : List Pt) (w : World) (e : Ending) (w' : World) : Prop :=
  e = .returned (.tuple #[]) ∧ OwnR w' base 29 2 pt2 (.slice (some ⟨g, 0, none⟩) l.length cap) (sortP l) ∧ w.grownBy w' (some g)
theorem sort_spots (f : Nat) (eg : ∀ args w, (callFunc f args).run Tryz.prog w = .ok (.enter f args) w)
    (hcmp : ∀ (x y : Pt) (W : World), Calls Tryz.prog f #[.agg #[.int .i64 x.x, .int .i64 x.y], .agg #[.int .i64 y.x, .int .i64 y.y]] W fun e w' => e = .returned (.int .i64 (cmpP x y)) ∧ ∃ q os', w' = grow (W.drewN q) os')
    (base g cap : Nat) (l : List Pt) (w : World) (h : OwnR w base 29 2 pt2 (.slice (some ⟨g, 0, none⟩) l.length cap) l) (hl : l.length ≤ 65536) :
    Calls Tryz.prog 91 #[.slice (some ⟨g, 0, none⟩) l.length cap, .func (.func f) #[] #[]] w (SortedPost base g cap l w) := by
  have hlt : g < w.heap.size := (World.ownsRow.lt h g rfl).2
  have hlays : CmpLays Tryz.prog f #[] pt2 2 cmpP g 0 l.toArray.size w := fun _ _ _ _ x y => hcmp x y _
  have hcon := AnyQ.slices_SortFunc sortSp 2 Tryz.isAgg29 Tryz.sizeOf29 pt2 pt2_len pt2_one cmpP cmp_swo f #[] g 0 cap l.toArray w eg hlays (own_holds h) hlt (by simp; omega)
  change Calls Tryz.prog 91 _ _ _ at hcon
  rw [List.size_toArray] at hcon
  refine hcon.mono ?_
  rintro e w' ⟨rfl, d', n, os, hp, hs, rfl⟩
  obtain ⟨p1, p2, p3⟩ := hp
  have hsz : d'.size = l.length := by simpa using p1
  have hperm : d'.toList.Perm l := by
    rw [show d'.extract 0 l.length = d' by rw [← hsz]; exact Array.extract_size, show l.toArray.extract 0 l.length = l.toArray by rw [show l.length = l.toArray.size from List.size_toArray.symm]; exact Array.extract_size] at p3
    exact p3
  have hasc : Asc d'.toList := by
    unfold Asc
    rw [List.pairwise_iff_getElem]
    intro i j hi hj hij
    have hi' : i < d'.size := by simpa using hi
    have hj' : j < d'.size := by simpa using hj
    have := hs i j (Nat.zero_le _) hij (by omega)
    rw [cmp_lt, getElem!_pos d' i hi', getElem!_pos d' j hj'] at this
    simp only [Array.getElem_toList]
    exact this
  have e1 := sort_of hperm hasc
  have := sort_own (n := n) (m := d'.toList) os h (by simpa using hsz)
  rw [e1] at this
  rw [show d' = (sortP l).toArray by rw [← e1]]
  exact ⟨rfl, this, sort_grown w g n _ os hlt⟩
theorem eg_nofit : ∀ args w, (callFunc 70 args).run Tryz.prog w = .ok (.enter 70 args) w := enters_of Tryz.func70 (by kernel_rfl) rfl
theorem eg_fill : ∀ args w, (callFunc 92 args).run Tryz.prog w = .ok (.enter 92 args) w := enters_of Tryz.func92 (by kernel_rfl) rfl
theorem eg_convex : ∀ args w, (callFunc 151 args).run Tryz.prog w = .ok (.enter 151 args) w := enters_of Tryz.func151 (by kernel_rfl) rfl
/-- slices.SortFunc at a slice that may be nil. -/
theorem sort_any (f : Nat) (eg : ∀ args w, (callFunc f args).run Tryz.prog w = .ok (.enter f args) w)
    (hcmp : ∀ (x y : Pt) (W : World), Calls Tryz.prog f #[.agg #[.int .i64 x.x, .int .i64 x.y], .agg #[.int .i64 y.x, .int .i64 y.y]] W fun e w' => e = .returned (.int .i64 (cmpP x y)) ∧ ∃ q os', w' = grow (W.drewN q) os')
    (base : Nat) (v : Value) (l : List Pt) (w : World) (h : OwnR w base 29 2 pt2 v l) (hl : l.length ≤ 65536) :
    Calls Tryz.prog 91 #[v, .func (.func f) #[] #[]] w (fun e w' => e = .returned (.tuple #[]) ∧ OwnR w' base 29 2 pt2 v (sortP l) ∧ w.grownBy w' v.ownBlock) := by
  obtain ⟨A, c, rfl, _⟩ := h.form pt2_len
  rcases h.2 with ⟨h1, h2⟩ | ⟨g, cap, cur, hv, _⟩
  · have e0 : l = [] := List.eq_nil_of_length_eq_zero h2
    subst e0
    have h1' := AnyF.slices_SortFunc_none sortSp A c (.func (.func f) #[] #[]) w
    change Calls Tryz.prog 91 _ _ _ at h1'
    refine h1'.mono ?_
    rintro e w' ⟨rfl, rfl⟩
    exact ⟨rfl, h, World.grownBy.refl _ _⟩
  · cases hv
    exact sort_spots f eg hcmp base g c l w h hl

end Go.Proofs.YtdhakoecjmaebaaGreat
/-
  The walks of convex.outside, convex.cross, slices.Clone and slices.ContainsFunc at spots.
-/
namespace Go.Proofs.YtdhakoecjmaebaaGreat
open Go.RowKit
set_option linter.unusedSimpArgs false
set_option linter.unusedVariables false

set_option maxHeartbeats 400000 in
theorem convex_cross (xa ya xb yb xc yc : Int) (w : World) (hxa : Sm xa) (hya : Sm ya) (hxb : Sm xb) (hyb : Sm yb) (hxc : Sm xc) (hyc : Sm yc) :
    Calls Tryz.prog 197 #[.agg #[.int .i64 xa, .int .i64 ya], .agg #[.int .i64 xb, .int .i64 yb], .agg #[.int .i64 xc, .int .i64 yc]] w (Ret (.int .i64 (crossI xa ya xb yb xc yc)) w) := by
  have hb := crossI_bd hxa hya hxb hyb hxc hyc
  unfold Sm at *
  go_enter Tryz.func197, Tryz.ntmps197
  go_wp2
  go_ret
  exact ⟨rfl, (((Later.refl _).alloc _).alloc _).alloc _⟩
set_option maxHeartbeats 400000 in
theorem convex_outside (x y : Int) (w : World) : Calls Tryz.prog 111 #[.agg #[.int .i64 x, .int .i64 y]] w (Ret (.bool (out4 ⟨x, y⟩)) w) := by
  go_enter Tryz.func111, Tryz.ntmps111
  go_wp2
  all_goals
    go_ret
    exact ⟨ret_bool (by simp [out4] <;> omega), (Later.refl _).alloc _⟩
def outFrom4 : List Pt → Nat → Int
  | [], _ => -1
  | p :: l, k => if out4 p = true then k else outFrom4 l (k + 1)
theorem out4_hit {p : Pt} {l : List Pt} {k : Nat} (h : out4 p = true) : outFrom4 (p :: l) k = (k : Int) := by rw [outFrom4, if_pos h]
theorem out4_miss {p : Pt} {l : List Pt} {k : Nat} (h : out4 p = false) : outFrom4 (p :: l) k = outFrom4 l (k + 1) := by rw [outFrom4, h]; rfl
theorem out4_neg (l : List Pt) (k : Nat) : 0 ≤ outFrom4 l k ↔ l.any out4 = true := by
  induction l generalizing k with
  | nil => simp [outFrom4]
  | cons p l ih =>
    unfold outFrom4
    split
    · simp_all
    · rw [ih]
      simp_all
set_option maxHeartbeats 1000000 in
theorem index_out4 (A : Option Addr) (c : Nat) (ps : List Pt) (w : World) (hn : ps.length ≤ 1099511627776) (hp : Pts w A ps) :
    Calls Tryz.prog 96 #[.slice A ps.length c, .func (.func 111) #[] #[]] w (Ret (.int .i64 (outFrom4 ps 0)) w) := by
  go_enter Tryz.func96, Tryz.ntmps96
  go_wp2
  go_loopw [4, 8] (fun r i wr => ∃ k : Nat, k ≤ ps.length ∧ i = .int .i64 k ∧ outFrom4 ps 0 = outFrom4 (ps.drop k) k ∧ Later w wr) (fun _ i _ => ps.length - (intOf i).toNat)
  case atStart => exact ⟨0, by omega, rfl, rfl, Later.refl _⟩
  case round =>
    obtain ⟨k, hk, rfl, he, hb⟩ := hrel
    have He := Lib.hid he
    clear he
    by_cases hlt : k < ps.length
    · obtain ⟨b, o, rfl, e1, e2⟩ := (hp.later hb).at_ hlt
      have Hd := Lib.hid (drop_cons ps k hlt)
      generalize ps[k] = p at *
      obtain ⟨px, py⟩ := p
      have H1 := Lib.hid (out4_hit (p := ⟨px, py⟩) (l := ps.drop (k + 1)) (k := k))
      have H2 := Lib.hid (out4_miss (p := ⟨px, py⟩) (l := ps.drop (k + 1)) (k := k))
      have HC := Lib.hid (fun W => convex_outside px py W)
      obtain ⟨r, hr⟩ : ∃ r, out4 ⟨px, py⟩ = r := ⟨_, rfl⟩
      rw [hr] at H1 H2 HC
      clear hr
      rcases r with _ | _
      · go_wp2_with (go_at_call 111; (with_reducible refine (HC.out _).mono ?_); rintro e w1 ⟨rfl, hb1⟩)
        go_roundw
        case rel => exact ⟨k + 1, by omega, by go_num, by rw [He.out, Hd.out, H2.out (by first | trivial | rfl)], hb.trans (by assumption)⟩
        case measure => simp [intOf]; omega
      · go_wp2_with (go_at_call 111; (with_reducible refine (HC.out _).mono ?_); rintro e w1 ⟨rfl, hb1⟩)
        go_ret
        exact ⟨ret_int (by rw [He.out, Hd.out, H1.out (by first | trivial | rfl)]), hb.trans (by assumption)⟩
    · go_wp2
      go_ret
      exact ⟨ret_int (by rw [He.out, List.drop_eq_nil_of_le (by omega)]; rfl), hb⟩
set_option maxHeartbeats 1000000 in
theorem contains_out4 (A : Option Addr) (c : Nat) (ps : List Pt) (w : World) (hn : ps.length ≤ 1099511627776) (hp : Pts w A ps) :
    Calls Tryz.prog 56 #[.slice A ps.length c, .func (.func 111) #[] #[]] w (Ret (.bool (ps.any out4)) w) := by
  have HI := Lib.hid (index_out4 A c ps w hn hp)
  have HN := Lib.hid (out4_neg ps 0)
  generalize outFrom4 ps 0 = n at *
  generalize ps.any out4 = r at *
  go_enter Tryz.func56, Tryz.ntmps56
  go_wp2_with (go_at_call 96; (with_reducible refine HI.out.mono ?_); rintro e w1 ⟨rfl, hb1⟩)
  go_ret
  exact ⟨ret_bool (by rw [Bool.eq_iff_iff, ← HN.out]; simp), hb1⟩

/-- A row of one's own, cut short. -/
theorem OwnR.cut {α : Type} {cells : α → List Value} {sz : Nat} (hc : ∀ a, (cells a).length = sz) {w : World} {base g c : Nat} {E : TypeId} {l : List α} {N : Nat} (h : OwnR w base E sz cells (.slice (some ⟨g, 0, none⟩) N c) l) {n : Nat} (hn : n ≤ l.length) :
    OwnR w base E sz cells (.slice (some ⟨g, 0, none⟩) n c) (l.take n) := by
  have hl : (l.take n).length = n := by rw [List.length_take]; omega
  rcases h.2 with ⟨h1, _⟩ | ⟨g', cap, cur, hv, hb, hg, hnc, hcm, hcs, htake⟩
  · cases h1
  cases hv
  have e0 : l.flatMap cells = (l.take n).flatMap cells ++ (l.drop n).flatMap cells := by rw [← List.flatMap_append, List.take_append_drop]
  have e1 : (l.flatMap cells).take (n * sz) = (l.take n).flatMap cells := by
    rw [e0]
    exact List.take_left' (by rw [flat_len hc, hl])
  refine ⟨by rw [flat_len hc], .inr ⟨g, c, cur, by rw [hl], hb, hg, by omega, hcm, hcs, ?_⟩⟩
  rw [hl, ← e1, ← htake, List.take_take, Nat.min_eq_left (Nat.mul_le_mul_right sz hn)]

set_option maxHeartbeats 2000000 in
theorem clone_spots (A : Option Addr) (c : Nat) (l : List Pt) (w : World) (hA : A = none → l = []) (h : Pts w A l) (hl : l.length ≤ 65536) :
    Calls Tryz.prog 150 #[.slice A l.length c] w (fun e w' => ∃ v, e = .returned v ∧ OwnR w' w.heap.size 29 2 pt2 v l ∧ Later w w') := by
  have q22 : ∀ (w : World) (a : Option Addr) (n c n' c' : Nat), (binOp .eql 28 (.slice a n c) (.slice none n' c')).run Tryz.prog w = .ok (.bool a.isNone) w := fun w a n c n' c' => Lib.run_eql_slice_nil w _ _ a n c n' c' Tryz.underlying28
  cases A with
  | none =>
    have e := hA rfl
    subst e
    go_enter Tryz.func150, Tryz.ntmps150
    go_wp2
    go_ret
    exact ⟨_, rfl, World.ownsRow_nil _ _ _ _, Later.refl _⟩
  | some ad =>
    have Hsrc := Lib.hid (h.src)
    go_enter Tryz.func150, Tryz.ntmps150
    go_wp2_with (at_builtin; refine wpList_append_rec slt_spot pt2_len pt2_one rfl _ _ rfl (base := w.heap.size) (l := ([] : List Pt)) rfl (World.ownsRow_made w #[] 0 (Nat.le_refl _) (Nat.zero_le _) (by simp)) (A := some ad) (c := c) l rfl (by intro h; cases h) (Hsrc.out.later ((Later.refl _).alloc _)) (by simpa using hl) (by simp) ?_; intro A3 c3 w3 ho3 hg3)
    have hl3 : Later w w3 := Later.grown ((Later.refl _).alloc _) hg3 (fun g hg => by cases hg; exact Nat.le_refl _)
    go_wp2
    go_ret
    exact ⟨_, rfl, by simpa using ho3, hl3⟩

end Go.Proofs.YtdhakoecjmaebaaGreat
