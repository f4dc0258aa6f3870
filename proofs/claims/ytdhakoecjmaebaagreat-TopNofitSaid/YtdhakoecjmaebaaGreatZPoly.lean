/-
  The walks of the functions on single points: what each returns.
  The walks of the functions on single points, second part: two segments that meet, bounds, sides.
  The walk of the reference's test whether two segments meet.
  Facts of this program's own tables: how points and rectangles are built and compared.
  The walks of slices.Index, Contains, IndexFunc, ContainsFunc at points.
  The walk of polygon.simple.
  The walks of polygon.Check and polygon.Box.
  A block that is known whole, kept over what a walk does elsewhere.
  The walk of polygon.Box.
-/
import Derived.Test.YtdhakoecjmaebaaGreatZBase
import Derived.Laws.StructEq
import Derived.Laws.Cover2
import Derived.Laws.Rows
import Derived.BigRegion
/- The walks of the functions on single points: what each returns. -/
namespace Go.Proofs.YtdhakoecjmaebaaGreat
open Go.RowKit
set_option linter.unusedSimpArgs false
set_option linter.unusedVariables false

/-- q lies on the segment from a to b. -/
def onB (xa ya xb yb xq yq : Int) : Bool :=
  decide (crossI xa ya xb yb xq yq = 0) && decide (min xa xb ≤ xq) && decide (xq ≤ max xa xb) && decide (min ya yb ≤ yq) && decide (yq ≤ max ya yb)
def partedB (xa ya xb yb xc yc xd yd : Int) : Bool := decide (sgn (crossI xa ya xb yb xc yc) * sgn (crossI xa ya xb yb xd yd) < 0)
def meetB (xa ya xb yb xc yc xd yd : Int) : Bool :=
  onB xa ya xb yb xc yc || onB xa ya xb yb xd yd || onB xc yc xd yd xa ya || onB xc yc xd yd xb yb || (partedB xa ya xb yb xc yc xd yd && partedB xc yc xd yd xa ya xb yb)
def foldedB (xa ya xb yb xc yc : Int) : Bool := decide (crossI xa ya xb yb xc yc = 0) && decide (0 < (xa - xb) * (xc - xb) + (ya - yb) * (yc - yb))
def outsideB (x y : Int) : Bool := decide (x < -1048576) || decide (1048576 < x) || decide (y < -1048576) || decide (1048576 < y)

theorem cmp_sgn (n : Int) : (if n < 0 then (-1 : Int) else if 0 < n then 1 else 0) = sgn n := by unfold sgn; omega

set_option maxHeartbeats 400000 in
theorem polygon_cross (xa ya xb yb xc yc : Int) (w : World) (hxa : Sm xa) (hya : Sm ya) (hxb : Sm xb) (hyb : Sm yb) (hxc : Sm xc) (hyc : Sm yc) :
    Calls Tryz.prog 143 #[.agg #[.int .i64 xa, .int .i64 ya], .agg #[.int .i64 xb, .int .i64 yb], .agg #[.int .i64 xc, .int .i64 yc]] w (Ret (.int .i64 (crossI xa ya xb yb xc yc)) w) := by
  have hb := crossI_bd hxa hya hxb hyb hxc hyc
  unfold Sm at *
  go_enter Tryz.func143, Tryz.ntmps143
  go_wp2
  go_ret
  exact ⟨rfl, (((Later.refl _).alloc _).alloc _).alloc _⟩

set_option maxHeartbeats 400000 in
theorem triangle_cross (xa ya xb yb xc yc : Int) (w : World) (hxa : Sm xa) (hya : Sm ya) (hxb : Sm xb) (hyb : Sm yb) (hxc : Sm xc) (hyc : Sm yc) :
    Calls Tryz.prog 104 #[.agg #[.int .i64 xa, .int .i64 ya], .agg #[.int .i64 xb, .int .i64 yb], .agg #[.int .i64 xc, .int .i64 yc]] w (Ret (.int .i64 (crossI xa ya xb yb xc yc)) w) := by
  have hb := crossI_bd hxa hya hxb hyb hxc hyc
  unfold Sm at *
  go_enter Tryz.func104, Tryz.ntmps104
  go_wp2
  go_ret
  exact ⟨rfl, (((Later.refl _).alloc _).alloc _).alloc _⟩

set_option maxHeartbeats 400000 in
theorem cmp_Compare0 (n : Int) (w : World) : Calls Tryz.prog 95 #[.int .i64 n, .int .i64 0] w (Pure (.int .i64 (sgn n)) w) := by
  rw [← cmp_sgn]
  by_cases h : n < 0
  · rw [if_pos h]
    go_enter Tryz.func95, Tryz.ntmps95
    go_wp2
    go_ret
    exact ⟨rfl, rfl⟩
  · by_cases h' : 0 < n
    · rw [if_neg h, if_pos h']
      go_enter Tryz.func95, Tryz.ntmps95
      go_wp2
      go_ret
      exact ⟨rfl, rfl⟩
    · rw [if_neg h, if_neg h']
      go_enter Tryz.func95, Tryz.ntmps95
      go_wp2
      go_ret
      exact ⟨rfl, rfl⟩

attribute [local go_sem] ite_min ite_max

set_option maxHeartbeats 1000000 in
theorem polygon_on (xa ya xb yb xq yq : Int) (w : World) (hxa : Sm xa) (hya : Sm ya) (hxb : Sm xb) (hyb : Sm yb) (hxq : Sm xq) (hyq : Sm yq) :
    Calls Tryz.prog 144 #[.agg #[.int .i64 xa, .int .i64 ya], .agg #[.int .i64 xb, .int .i64 yb], .agg #[.int .i64 xq, .int .i64 yq]] w (Ret (.bool (onB xa ya xb yb xq yq)) w) := by
  go_enter Tryz.func144, Tryz.ntmps144
  go_wp2_with (go_at_call 143; refine (polygon_cross _ _ _ _ _ _ _ hxa hya hxb hyb hxq hyq).mono ?_; rintro e w1 ⟨rfl, hb1⟩; have hc1 := hb1.cells.1)
  all_goals
    go_ret
    exact ⟨ret_bool (by simp [onB, *] <;> omega), ((((Later.refl _).alloc _).alloc _).alloc _).trans (by assumption)⟩

set_option maxHeartbeats 1000000 in
theorem polygon_folded (xa ya xb yb xc yc : Int) (w : World) (hxa : Sm xa) (hya : Sm ya) (hxb : Sm xb) (hyb : Sm yb) (hxc : Sm xc) (hyc : Sm yc) :
    Calls Tryz.prog 98 #[.agg #[.int .i64 xa, .int .i64 ya], .agg #[.int .i64 xb, .int .i64 yb], .agg #[.int .i64 xc, .int .i64 yc]] w (Ret (.bool (foldedB xa ya xb yb xc yc)) w) := by
  have hm1 : -70368744177664 ≤ (xa - xb) * (xc - xb) ∧ (xa - xb) * (xc - xb) ≤ 70368744177664 := by
    unfold Sm at *
    have := mul_bd (a := xa - xb) (b := xc - xb) 8388608 (by omega) (by omega)
    omega
  have hm2 : -70368744177664 ≤ (ya - yb) * (yc - yb) ∧ (ya - yb) * (yc - yb) ≤ 70368744177664 := by
    unfold Sm at *
    have := mul_bd (a := ya - yb) (b := yc - yb) 8388608 (by omega) (by omega)
    omega
  have sxa := hxa
  have sya := hya
  have sxb := hxb
  have syb := hyb
  have sxc := hxc
  have syc := hyc
  unfold Sm at sxa sya sxb syb sxc syc
  go_enter Tryz.func98, Tryz.ntmps98
  go_wp2_with (go_at_call 143; refine (polygon_cross _ _ _ _ _ _ _ hxa hya hxb hyb hxc hyc).mono ?_; rintro e w1 ⟨rfl, hb1⟩; have hc1 := hb1.cells.1)
  all_goals
    go_ret
    exact ⟨ret_bool (by simp [foldedB, *]), ((((Later.refl _).alloc _).alloc _).alloc _).trans (by assumption)⟩

set_option maxHeartbeats 1000000 in
theorem polygon_parted (xa ya xb yb xc yc xd yd : Int) (w : World) (hxa : Sm xa) (hya : Sm ya) (hxb : Sm xb) (hyb : Sm yb) (hxc : Sm xc) (hyc : Sm yc) (hxd : Sm xd) (hyd : Sm yd) :
    Calls Tryz.prog 145 #[.agg #[.int .i64 xa, .int .i64 ya], .agg #[.int .i64 xb, .int .i64 yb], .agg #[.int .i64 xc, .int .i64 yc], .agg #[.int .i64 xd, .int .i64 yd]] w (Ret (.bool (partedB xa ya xb yb xc yc xd yd)) w) := by
  have hw : IntKind.i64.wrap (sgn (crossI xa ya xb yb xc yc) * sgn (crossI xa ya xb yb xd yd)) = sgn (crossI xa ya xb yb xc yc) * sgn (crossI xa ya xb yb xd yd) := IntWalk.i64_in _ (by have := sgn_mul_bd (crossI xa ya xb yb xc yc) (crossI xa ya xb yb xd yd); omega)
  go_enter Tryz.func145, Tryz.ntmps145
  go_wp2
  go_region_held3 (fun w' : World => w'.cell? ⟨w.heap.size, 0, none⟩ = some (.int .i64 xa) ∧ w'.cell? ⟨w.heap.size, 1, none⟩ = some (.int .i64 ya) ∧ w'.cell? ⟨w.heap.size + 1, 0, none⟩ = some (.int .i64 xb) ∧ w'.cell? ⟨w.heap.size + 1, 1, none⟩ = some (.int .i64 yb) ∧ w'.cell? ⟨w.heap.size + 1 + 1, 0, none⟩ = some (.int .i64 xc) ∧ w'.cell? ⟨w.heap.size + 1 + 1, 1, none⟩ = some (.int .i64 yc) ∧ w'.cell? ⟨w.heap.size + 1 + 1 + 1, 0, none⟩ = some (.int .i64 xd) ∧ w'.cell? ⟨w.heap.size + 1 + 1 + 1, 1, none⟩ = some (.int .i64 yd) ∧ w.heap.size + 1 + 1 + 1 + 1 ≤ w'.heap.size ∧ Later w w') (first | assumption | exact held4_keep (by assumption) (by assumption) | exact held4_init w _ _ _ _ _ _ _ _)
    (first | (go_at_call 143; refine (polygon_cross _ _ _ _ _ _ _ (by assumption) (by assumption) (by assumption) (by assumption) (by assumption) (by assumption)).mono ?_; rintro e w1 ⟨rfl, hb1⟩) | (go_at_call 95; refine (cmp_Compare0 _ _).mono ?_; rintro e w1 ⟨rfl, rfl⟩))
  go_wp2
  go_ret
  exact ⟨ret_bool rfl, by have h := (by assumption : _ ∧ _); exact h.2.2.2.2.2.2.2.2.2⟩

end Go.Proofs.YtdhakoecjmaebaaGreat

/- The walks of the functions on single points, second part: two segments that meet, bounds, sides. -/
namespace Go.Proofs.YtdhakoecjmaebaaGreat
open Go.RowKit
set_option linter.unusedSimpArgs false
set_option linter.unusedVariables false

set_option maxHeartbeats 2000000 in
theorem polygon_meet (xa ya xb yb xc yc xd yd : Int) (w : World) (hxa : Sm xa) (hya : Sm ya) (hxb : Sm xb) (hyb : Sm yb) (hxc : Sm xc) (hyc : Sm yc) (hxd : Sm xd) (hyd : Sm yd) :
    Calls Tryz.prog 99 #[.agg #[.int .i64 xa, .int .i64 ya], .agg #[.int .i64 xb, .int .i64 yb], .agg #[.int .i64 xc, .int .i64 yc], .agg #[.int .i64 xd, .int .i64 yd]] w (Ret (.bool (meetB xa ya xb yb xc yc xd yd)) w) := by
  go_enter Tryz.func99, Tryz.ntmps99
  go_wp2_with (first | (go_at_call 144; refine (polygon_on _ _ _ _ _ _ _ (by assumption) (by assumption) (by assumption) (by assumption) (by assumption) (by assumption)).mono ?_; rintro e w1 ⟨rfl, hb1⟩; first | (have hH := held4_keep (by assumption) hb1; clear hb1) | (have hH := held4_first hb1; clear hb1)) | (go_at_call 145; refine (polygon_parted _ _ _ _ _ _ _ _ _ (by assumption) (by assumption) (by assumption) (by assumption) (by assumption) (by assumption) (by assumption) (by assumption)).mono ?_; rintro e w1 ⟨rfl, hb1⟩; first | (have hH := held4_keep (by assumption) hb1; clear hb1) | (have hH := held4_first hb1; clear hb1)))
  all_goals
    go_ret
    exact ⟨ret_bool (by simp [meetB, *]), held4_later (by assumption)⟩

set_option maxHeartbeats 400000 in
theorem polygon_outside (x y : Int) (w : World) : Calls Tryz.prog 57 #[.agg #[.int .i64 x, .int .i64 y]] w (Ret (.bool (outsideB x y)) w) := by
  go_enter Tryz.func57, Tryz.ntmps57
  go_wp2
  all_goals
    go_ret
    exact ⟨ret_bool (by simp [outsideB] <;> omega), (Later.refl _).alloc _⟩

set_option maxHeartbeats 400000 in
theorem triangle_outside (x y : Int) (w : World) : Calls Tryz.prog 149 #[.agg #[.int .i64 x, .int .i64 y]] w (Ret (.bool (outsideB x y)) w) := by
  go_enter Tryz.func149, Tryz.ntmps149
  go_wp2
  all_goals
    go_ret
    exact ⟨ret_bool (by simp [outsideB] <;> omega), (Later.refl _).alloc _⟩

end Go.Proofs.YtdhakoecjmaebaaGreat

/- The walk of the reference's test whether two segments meet. -/
namespace Go.Proofs.YtdhakoecjmaebaaGreat
open Go.RowKit
set_option linter.unusedSimpArgs false
set_option linter.unusedVariables false

end Go.Proofs.YtdhakoecjmaebaaGreat

/- Facts of this program's own tables: how points and rectangles are built and compared. -/
namespace Go.Proofs.YtdhakoecjmaebaaGreat
open Go.RowKit
set_option linter.unusedSimpArgs false
set_option linter.unusedVariables false

@[go_sem] theorem eq_spot (a b c d : Int) (w : World) : (Op.equalIn 10000 29 (.agg #[.int .i64 a, .int .i64 b]) (.agg #[.int .i64 c, .int .i64 d])).run Tryz.prog w = .ok (a == c && b == d) w := by
  have u3 := Tryz.underlying3
  have hS : Tryz.prog.underlying 29 = some (.struct (Tryz.prog.fieldsOf 29)) := by kernel_rfl
  rw [show (10000 : Nat) = 9999 + 1 from rfl, run_equalIn_agg w 9999 29 _ _ hS (by kernel_rfl)]
  simp only [Program.fieldsOf, Tryz.underlying29]
  go_simp
  by_cases h1 : a = c <;> by_cases h2 : b = d <;> simp [h1, h2]

theorem eql_spot (a b c d : Int) (w : World) : (binOp .eql 29 (.agg #[.int .i64 a, .int .i64 b]) (.agg #[.int .i64 c, .int .i64 d])).run Tryz.prog w = .ok (.bool (a == c && b == d)) w := by
  rw [run_eql_struct, eq_spot]
  rfl
theorem neq_spot (a b c d : Int) (w : World) : (binOp .neq 29 (.agg #[.int .i64 a, .int .i64 b]) (.agg #[.int .i64 c, .int .i64 d])).run Tryz.prog w = .ok (.bool (!(a == c && b == d))) w := by
  rw [run_neq_struct, eq_spot]
  rfl

@[go_sem] theorem build_spot (a b : Int) (w : World) : (Instr.build 29 #[(0, .int .i64 a), (1, .int .i64 b)]).run Tryz.prog w = .ok (.agg #[.int .i64 a, .int .i64 b]) w := run_build w 29 _ _ (by kernel_rfl)
@[go_sem] theorem build_rect (a b c d : Int) (w : World) : (Instr.build 48 #[(0, .int .i64 a), (1, .int .i64 b), (2, .int .i64 c), (3, .int .i64 d)]).run Tryz.prog w = .ok (.agg #[.int .i64 a, .int .i64 b, .int .i64 c, .int .i64 d]) w := run_build w 48 _ _ (by kernel_rfl)
end Go.Proofs.YtdhakoecjmaebaaGreat

/- The walks of slices.Index, Contains, IndexFunc, ContainsFunc at points. -/
namespace Go.Proofs.YtdhakoecjmaebaaGreat
open Go.RowKit
set_option linter.unusedSimpArgs false
set_option linter.unusedVariables false

/-- The first place of q, from k on; -1 if there is none. -/
def idxFrom (q : Pt) : List Pt → Nat → Int
  | [], _ => -1
  | p :: l, k => if q.x = p.x ∧ q.y = p.y then k else idxFrom q l (k + 1)

theorem idx_neg (q : Pt) (l : List Pt) (k : Nat) : 0 ≤ idxFrom q l k ↔ q ∈ l := by
  induction l generalizing k with
  | nil => simp [idxFrom]
  | cons p l ih =>
    unfold idxFrom
    split
    · rename_i h
      have : q = p := by cases q; cases p; simp_all
      simp [this]
    · rename_i h
      rw [ih]
      have : q ≠ p := by rintro rfl; simp at h
      simp [this]

theorem idx_hit {x y px py : Int} {l : List Pt} {k : Nat} (h : (x == px && y == py) = true) : idxFrom ⟨x, y⟩ (⟨px, py⟩ :: l) k = k := by
  simp at h
  rw [idxFrom, if_pos h]
theorem idx_miss {x y px py : Int} {l : List Pt} {k : Nat} (h : (x == px && y == py) = false) : idxFrom ⟨x, y⟩ (⟨px, py⟩ :: l) k = idxFrom ⟨x, y⟩ l (k + 1) := by
  simp at h
  rw [idxFrom, if_neg]
  rintro ⟨h1, h2⟩
  exact h h1 h2

theorem drop_cons {α : Type} (l : List α) (k : Nat) (h : k < l.length) : l.drop k = l[k] :: l.drop (k + 1) := List.drop_eq_getElem_cons h

set_option maxHeartbeats 1000000 in
theorem slices_Index (A : Option Addr) (c : Nat) (ps : List Pt) (x y : Int) (w : World) (hn : ps.length ≤ 1099511627776) (hp : Pts w A ps) :
    Calls Tryz.prog 142 #[.slice A ps.length c, .agg #[.int .i64 x, .int .i64 y]] w (Ret (.int .i64 (idxFrom ⟨x, y⟩ ps 0)) w) := by
  go_enter Tryz.func142, Tryz.ntmps142
  go_wp2
  go_loopw [4, 8] (fun r i wr => ∃ k : Nat, k ≤ ps.length ∧ i = .int .i64 k ∧ idxFrom ⟨x, y⟩ ps 0 = idxFrom ⟨x, y⟩ (ps.drop k) k ∧ Later w wr ∧ wr.cell? ⟨w.heap.size, 0, none⟩ = some (.int .i64 x) ∧ wr.cell? ⟨w.heap.size, 1, none⟩ = some (.int .i64 y)) (fun _ i _ => ps.length - (intOf i).toNat)
  case atStart => exact ⟨0, by omega, rfl, rfl, (Later.refl _).alloc _, by simp [go_sem], by simp [go_sem]⟩
  case round =>
    obtain ⟨k, hk, rfl, he, hb, hc0, hc1⟩ := hrel
    have He := Lib.hid he
    clear he
    by_cases hlt : k < ps.length
    · obtain ⟨b, o, rfl, e1, e2⟩ := (hp.later hb).at_ hlt
      have Hd := Lib.hid (drop_cons ps k hlt)
      generalize ps[k] = p at *
      obtain ⟨px, py⟩ := p
      have hq := eql_spot x y px py
      go_wp2
      go_quiet (fail)
      go_wp2
      · go_ret
        exact ⟨ret_int (by rw [He.out, Hd.out]; exact (idx_hit (by simp_all)).symm), hb.drewN _⟩
      · go_roundw
        case rel => exact ⟨k + 1, by omega, by go_num, by rw [He.out, Hd.out]; exact idx_miss (by simp_all <;> omega), hb.drewN _, hc0, hc1⟩
        case measure => simp [intOf]; omega
    · go_wp2
      go_ret
      exact ⟨ret_int (by rw [He.out, List.drop_eq_nil_of_le (by omega)]; rfl), hb⟩

set_option maxHeartbeats 1000000 in
theorem slices_Contains (A : Option Addr) (c : Nat) (ps : List Pt) (x y : Int) (w : World) (hn : ps.length ≤ 1099511627776) (hp : Pts w A ps) :
    Calls Tryz.prog 97 #[.slice A ps.length c, .agg #[.int .i64 x, .int .i64 y]] w (Ret (.bool (decide (⟨x, y⟩ ∈ ps))) w) := by
  go_enter Tryz.func97, Tryz.ntmps97
  go_wp2_with (go_at_call 142; refine (slices_Index _ _ _ _ _ _ hn (hp.later ((Later.refl _).alloc _))).mono ?_; rintro e w1 ⟨rfl, hb1⟩)
  go_ret
  exact ⟨ret_bool (by simp [idx_neg]), ((Later.refl _).alloc _).trans hb1⟩

/-- The first place that is outside, from k on; -1 if there is none. -/
def outFrom : List Pt → Nat → Int
  | [], _ => -1
  | p :: l, k => if outsideB p.x p.y then k else outFrom l (k + 1)
theorem out_neg (l : List Pt) (k : Nat) : 0 ≤ outFrom l k ↔ l.any (fun p => outsideB p.x p.y) = true := by
  induction l generalizing k with
  | nil => simp [outFrom]
  | cons p l ih =>
    unfold outFrom
    split
    · simp_all
    · rw [ih]
      simp_all

set_option maxHeartbeats 1000000 in
theorem slices_IndexFunc (A : Option Addr) (c : Nat) (ps : List Pt) (w : World) (hn : ps.length ≤ 1099511627776) (hp : Pts w A ps) :
    Calls Tryz.prog 96 #[.slice A ps.length c, .func (.func 57) #[] #[]] w (Ret (.int .i64 (outFrom ps 0)) w) := by
  go_enter Tryz.func96, Tryz.ntmps96
  go_wp2
  go_loopw [4, 8] (fun r i wr => ∃ k : Nat, k ≤ ps.length ∧ i = .int .i64 k ∧ outFrom ps 0 = outFrom (ps.drop k) k ∧ Later w wr) (fun _ i _ => ps.length - (intOf i).toNat)
  case atStart => exact ⟨0, by omega, rfl, rfl, Later.refl _⟩
  case round =>
    obtain ⟨k, hk, rfl, he, hb⟩ := hrel
    have He := Lib.hid he
    clear he
    by_cases hlt : k < ps.length
    · obtain ⟨b, o, rfl, e1, e2⟩ := (hp.later hb).at_ hlt
      have Hd := Lib.hid (drop_cons ps k hlt)
      generalize ps[k] = p at *
      obtain ⟨px, py⟩ := p
      go_wp2_with (go_at_call 57; refine (polygon_outside _ _ _).mono ?_; rintro e w1 ⟨rfl, hb1⟩)
      · go_ret
        exact ⟨ret_int (by rw [He.out, Hd.out]; simp_all [outFrom]), hb.trans (by assumption)⟩
      · go_roundw
        case rel => exact ⟨k + 1, by omega, by go_num, by rw [He.out, Hd.out]; simp_all [outFrom], hb.trans (by assumption)⟩
        case measure => simp [intOf]; omega
    · go_wp2
      go_ret
      exact ⟨ret_int (by rw [He.out, List.drop_eq_nil_of_le (by omega)]; rfl), hb⟩

set_option maxHeartbeats 1000000 in
theorem slices_ContainsFunc (A : Option Addr) (c : Nat) (ps : List Pt) (w : World) (hn : ps.length ≤ 1099511627776) (hp : Pts w A ps) :
    Calls Tryz.prog 56 #[.slice A ps.length c, .func (.func 57) #[] #[]] w (Ret (.bool (ps.any (fun p => outsideB p.x p.y))) w) := by
  go_enter Tryz.func56, Tryz.ntmps56
  go_wp2_with (go_at_call 96; refine (slices_IndexFunc _ _ _ _ hn hp).mono ?_; rintro e w1 ⟨rfl, hb1⟩)
  go_ret
  exact ⟨ret_bool (by rw [Bool.eq_iff_iff, ← out_neg ps 0]; simp), hb1⟩

end Go.Proofs.YtdhakoecjmaebaaGreat

/- The walk of polygon.simple. -/
namespace Go.Proofs.YtdhakoecjmaebaaGreat
open Go.RowKit
set_option linter.unusedSimpArgs false
set_option linter.unusedVariables false

theorem toNat_emod (i j n : Nat) : (((i : Int) + (j : Int)) % (n : Int)).toNat = (i + j) % n := by
  rw [show ((i : Int) + (j : Int)) % (n : Int) = (((i + j) % n : Nat) : Int) by rw [Int.natCast_emod, Int.natCast_add]]
  exact Int.toNat_natCast _

def gp (ps : List Pt) (j : Nat) : Pt := ps.getD j ⟨0, 0⟩
theorem gp_eq {ps : List Pt} {j : Nat} (h : j < ps.length) : gp ps j = ps[j] := by simp [gp, h]

/-- A point comes twice. -/
def dupGo (pre : List Pt) : List Pt → Bool
  | [] => false
  | p :: l => if p ∈ pre then true else dupGo (pre ++ [p]) l
def meetP (a b c d : Pt) : Bool := meetB a.x a.y b.x b.y c.x c.y d.x d.y
def foldedP (a b c : Pt) : Bool := foldedB a.x a.y b.x b.y c.x c.y
/-- A side from k on, up to the last that is no neighbour, meets side i. -/
def innerGo (ps : List Pt) (i : Nat) : Nat → Nat → Bool
  | 0, _ => false
  | f + 1, k => if (k + 1) % ps.length = i then false else if meetP (gp ps i) (gp ps ((i + 1) % ps.length)) (gp ps k) (gp ps ((k + 1) % ps.length)) then true else innerGo ps i f (k + 1)
def outerGo (ps : List Pt) : Nat → Nat → Bool
  | 0, _ => true
  | f + 1, i => if foldedP (gp ps i) (gp ps ((i + 1) % ps.length)) (gp ps ((i + 2) % ps.length)) then false else if innerGo ps i (ps.length - (i + 2)) (i + 2) then false else outerGo ps f (i + 1)
def simpleB (ps : List Pt) : Bool := if dupGo [] ps then false else outerGo ps ps.length 0

theorem Pts.gp {w : World} {A : Option Addr} {ps : List Pt} (h : Pts w A ps) {k : Nat} (hk : k < ps.length) :
    ∃ b o, A = some ⟨b, o, none⟩ ∧ w.cell? ⟨b, o + k * 2, none⟩ = some (.int .i64 (gp ps k).x) ∧ w.cell? ⟨b, o + k * 2 + 1, none⟩ = some (.int .i64 (gp ps k).y) := by
  rw [gp_eq hk]
  exact h.at_ hk
/-- All points are small. -/
def AllSm (ps : List Pt) : Prop := ∀ j, SmP (gp ps j)

theorem dup_hit {p : Pt} {pre l : List Pt} (h : p ∈ pre) : dupGo pre (p :: l) = true := by rw [dupGo, if_pos h]
theorem dup_miss {p : Pt} {pre l : List Pt} (h : ¬ p ∈ pre) : dupGo pre (p :: l) = dupGo (pre ++ [p]) l := by rw [dupGo, if_neg h]


theorem outer_folded {ps : List Pt} {i : Nat} (h : i < ps.length) (hf : foldedP (gp ps i) (gp ps ((i + 1) % ps.length)) (gp ps ((i + 2) % ps.length)) = true) : outerGo ps (ps.length - i) i = false := by
  obtain ⟨f, hf'⟩ : ∃ f, ps.length - i = f + 1 := ⟨ps.length - i - 1, by omega⟩
  rw [hf', outerGo, if_pos hf]
theorem outer_meets {ps : List Pt} {i : Nat} (h : i < ps.length) (hf : foldedP (gp ps i) (gp ps ((i + 1) % ps.length)) (gp ps ((i + 2) % ps.length)) = false) (hm : innerGo ps i (ps.length - (i + 2)) (i + 2) = true) : outerGo ps (ps.length - i) i = false := by
  obtain ⟨f, hf'⟩ : ∃ f, ps.length - i = f + 1 := ⟨ps.length - i - 1, by omega⟩
  rw [hf', outerGo, hf, hm]; rfl
theorem outer_step {ps : List Pt} {i : Nat} {x : Bool} (he : x = outerGo ps (ps.length - i) i) (h : i < ps.length) (hf : foldedP (gp ps i) (gp ps ((i + 1) % ps.length)) (gp ps ((i + 2) % ps.length)) = false) (hm : innerGo ps i (ps.length - (i + 2)) (i + 2) = false) :
    x = outerGo ps (ps.length - (i + 1)) (i + 1) := by
  obtain ⟨f, hf'⟩ : ∃ f, ps.length - i = f + 1 := ⟨ps.length - i - 1, by omega⟩
  rw [he, hf', outerGo, hf, hm, show ps.length - (i + 1) = f by omega]; rfl
theorem inner_stop {ps : List Pt} {i k : Nat} (h : k < ps.length) (hq : (k + 1) % ps.length = i) : innerGo ps i (ps.length - k) k = false := by
  obtain ⟨f, hf'⟩ : ∃ f, ps.length - k = f + 1 := ⟨ps.length - k - 1, by omega⟩
  rw [hf', innerGo, if_pos hq]
theorem inner_hit {ps : List Pt} {i k : Nat} (h : k < ps.length) (hq : ¬ (k + 1) % ps.length = i) (hm : meetP (gp ps i) (gp ps ((i + 1) % ps.length)) (gp ps k) (gp ps ((k + 1) % ps.length)) = true) : innerGo ps i (ps.length - k) k = true := by
  obtain ⟨f, hf'⟩ : ∃ f, ps.length - k = f + 1 := ⟨ps.length - k - 1, by omega⟩
  rw [hf', innerGo, if_neg hq, hm]; rfl
theorem inner_step {ps : List Pt} {i k : Nat} (h : k < ps.length) (hq : ¬ (k + 1) % ps.length = i) (hm : meetP (gp ps i) (gp ps ((i + 1) % ps.length)) (gp ps k) (gp ps ((k + 1) % ps.length)) = false) : innerGo ps i (ps.length - k) k = innerGo ps i (ps.length - (k + 1)) (k + 1) := by
  obtain ⟨f, hf'⟩ : ∃ f, ps.length - k = f + 1 := ⟨ps.length - k - 1, by omega⟩
  rw [hf', innerGo, if_neg hq, hm, show ps.length - (k + 1) = f by omega]; rfl

set_option maxHeartbeats 4000000 in
theorem polygon_simple (b o c : Nat) (ps : List Pt) (w : World) (hn : ps.length ≤ 1099511627776) (hcap : ps.length ≤ c) (h3 : 3 ≤ ps.length) (hp : Pts w (some ⟨b, o, none⟩) ps) (hsm : AllSm ps) :
    Calls Tryz.prog 58 #[.slice (some ⟨b, o, none⟩) ps.length c] w (Ret (.bool (simpleB ps)) w) := by
  go_enter Tryz.func58, Tryz.ntmps58
  go_wp2
  go_loopw [2, 14] (fun r i wr => ∃ k : Nat, k ≤ ps.length ∧ i = .int .i64 k ∧ dupGo [] ps = dupGo (ps.take k) (ps.drop k) ∧ Later w wr) (fun _ i _ => ps.length - (intOf i).toNat)
  case atStart => exact ⟨0, by omega, rfl, rfl, Later.refl _⟩
  case round =>
    obtain ⟨k, hk, rfl, he, hb⟩ := hrel
    have He := Lib.hid he
    clear he
    by_cases hlt : k < ps.length
    · obtain ⟨b', o', hA, e1, e2⟩ := (hp.later hb).at_ hlt
      obtain ⟨rfl, rfl⟩ : b = b' ∧ o = o' := by simpa using hA
      have Hd := Lib.hid (drop_cons ps k hlt)
      have Ht := Lib.hid (List.take_succ_eq_append_getElem hlt)
      have hl : (ps.take k).length = k := by rw [List.length_take]; omega
      have hpk : Pts wr (some ⟨b, o, none⟩) (ps.take k) := (hp.later hb).take k
      generalize ps[k] = p at *
      obtain ⟨xp, yp⟩ := p
      have hC : ∀ W, Later wr W → Calls Tryz.prog 97 #[.slice (some ⟨b, o, none⟩) k c, .agg #[.int .i64 xp, .int .i64 yp]] W (Ret (.bool (decide ((⟨xp, yp⟩ : Pt) ∈ ps.take k))) W) := by
        intro W hW
        have := slices_Contains (some ⟨b, o, none⟩) c (ps.take k) xp yp W (by omega) (hpk.later hW)
        rwa [hl] at this
      have HC := Lib.hid hC
      have hkc : (k : Int) ≤ (c : Int) := by omega
      clear hC hl
      rcases hm : decide ((⟨xp, yp⟩ : Pt) ∈ ps.take k) with _ | _
      · rw [hm] at HC
        have Hm := Lib.hid hm
        clear hm
        go_wp2
        go_region_held3 (fun w' : World => w'.cell? ⟨wr.heap.size, 0, none⟩ = some (.int .i64 xp) ∧ w'.cell? ⟨wr.heap.size, 1, none⟩ = some (.int .i64 yp) ∧ wr.heap.size + 1 ≤ w'.heap.size ∧ Later wr w') (first | assumption | exact held1_keep (by assumption) (by assumption) | exact held1_init wr _ _)
          (first | (go_at_call 97; refine (HC.out _ (held1_later (by assumption))).mono ?_; rintro e w1 ⟨rfl, hb1⟩))
        go_wp2
        go_roundw
        case rel => exact ⟨k + 1, by omega, by go_num, by rw [He.out, Hd.out, dup_miss (by simpa using Hm.out), Ht.out], hb.trans (held1_later (by assumption))⟩
        case measure => simp [intOf]; omega
      · rw [hm] at HC
        have Hm := Lib.hid hm
        clear hm
        go_wp2
        go_region_held3 (fun w' : World => w'.cell? ⟨wr.heap.size, 0, none⟩ = some (.int .i64 xp) ∧ w'.cell? ⟨wr.heap.size, 1, none⟩ = some (.int .i64 yp) ∧ wr.heap.size + 1 ≤ w'.heap.size ∧ Later wr w') (first | assumption | exact held1_keep (by assumption) (by assumption) | exact held1_init wr _ _)
          (first | (go_at_call 97; refine (HC.out _ (held1_later (by assumption))).mono ?_; rintro e w1 ⟨rfl, hb1⟩))
        go_wp2
        go_ret
        exact ⟨ret_bool (by rw [simpleB, He.out, Hd.out, dup_hit (by simpa using Hm.out)]; rfl), hb.trans (held1_later (by assumption))⟩
    · have hd : dupGo [] ps = false := by rw [He.out, List.drop_eq_nil_of_le (by omega)]; rfl
      have hs : simpleB ps = outerGo ps ps.length 0 := by rw [simpleB, hd]; rfl
      have Hs := Lib.hid hs
      clear hs hd
      go_wp2
      obtain ⟨wo, rfl⟩ : ∃ wo : World, wo = wr := ⟨_, rfl⟩
      go_loopw [2, 27] (fun r i wr => ∃ k : Nat, k ≤ ps.length ∧ i = .int .i64 k ∧ simpleB ps = outerGo ps (ps.length - k) k ∧ Later w wr) (fun _ i _ => ps.length - (intOf i).toNat)
      case atStart => exact ⟨0, by omega, rfl, Hs.out, hb⟩
      case round =>
        clear hb Hs He
        obtain ⟨i, hi, rfl, he, hb⟩ := hrel
        have He := Lib.hid he
        clear he
        by_cases hli : i < ps.length
        · obtain ⟨b', o', hA, e1, e2⟩ := (hp.later hb).gp hli
          obtain ⟨rfl, rfl⟩ : b = b' ∧ o = o' := by simpa using hA
          have hm1 : (i + 1) % ps.length < ps.length := Nat.mod_lt _ (by omega)
          have hm2 : (i + 2) % ps.length < ps.length := Nat.mod_lt _ (by omega)
          obtain ⟨b', o', hA, f1, f2⟩ := (hp.later hb).gp hm1
          obtain ⟨rfl, rfl⟩ : b = b' ∧ o = o' := by simpa using hA
          obtain ⟨b', o', hA, g1, g2⟩ := (hp.later hb).gp hm2
          obtain ⟨rfl, rfl⟩ : b = b' ∧ o = o' := by simpa using hA
          have hbz : b < wr.heap.size := World.block_lt_of_cell? _ _ e1
          have s1 := hsm i
          have s2 := hsm ((i + 1) % ps.length)
          have s3 := hsm ((i + 2) % ps.length)
          have hw2 : IntKind.i64.wrap ((i : Int) + 2) = (i : Int) + 2 := IntWalk.i64_in _ (by omega)
          have hi1 : (0 : Int) ≤ ((i : Int) + 1) % (ps.length : Int) ∧ ((i : Int) + 1) % (ps.length : Int) < (ps.length : Int) := ⟨Int.emod_nonneg _ (by omega), Int.emod_lt_of_pos _ (by omega)⟩
          have ht2 : ((i : Int) + 2).tmod (ps.length : Int) = ((i : Int) + 2) % (ps.length : Int) := Int.tmod_eq_emod_of_nonneg (by omega)
          have hi2 : (0 : Int) ≤ ((i : Int) + 2) % (ps.length : Int) ∧ ((i : Int) + 2) % (ps.length : Int) < (ps.length : Int) := ⟨Int.emod_nonneg _ (by omega), Int.emod_lt_of_pos _ (by omega)⟩
          have hn2 : (((i : Int) + 2) % (ps.length : Int)).toNat = (i + 2) % ps.length := toNat_emod i 2 ps.length
          have hnil : ¬ ps = [] := by intro h; rw [h] at h3; simp at h3
          go_wp2
          refine name_world (fun W hW => ?_)
          have a1 : W.cell? ⟨wr.heap.size, 0, none⟩ = some (.int .i64 (gp ps i).x) := by rw [hW]; simp [go_sem]
          have a2 : W.cell? ⟨wr.heap.size, 1, none⟩ = some (.int .i64 (gp ps i).y) := by rw [hW]; simp [go_sem]
          have a3 : W.cell? ⟨wr.heap.size + 1, 0, none⟩ = some (.int .i64 (gp ps ((i + 1) % ps.length)).x) := by rw [hW]; simp [go_sem]
          have a4 : W.cell? ⟨wr.heap.size + 1, 1, none⟩ = some (.int .i64 (gp ps ((i + 1) % ps.length)).y) := by rw [hW]; simp [go_sem]
          have hlW : Later wr W := by rw [hW]; exact ((Later.refl _).alloc _).alloc _
          clear hW
          have g1' := hlW.cell g1
          have g2' := hlW.cell g2
          rcases hf : foldedP (gp ps i) (gp ps ((i + 1) % ps.length)) (gp ps ((i + 2) % ps.length)) with _ | _
          · have Hf := Lib.hid hf
            unfold foldedP at hf
            go_region_held3 (fun w' : World => (∀ a : Addr, (W.cell? a).isSome = true → w'.cell? a = W.cell? a) ∧ Later W w') (first | assumption | exact keep_call (by assumption) (by assumption) | exact keep_call (by assumption) ((Later.refl _).alloc _) | exact keep_init _)
              (first | (go_at_call 98; refine (polygon_folded _ _ _ _ _ _ _ s1.1 s1.2 s2.1 s2.2 s3.1 s3.2).mono ?_; rintro e w1 ⟨rfl, hb1⟩))
            clear e1 e2 f1 f2 g1 g2 g1' g2' hi1 hi2 ht2 hn2 hw2 s3 hm2 hbz
            rename_i hHw
            have hlw : Later w w1 := hb.trans (hlW.trans hHw.2)
            have b1 := hHw.2.cell a1
            have b2 := hHw.2.cell a2
            have b3 := hHw.2.cell a3
            have b4 := hHw.2.cell a4
            clear hHw hlW hb1 a1 a2 a3 a4
            go_wp2
            go_loopw [2, 9] (fun r kk wq => ∃ k : Nat, i + 2 ≤ k ∧ kk = .int .i64 k ∧ innerGo ps i (ps.length - (i + 2)) (i + 2) = innerGo ps i (ps.length - k) k ∧ Later w wq ∧ k ≤ ps.length + 2 ∧
                wq.cell? ⟨wr.heap.size, 0, none⟩ = some (.int .i64 (gp ps i).x) ∧ wq.cell? ⟨wr.heap.size, 1, none⟩ = some (.int .i64 (gp ps i).y) ∧
                wq.cell? ⟨wr.heap.size + 1, 0, none⟩ = some (.int .i64 (gp ps ((i + 1) % ps.length)).x) ∧ wq.cell? ⟨wr.heap.size + 1, 1, none⟩ = some (.int .i64 (gp ps ((i + 1) % ps.length)).y)) (fun _ kk _ => ps.length - (intOf kk).toNat)
            case atStart => exact ⟨i + 2, by omega, by go_num, rfl, hlw, by omega, b1, b2, b3, b4⟩
            case round =>
              clear b1 b2 b3 b4 hlw
              obtain ⟨k, hik, rfl, he, hlw, hk2, b1, b2, b3, b4⟩ := hrel
              have Hin := Lib.hid he
              clear he
              have hk3 : (k : Int) ≤ 1099511627780 := by omega
              by_cases hlk : k < ps.length
              · have hkm : (k + 1) % ps.length < ps.length := Nat.mod_lt _ (by omega)
                by_cases hq : (k + 1) % ps.length = i
                · have hq' : ((k : Int) + 1) % (ps.length : Int) = (i : Int) := by rw [← hq, Int.natCast_emod, Int.natCast_add]; rfl
                  have hq1 : (((k : Int) + 1) % (ps.length : Int) != (i : Int)) = false := by rw [hq']; simp
                  have Hq := Lib.hid hq
                  clear hq hq'
                  go_wp2
                  go_roundw
                  case rel => exact ⟨i + 1, by omega, by go_num, outer_step He.out hli Hf.out (by rw [Hin.out]; exact inner_stop hlk Hq.out), hlw⟩
                  case measure => simp [intOf]; omega
                · have hq1 : (((k : Int) + 1) % (ps.length : Int) != (i : Int)) = true := by
                    rw [bne_iff_ne]
                    intro h
                    apply hq
                    have : (((k + 1) % ps.length : Nat) : Int) = (i : Int) := by rw [Int.natCast_emod, Int.natCast_add]; exact h
                    omega
                  have Hq := Lib.hid hq
                  clear hq
                  obtain ⟨b', o', hA, e1, e2⟩ := (hp.later hlw).gp hlk
                  obtain ⟨rfl, rfl⟩ : b = b' ∧ o = o' := by simpa using hA
                  obtain ⟨b', o', hA, f1, f2⟩ := (hp.later hlw).gp hkm
                  obtain ⟨rfl, rfl⟩ : b = b' ∧ o = o' := by simpa using hA
                  have s3 := hsm k
                  have s4 := hsm ((k + 1) % ps.length)
                  have hw2 : IntKind.i64.wrap ((k : Int) + 1) = (k : Int) + 1 := IntWalk.i64_in _ (by omega)
                  have ht2 : ((k : Int) + 1).tmod (ps.length : Int) = ((k : Int) + 1) % (ps.length : Int) := Int.tmod_eq_emod_of_nonneg (by omega)
                  have hi2 : (0 : Int) ≤ ((k : Int) + 1) % (ps.length : Int) ∧ ((k : Int) + 1) % (ps.length : Int) < (ps.length : Int) := ⟨Int.emod_nonneg _ (by omega), Int.emod_lt_of_pos _ (by omega)⟩
                  have hn2 : (((k : Int) + 1) % (ps.length : Int)).toNat = (k + 1) % ps.length := toNat_emod k 1 ps.length
                  rcases hmt : meetP (gp ps i) (gp ps ((i + 1) % ps.length)) (gp ps k) (gp ps ((k + 1) % ps.length)) with _ | _
                  · have Hmt := Lib.hid hmt
                    unfold meetP at hmt
                    go_wp2
                    go_region_held3 (fun w' : World => (∀ a : Addr, (wr.cell? a).isSome = true → w'.cell? a = wr.cell? a) ∧ Later wr w') (first | assumption | exact keep_call (by assumption) (by assumption) | exact keep_call (by assumption) ((Later.refl _).alloc _) | exact keep_init _)
                      (first | (go_at_call 99; refine (polygon_meet _ _ _ _ _ _ _ _ _ s1.1 s1.2 s2.1 s2.2 s3.1 s3.2 s4.1 s4.2).mono ?_; rintro e w1 ⟨rfl, hb1⟩))
                    rename_i hHw
                    clear e1 e2 f1 f2
                    have c1 := hHw.2.cell b1
                    have c2 := hHw.2.cell b2
                    have c3 := hHw.2.cell b3
                    have c4 := hHw.2.cell b4
                    have hl2 := hlw.trans hHw.2
                    clear hHw hb1
                    go_wp2
                    go_roundw
                    case rel => exact ⟨k + 1, by omega, by go_num, by rw [Hin.out]; exact inner_step hlk Hq.out Hmt.out, hl2, by omega, c1, c2, c3, c4⟩
                    case measure => simp [intOf]; omega
                  · have Hmt := Lib.hid hmt
                    unfold meetP at hmt
                    go_wp2
                    go_region_held3 (fun w' : World => (∀ a : Addr, (wr.cell? a).isSome = true → w'.cell? a = wr.cell? a) ∧ Later wr w') (first | assumption | exact keep_call (by assumption) (by assumption) | exact keep_call (by assumption) ((Later.refl _).alloc _) | exact keep_init _)
                      (first | (go_at_call 99; refine (polygon_meet _ _ _ _ _ _ _ _ _ s1.1 s1.2 s2.1 s2.2 s3.1 s3.2 s4.1 s4.2).mono ?_; rintro e w1 ⟨rfl, hb1⟩))
                    rename_i hHw
                    go_wp2
                    go_ret
                    exact ⟨ret_bool (by rw [He.out]; exact (outer_meets hli Hf.out (by rw [Hin.out]; exact inner_hit hlk Hq.out Hmt.out)).symm), hlw.trans hHw.2⟩
              · go_wp2
                go_roundw
                case rel => exact ⟨i + 1, by omega, by go_num, outer_step He.out hli Hf.out (by rw [Hin.out, show ps.length - k = 0 by omega]; rfl), hlw⟩
                case measure => simp [intOf]; omega
          · have Hf := Lib.hid hf
            unfold foldedP at hf
            go_region_held3 (fun w' : World => (∀ a : Addr, (W.cell? a).isSome = true → w'.cell? a = W.cell? a) ∧ Later W w') (first | assumption | exact keep_call (by assumption) (by assumption) | exact keep_call (by assumption) ((Later.refl _).alloc _) | exact keep_init _)
              (first | (go_at_call 98; refine (polygon_folded _ _ _ _ _ _ _ s1.1 s1.2 s2.1 s2.2 s3.1 s3.2).mono ?_; rintro e w1 ⟨rfl, hb1⟩))
            rename_i hHw
            go_wp2
            go_ret
            exact ⟨ret_bool (by rw [He.out]; exact (outer_folded hli Hf.out).symm), hb.trans (hlW.trans hHw.2)⟩
        · go_wp2
          go_ret
          exact ⟨ret_bool (by rw [He.out, show ps.length - i = 0 by omega]; rfl), hb⟩

end Go.Proofs.YtdhakoecjmaebaaGreat

/- The walks of polygon.Check and polygon.Box. -/
namespace Go.Proofs.YtdhakoecjmaebaaGreat
open Go.RowKit
set_option linter.unusedSimpArgs false
set_option linter.unusedVariables false

/-- polygon.Check. -/
def checkI (ps : List Pt) : Int :=
  if 40 < ps.length then 5 else if ps.length < 3 then 11 else if ps.any (fun p => outsideB p.x p.y) then 3 else if simpleB ps then 0 else 11

theorem small_of {ps : List Pt} (h : ps.any (fun p => outsideB p.x p.y) = false) : AllSm ps := by
  intro j
  unfold gp
  by_cases hj : j < ps.length
  · have : outsideB (ps[j]).x (ps[j]).y = false := by
      rw [List.any_eq_false] at h
      simpa using h _ (List.getElem_mem hj)
    simp only [outsideB, Bool.or_eq_false_iff, decide_eq_false_iff_not] at this
    simp only [List.getD_eq_getElem?_getD, List.getElem?_eq_getElem hj, Option.getD_some]
    unfold SmP Sm
    omega
  · simp only [List.getD_eq_getElem?_getD, List.getElem?_eq_none (by omega : ps.length ≤ j), Option.getD_none]
    unfold SmP Sm
    simp

set_option maxHeartbeats 1000000 in
theorem polygon_Check (A : Option Addr) (c : Nat) (ps : List Pt) (w : World) (hn : ps.length ≤ 1099511627776) (hcap : ps.length ≤ c) (hp : Pts w A ps) :
    Calls Tryz.prog 27 #[.slice A ps.length c] w (Ret (.int .i64 (checkI ps)) w) := by
  by_cases h1 : 40 < ps.length
  · have Hr := Lib.hid (show checkI ps = 5 by rw [checkI, if_pos h1])
    go_enter Tryz.func27, Tryz.ntmps27
    go_wp2
    go_ret
    exact ⟨ret_int (by rw [Hr.out]), Later.refl _⟩
  by_cases h2 : ps.length < 3
  · have Hr := Lib.hid (show checkI ps = 11 by rw [checkI, if_neg h1, if_pos h2])
    go_enter Tryz.func27, Tryz.ntmps27
    go_wp2
    go_ret
    exact ⟨ret_int (by rw [Hr.out]), Later.refl _⟩
  obtain ⟨b, o, rfl, _⟩ := hp (by omega)
  rcases h3 : ps.any (fun p => outsideB p.x p.y) with _ | _
  · have hsm := small_of h3
    rcases h4 : simpleB ps with _ | _
    · have Hr := Lib.hid (show checkI ps = 11 by rw [checkI, if_neg h1, if_neg h2, h3, h4]; rfl)
      go_enter Tryz.func27, Tryz.ntmps27
      go_wp2_with (first | (go_at_call 56; refine (slices_ContainsFunc _ _ _ _ hn hp).mono ?_; rintro e w1 ⟨rfl, hb1⟩; have hp1 := hp.later hb1) | (go_at_call 58; refine (polygon_simple _ _ _ _ _ hn hcap (by omega) (by assumption) hsm).mono ?_; rintro e w2 ⟨rfl, hb2⟩))
      go_ret
      exact ⟨ret_int (by rw [Hr.out]), hb1.trans hb2⟩
    · have Hr := Lib.hid (show checkI ps = 0 by rw [checkI, if_neg h1, if_neg h2, h3, h4]; rfl)
      go_enter Tryz.func27, Tryz.ntmps27
      go_wp2_with (first | (go_at_call 56; refine (slices_ContainsFunc _ _ _ _ hn hp).mono ?_; rintro e w1 ⟨rfl, hb1⟩; have hp1 := hp.later hb1) | (go_at_call 58; refine (polygon_simple _ _ _ _ _ hn hcap (by omega) (by assumption) hsm).mono ?_; rintro e w2 ⟨rfl, hb2⟩))
      go_ret
      exact ⟨ret_int (by rw [Hr.out]), hb1.trans hb2⟩
  · have Hr := Lib.hid (show checkI ps = 3 by rw [checkI, if_neg h1, if_neg h2, h3]; rfl)
    go_enter Tryz.func27, Tryz.ntmps27
    go_wp2_with (first | (go_at_call 56; refine (slices_ContainsFunc _ _ _ _ hn hp).mono ?_; rintro e w1 ⟨rfl, hb1⟩))
    go_ret
    exact ⟨ret_int (by rw [Hr.out]), hb1⟩

end Go.Proofs.YtdhakoecjmaebaaGreat

/- A block that is known whole, kept over what a walk does elsewhere. -/
namespace Go.Proofs.YtdhakoecjmaebaaGreat
open Go.RowKit
set_option linter.unusedSimpArgs false
set_option linter.unusedVariables false

theorem Later.keepsF {w w' : World} (h : Later w w') : ∀ a : Addr, (w.cell? a).isSome = true → w'.frozen? a = w.frozen? a := fun a ha => by
  obtain ⟨v, hv⟩ := Option.isSome_iff_exists.1 ha
  exact Below.frozen h (World.block_lt_of_cell? _ _ hv)

/-- Block g is just the cells cs, none of them frozen. -/
def Blk (w : World) (g : Nat) (t : TypeId) (cs : Array Value) : Prop := w.heap[g]? = some (.cells cs t (0, 0))
section
variable {w w' : World} {g : Nat} {t : TypeId} {cs : Array Value}
theorem Blk.lt (h : Blk w g t cs) : g < w.heap.size := by
  rcases Nat.lt_or_ge g w.heap.size with hlt | hge
  · exact hlt
  · unfold Blk at h; rw [Array.getElem?_eq_none hge] at h; cases h
theorem Blk.cell (h : Blk w g t cs) (i : Nat) : w.cell? ⟨g, i, none⟩ = cs[i]? := cell_of_row w g i cs t (0, 0) h
theorem Blk.frozen (h : Blk w g t cs) (i : Nat) : w.frozen? ⟨g, i, none⟩ = false := by
  unfold Blk at h
  simp [World.frozen?, h]
theorem Blk.new (w : World) (t : TypeId) (cs : Array Value) : Blk (w.alloc (.cells cs t)) w.heap.size t cs := heap_alloc_new w _
theorem Blk.drew (h : Blk w g t cs) : Blk w.drew g t cs := h
theorem Blk.drewN (h : Blk w g t cs) (n : Nat) : Blk (w.drewN n) g t cs := h
theorem Blk.alloc (h : Blk w g t cs) (o : Obj) : Blk (w.alloc o) g t cs := (Below.heap_alloc w o g h.lt).trans h
theorem Blk.set_ (h : Blk w g t cs) (i : Nat) (u : Value) : Blk (w.setCell ⟨g, i, none⟩ u) g t (cs.setIfInBounds i u) := by
  unfold Blk at h ⊢
  simp [World.setCell, Array.getElem?_modify, h]
theorem Blk.far (h : Blk w g t cs) {b o : Nat} (hp : g ≠ b) (u : Value) : Blk (w.setCell ⟨b, o, none⟩ u) g t cs := (Below.heap_setCell w ⟨b, o, none⟩ u g hp).trans h
theorem Blk.later (h : Blk w g t cs) (hb : Later w w') : Blk w' g t cs := (hb.block g h.lt).trans h
end
theorem Blk.new1 (w : World) (o : Obj) (t : TypeId) (cs : Array Value) : Blk ((w.alloc o).alloc (.cells cs t)) (w.heap.size + 1) t cs := by
  have := Blk.new (w.alloc o) t cs
  simpa using this
theorem Blk.two {w : World} {g : Nat} {t : TypeId} {a b a' b' : Value} (h : Blk w g t #[a, b]) : Blk ((w.setCell ⟨g, 0, none⟩ a').setCell ⟨g, 1, none⟩ b') g t #[a', b'] := (h.set_ 0 a').set_ 1 b'
end Go.Proofs.YtdhakoecjmaebaaGreat

/- The walk of polygon.Box. -/
namespace Go.Proofs.YtdhakoecjmaebaaGreat
open Go.RowKit
set_option linter.unusedSimpArgs false
set_option linter.unusedVariables false

def loP (a p : Pt) : Pt := ⟨min a.x p.x, min a.y p.y⟩
def hiP (a p : Pt) : Pt := ⟨max a.x p.x, max a.y p.y⟩
def loOf (ps : List Pt) : Pt := ps.foldl loP (gp ps 0)
def hiOf (ps : List Pt) : Pt := ps.foldl hiP (gp ps 0)

attribute [local go_sem] ite_min ite_max

theorem small_of_check {ps : List Pt} (h : checkI ps = 0) : AllSm ps := by
  unfold checkI at h
  split at h
  · cases h
  · split at h
    · cases h
    · split at h
      · cases h
      · rename_i h'
        exact small_of (by simpa using h')
theorem sm_fold_lo {l : List Pt} (hl : ∀ p ∈ l, SmP p) : ∀ a, SmP a → SmP (l.foldl loP a) := by
  induction l with
  | nil => intro a h; exact h
  | cons p l ih =>
    intro a h
    refine ih (fun q hq => hl q (List.mem_cons_of_mem _ hq)) _ ?_
    have := hl p (List.mem_cons_self ..)
    unfold SmP Sm at *
    simp only [loP]
    omega
theorem sm_fold_hi {l : List Pt} (hl : ∀ p ∈ l, SmP p) : ∀ a, SmP a → SmP (l.foldl hiP a) := by
  induction l with
  | nil => intro a h; exact h
  | cons p l ih =>
    intro a h
    refine ih (fun q hq => hl q (List.mem_cons_of_mem _ hq)) _ ?_
    have := hl p (List.mem_cons_self ..)
    unfold SmP Sm at *
    simp only [hiP]
    omega
theorem AllSm.mem {ps : List Pt} (h : AllSm ps) : ∀ p ∈ ps, SmP p := by
  intro p hp
  obtain ⟨i, hi, rfl⟩ := List.getElem_of_mem hp
  have := h i
  rwa [gp_eq hi] at this
theorem lo_sm {ps : List Pt} (h : AllSm ps) : SmP (loOf ps) ∧ SmP (hiOf ps) := ⟨sm_fold_lo h.mem _ (h 0), sm_fold_hi h.mem _ (h 0)⟩


set_option maxHeartbeats 1000000 in
theorem polygon_Box_ok (A : Option Addr) (c : Nat) (ps : List Pt) (w : World) (hn : ps.length ≤ 1099511627776) (hcap : ps.length ≤ c) (hp : Pts w A ps) (hok : checkI ps = 0) :
    Calls Tryz.prog 10 #[.slice A ps.length c] w (Ret (.tuple #[.agg #[.int .i64 (loOf ps).x, .int .i64 (loOf ps).y, .int .i64 ((hiOf ps).x - (loOf ps).x), .int .i64 ((hiOf ps).y - (loOf ps).y)], .int .i64 0]) w) := by
  have h3 : 0 < ps.length := by
    unfold checkI at hok
    split at hok
    · cases hok
    · split at hok
      · cases hok
      · omega
  obtain ⟨b, o, rfl, hat⟩ := hp h3
  have hC := fun W (hW : Pts W (some ⟨b, o, none⟩) ps) => polygon_Check (some ⟨b, o, none⟩) c ps W hn hcap hW
  rw [hok] at hC
  have HC := Lib.hid hC
  have Hok := Lib.hid hok
  clear hC hok
  go_enter Tryz.func10, Tryz.ntmps10
  go_wp2_with (first | (go_at_call 27; refine (HC.out _ (hp.later ((Later.refl _).alloc _))).mono ?_; rintro e w1 ⟨rfl, hb1⟩; obtain ⟨p1, p2⟩ := (hat.later (((Later.refl _).alloc _).trans hb1)).get h3; have hk1 := hb1.keeps; have hz1 := hb1.size))
  have p3 : w1.cell? ⟨b, o, none⟩ = some (.int .i64 (ps[0]).x) := by simpa using p1
  have p4 : w1.cell? ⟨b, o + 1, none⟩ = some (.int .i64 (ps[0]).y) := by simpa using p2
  have hbz : b < w1.heap.size := World.block_lt_of_cell? _ _ p3
  have r0 : w1.cell? ⟨w.heap.size, 0, none⟩ = some (.int .i64 0) := by rw [hk1 _ (by simp [go_sem])]; simp [go_sem]
  have r1 : w1.cell? ⟨w.heap.size, 1, none⟩ = some (.int .i64 0) := by rw [hk1 _ (by simp [go_sem])]; simp [go_sem]
  have r2 : w1.cell? ⟨w.heap.size, 2, none⟩ = some (.int .i64 0) := by rw [hk1 _ (by simp [go_sem])]; simp [go_sem]
  have r3 : w1.cell? ⟨w.heap.size, 3, none⟩ = some (.int .i64 0) := by rw [hk1 _ (by simp [go_sem])]; simp [go_sem]
  have f0 : ∀ k, k < 4 → w1.frozen? ⟨w.heap.size, k, none⟩ = false := by
    intro k hk
    rw [hb1.keepsF _ (by rcases k with _ | _ | _ | _ | k <;> first | (simp [go_sem]; done) | omega)]
    simp [go_sem]
  have hl : Later w w1 := ((Later.refl _).alloc _).trans hb1
  clear p1 p2 hk1 hz1 hb1
  have hsm : AllSm ps := small_of_check Hok.out
  have hlo0 := lo_sm hsm
  go_region
  · clear p3 p4 hbz
    go_wp2
    go_loopw [23] (fun i wq => ∃ (k : Nat) (lx ly hx hy : Int), k ≤ ps.length ∧ i = .int .i64 k ∧ loOf ps = (ps.drop k).foldl loP ⟨lx, ly⟩ ∧ hiOf ps = (ps.drop k).foldl hiP ⟨hx, hy⟩ ∧
        Later w1 wq ∧ Blk wq (w1.heap.size) 29 #[.int .i64 lx, .int .i64 ly] ∧ Blk wq (w1.heap.size + 1) 29 #[.int .i64 hx, .int .i64 hy]) (fun i _ => ps.length - (intOf i).toNat)
    case atStart =>
      refine ⟨0, (ps[0]).x, (ps[0]).y, (ps[0]).x, (ps[0]).y, by omega, rfl, ?_, ?_, (((Later.refl _).alloc _).alloc _).drew, ?_, ?_⟩
      · rw [loOf, gp_eq h3]; rfl
      · rw [hiOf, gp_eq h3]; rfl
      · first | exact ((Blk.new _ _ _).alloc _).drew | exact (Blk.new1 _ _ _ _).drew
      · first | exact ((Blk.new _ _ _).alloc _).drew | exact (Blk.new1 _ _ _ _).drew
    case round =>
      obtain ⟨k, lx, ly, hx, hy, hk, rfl, el, eh, hlq, hP, hQ⟩ := hrel
      have El := Lib.hid el
      have Eh := Lib.hid eh
      clear el eh
      have cP0 : wr.cell? ⟨w1.heap.size, 0, none⟩ = some (.int .i64 lx) := hP.cell 0
      have cP1 : wr.cell? ⟨w1.heap.size, 1, none⟩ = some (.int .i64 ly) := hP.cell 1
      have cQ0 : wr.cell? ⟨w1.heap.size + 1, 0, none⟩ = some (.int .i64 hx) := hQ.cell 0
      have cQ1 : wr.cell? ⟨w1.heap.size + 1, 1, none⟩ = some (.int .i64 hy) := hQ.cell 1
      have fP0 := hP.frozen 0
      have fP1 := hP.frozen 1
      have fQ0 := hQ.frozen 0
      have fQ1 := hQ.frozen 1
      have lP := hP.lt
      have lQ := hQ.lt
      by_cases hlt : k < ps.length
      · obtain ⟨e1, e2⟩ := ((hat.later hl).later hlq).get hlt
        have hbz : b < wr.heap.size := World.block_lt_of_cell? _ _ e1
        have Hd := Lib.hid (drop_cons ps k hlt)
        go_wp2
        go_roundw
        case rel =>
          exact ⟨k + 1, _, _, _, _, by omega, by go_num, by rw [El.out, Hd.out]; rfl, by rw [Eh.out, Hd.out]; rfl, ((((hlq.put (by omega) _).put (by omega) _).put (by omega) _).put (by omega) _).alloc _,
            ((hP.two.far (by omega) _).far (by omega) _).alloc _, ((hQ.far (by omega) _).far (by omega) _).two.alloc _⟩
        case measure => simp [intOf]; omega
      · have el : loOf ps = ⟨lx, ly⟩ := by rw [El.out, List.drop_eq_nil_of_le (by omega)]; rfl
        have eh : hiOf ps = ⟨hx, hy⟩ := by rw [Eh.out, List.drop_eq_nil_of_le (by omega)]; rfl
        have hs := hlo0
        rw [el, eh] at hs
        obtain ⟨⟨s1, s2⟩, s3, s4⟩ := hs
        unfold Sm at s1 s2 s3 s4
        have El' := Lib.hid el
        have Eh' := Lib.hid eh
        clear el eh
        have q0 := hlq.cell r0
        have q1 := hlq.cell r1
        have q2 := hlq.cell r2
        have q3 := hlq.cell r3
        have g0 : wr.frozen? ⟨w.heap.size, 0, none⟩ = false := by rw [hlq.keepsF _ (by rw [r0]; rfl)]; exact f0 0 (by omega)
        have g1 : wr.frozen? ⟨w.heap.size, 1, none⟩ = false := by rw [hlq.keepsF _ (by rw [r1]; rfl)]; exact f0 1 (by omega)
        have g2 : wr.frozen? ⟨w.heap.size, 2, none⟩ = false := by rw [hlq.keepsF _ (by rw [r2]; rfl)]; exact f0 2 (by omega)
        have g3 : wr.frozen? ⟨w.heap.size, 3, none⟩ = false := by rw [hlq.keepsF _ (by rw [r3]; rfl)]; exact f0 3 (by omega)
        clear f0
        go_wp2
        have hw1 : wrap64 (hx - lx) = hx - lx := IntWalk.wrap64_in _ ⟨by omega, by omega⟩
        have hw2 : wrap64 (hy - ly) = hy - ly := IntWalk.wrap64_in _ ⟨by omega, by omega⟩
        refine bodyPost_ret (v := .tuple #[.agg #[.int .i64 lx, .int .i64 ly, .int .i64 (hx - lx), .int .i64 (hy - ly)], .int .i64 0]) (by simp [results, Tryz.results10, go_sem, q0, q1, q2, q3, hw1, hw2]) rfl ⟨by rw [El'.out, Eh'.out], ?_⟩
        exact ((((hl.trans hlq).put (Nat.le_refl _) _).put (Nat.le_refl _) _).put (Nat.le_refl _) _).put (Nat.le_refl _) _
  · clear p3 p4 hbz
    go_wp2
    go_loopw [23] (fun i wq => ∃ (k : Nat) (lx ly hx hy : Int), k ≤ ps.length ∧ i = .int .i64 k ∧ loOf ps = (ps.drop k).foldl loP ⟨lx, ly⟩ ∧ hiOf ps = (ps.drop k).foldl hiP ⟨hx, hy⟩ ∧
        Later w1 wq ∧ Blk wq (w1.heap.size + 1) 29 #[.int .i64 lx, .int .i64 ly] ∧ Blk wq (w1.heap.size) 29 #[.int .i64 hx, .int .i64 hy]) (fun i _ => ps.length - (intOf i).toNat)
    case atStart =>
      refine ⟨0, (ps[0]).x, (ps[0]).y, (ps[0]).x, (ps[0]).y, by omega, rfl, ?_, ?_, (((Later.refl _).alloc _).alloc _).drew, ?_, ?_⟩
      · rw [loOf, gp_eq h3]; rfl
      · rw [hiOf, gp_eq h3]; rfl
      · first | exact ((Blk.new _ _ _).alloc _).drew | exact (Blk.new1 _ _ _ _).drew
      · first | exact ((Blk.new _ _ _).alloc _).drew | exact (Blk.new1 _ _ _ _).drew
    case round =>
      obtain ⟨k, lx, ly, hx, hy, hk, rfl, el, eh, hlq, hP, hQ⟩ := hrel
      have El := Lib.hid el
      have Eh := Lib.hid eh
      clear el eh
      have cP0 : wr.cell? ⟨w1.heap.size + 1, 0, none⟩ = some (.int .i64 lx) := hP.cell 0
      have cP1 : wr.cell? ⟨w1.heap.size + 1, 1, none⟩ = some (.int .i64 ly) := hP.cell 1
      have cQ0 : wr.cell? ⟨w1.heap.size, 0, none⟩ = some (.int .i64 hx) := hQ.cell 0
      have cQ1 : wr.cell? ⟨w1.heap.size, 1, none⟩ = some (.int .i64 hy) := hQ.cell 1
      have fP0 := hP.frozen 0
      have fP1 := hP.frozen 1
      have fQ0 := hQ.frozen 0
      have fQ1 := hQ.frozen 1
      have lP := hP.lt
      have lQ := hQ.lt
      by_cases hlt : k < ps.length
      · obtain ⟨e1, e2⟩ := ((hat.later hl).later hlq).get hlt
        have hbz : b < wr.heap.size := World.block_lt_of_cell? _ _ e1
        have Hd := Lib.hid (drop_cons ps k hlt)
        go_wp2
        go_roundw
        case rel =>
          exact ⟨k + 1, _, _, _, _, by omega, by go_num, by rw [El.out, Hd.out]; rfl, by rw [Eh.out, Hd.out]; rfl, ((((hlq.put (by omega) _).put (by omega) _).put (by omega) _).put (by omega) _).alloc _,
            ((hP.two.far (by omega) _).far (by omega) _).alloc _, ((hQ.far (by omega) _).far (by omega) _).two.alloc _⟩
        case measure => simp [intOf]; omega
      · have el : loOf ps = ⟨lx, ly⟩ := by rw [El.out, List.drop_eq_nil_of_le (by omega)]; rfl
        have eh : hiOf ps = ⟨hx, hy⟩ := by rw [Eh.out, List.drop_eq_nil_of_le (by omega)]; rfl
        have hs := hlo0
        rw [el, eh] at hs
        obtain ⟨⟨s1, s2⟩, s3, s4⟩ := hs
        unfold Sm at s1 s2 s3 s4
        have El' := Lib.hid el
        have Eh' := Lib.hid eh
        clear el eh
        have q0 := hlq.cell r0
        have q1 := hlq.cell r1
        have q2 := hlq.cell r2
        have q3 := hlq.cell r3
        have g0 : wr.frozen? ⟨w.heap.size, 0, none⟩ = false := by rw [hlq.keepsF _ (by rw [r0]; rfl)]; exact f0 0 (by omega)
        have g1 : wr.frozen? ⟨w.heap.size, 1, none⟩ = false := by rw [hlq.keepsF _ (by rw [r1]; rfl)]; exact f0 1 (by omega)
        have g2 : wr.frozen? ⟨w.heap.size, 2, none⟩ = false := by rw [hlq.keepsF _ (by rw [r2]; rfl)]; exact f0 2 (by omega)
        have g3 : wr.frozen? ⟨w.heap.size, 3, none⟩ = false := by rw [hlq.keepsF _ (by rw [r3]; rfl)]; exact f0 3 (by omega)
        clear f0
        go_wp2
        have hw1 : wrap64 (hx - lx) = hx - lx := IntWalk.wrap64_in _ ⟨by omega, by omega⟩
        have hw2 : wrap64 (hy - ly) = hy - ly := IntWalk.wrap64_in _ ⟨by omega, by omega⟩
        refine bodyPost_ret (v := .tuple #[.agg #[.int .i64 lx, .int .i64 ly, .int .i64 (hx - lx), .int .i64 (hy - ly)], .int .i64 0]) (by simp [results, Tryz.results10, go_sem, q0, q1, q2, q3, hw1, hw2]) rfl ⟨by rw [El'.out, Eh'.out], ?_⟩
        exact ((((hl.trans hlq).put (Nat.le_refl _) _).put (Nat.le_refl _) _).put (Nat.le_refl _) _).put (Nat.le_refl _) _

set_option maxHeartbeats 1000000 in
theorem polygon_Box_err (A : Option Addr) (c : Nat) (ps : List Pt) (w : World) (hn : ps.length ≤ 1099511627776) (hcap : ps.length ≤ c) (hp : Pts w A ps) (hok : checkI ps ≠ 0) :
    Calls Tryz.prog 10 #[.slice A ps.length c] w (Ret (.tuple #[.agg #[.int .i64 0, .int .i64 0, .int .i64 0, .int .i64 0], .int .i64 (checkI ps)]) w) := by
  have hC := fun W (hW : Pts W A ps) => polygon_Check A c ps W hn hcap hW
  generalize checkI ps = e0 at *
  have h0 : (e0 != 0) = true := by simpa using hok
  have h1 : (e0 == 0) = false := by simpa using hok
  have HC := Lib.hid hC
  have Hok := Lib.hid hok
  clear hC hok
  go_enter Tryz.func10, Tryz.ntmps10
  go_wp2_with (first | (go_at_call 27; refine (HC.out _ (hp.later ((Later.refl _).alloc _))).mono ?_; rintro e w1 ⟨rfl, hb1⟩; have hk1 := hb1.keeps; have hf1 := hb1.keepsF))
  refine bodyPost_ret (v := .tuple #[.agg #[.int .i64 0, .int .i64 0, .int .i64 0, .int .i64 0], .int .i64 e0]) (by simp [results, Tryz.results10, go_sem, hk1]) rfl ⟨rfl, ?_⟩
  exact ((((((Later.refl _).alloc _).trans hb1).put (Nat.le_refl _) _).put (Nat.le_refl _) _).put (Nat.le_refl _) _).put (Nat.le_refl _) _

end Go.Proofs.YtdhakoecjmaebaaGreat
