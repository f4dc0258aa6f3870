/-
  Words for memory and small plain facts that the walks of this seat share: a world that only grew, a slice that reads as a list of points.
  The frame of a law's row: a call that returns true and turns nothing that was there meets the row; and how arguments are opened to lists.
-/
import Derived.Test.YtdhakoecjmaebaaGreatRows
import Derived.WalkKit
import Derived.WalkSpells
import Derived.WalkLawsBesides
import Derived.BigGuardPart
import Derived.Deep.RegionHeld3
import Derived.Deep.QuietTactic
import Derived.BigQuiet
import Derived.Lib.Hide
import Derived.ProofKit
import Derived.Deep.Slices
import Derived.Deep.Fields
import Derived.OpenShut
/- Words for memory and small plain facts that the walks of this seat share: a world that only grew, a slice that reads as a list of points. -/
namespace Go.Proofs.YtdhakoecjmaebaaGreat
open Go.RowKit
set_option linter.unusedSimpArgs false
set_option linter.unusedVariables false

/-- Nothing that was there in w has turned in w'. -/
def Later (w w' : World) : Prop := Below w.heap.size w w'

theorem Later.refl (w : World) : Later w w := Below.refl _ _
theorem Later.size {w w' : World} (h : Later w w') : w.heap.size ≤ w'.heap.size := Below.size h
theorem Later.trans {a b c : World} (h : Later a b) (k : Later b c) : Later a c := Below.trans h (Below.mono k h.size)
theorem Later.alloc {a w : World} (h : Later a w) (o : Obj) : Later a (w.alloc o) := Below.alloc h h.size o
theorem Later.drew {a w : World} (h : Later a w) : Later a w.drew := Below.drew h
theorem Later.drewN {a w : World} (h : Later a w) (n : Nat) : Later a (w.drewN n) := ⟨h.os, h.tape, h.output, h.size, h.block⟩
theorem Later.put {a w : World} (h : Later a w) {b o : Nat} (hp : a.heap.size ≤ b) (u : Value) : Later a (w.setCell ⟨b, o, none⟩ u) := Below.setCell (p := ⟨b, o, none⟩) h hp u
theorem Later.cell {w w' : World} (h : Later w w') {a : Addr} {v : Value} (hc : w.cell? a = some v) : w'.cell? a = some v := cell_later h hc
theorem Later.cells {W w1 : World} (hb : Later W w1) : (∀ b o, b < W.heap.size → w1.cell? ⟨b, o, none⟩ = W.cell? ⟨b, o, none⟩) ∧ (∀ b o, b < W.heap.size → w1.frozen? ⟨b, o, none⟩ = W.frozen? ⟨b, o, none⟩) :=
  ⟨fun b o h => Below.cell (p := ⟨b, o, none⟩) hb h, fun b o h => Below.frozen (p := ⟨b, o, none⟩) hb h⟩

/-- The call returned v, and nothing that was there has turned. -/
def Ret (v : Value) (w : World) (e : Ending) (w' : World) : Prop := e = .returned v ∧ Later w w'
/-- The call returned v, and the world is as it was. -/
def Pure (v : Value) (w : World) (e : Ending) (w' : World) : Prop := e = .returned v ∧ w = w'

theorem ret_int {k : IntKind} {a b : Int} (h : a = b) : Ending.returned (.int k a) = .returned (.int k b) := by rw [h]
theorem ret_bool {a b : Bool} (h : a = b) : Ending.returned (.bool a) = .returned (.bool b) := by rw [h]

theorem ite_min (a b : Int) : (if b < a then b else a) = min a b := by omega
theorem ite_max (a b : Int) : (if a < b then b else a) = max a b := by omega

structure Pt where
  x : Int
  y : Int
  deriving DecidableEq

/-- From offset o on block b holds the points. -/
def PtsAt (w : World) (b o : Nat) (ps : List Pt) : Prop :=
  ∀ i (p : Pt), ps[i]? = some p → w.cell? ⟨b, o + i * 2, none⟩ = some (.int .i64 p.x) ∧ w.cell? ⟨b, o + i * 2 + 1, none⟩ = some (.int .i64 p.y)
/-- A slice of that address, as long as ps, reads as ps. -/
def Pts (w : World) (A : Option Addr) (ps : List Pt) : Prop := 0 < ps.length → ∃ b o, A = some ⟨b, o, none⟩ ∧ PtsAt w b o ps

theorem PtsAt.later {w w' : World} {b o : Nat} {ps : List Pt} (h : PtsAt w b o ps) (k : Later w w') : PtsAt w' b o ps :=
  fun i p hp => ⟨k.cell (h i p hp).1, k.cell (h i p hp).2⟩
theorem Pts.later {w w' : World} {A : Option Addr} {ps : List Pt} (h : Pts w A ps) (k : Later w w') : Pts w' A ps :=
  fun hn => let ⟨b, o, e, hc⟩ := h hn; ⟨b, o, e, hc.later k⟩
theorem Pts.at_ {w : World} {A : Option Addr} {ps : List Pt} (h : Pts w A ps) {k : Nat} (hk : k < ps.length) :
    ∃ b o, A = some ⟨b, o, none⟩ ∧ w.cell? ⟨b, o + k * 2, none⟩ = some (.int .i64 ps[k].x) ∧ w.cell? ⟨b, o + k * 2 + 1, none⟩ = some (.int .i64 ps[k].y) := by
  obtain ⟨b, o, e, hc⟩ := h (by omega)
  obtain ⟨h1, h2⟩ := hc k _ (List.getElem?_eq_getElem hk)
  exact ⟨b, o, e, h1, h2⟩
theorem PtsAt.get {w : World} {b o : Nat} {ps : List Pt} (h : PtsAt w b o ps) {k : Nat} (hk : k < ps.length) :
    w.cell? ⟨b, o + k * 2, none⟩ = some (.int .i64 ps[k].x) ∧ w.cell? ⟨b, o + k * 2 + 1, none⟩ = some (.int .i64 ps[k].y) :=
  h k _ (List.getElem?_eq_getElem hk)
theorem PtsAt.take {w : World} {b o : Nat} {ps : List Pt} (h : PtsAt w b o ps) (n : Nat) : PtsAt w b o (ps.take n) :=
  fun i p hp => h i p (by rw [List.getElem?_take] at hp; split at hp; exact hp; cases hp)
theorem Pts.take {w : World} {A : Option Addr} {ps : List Pt} (h : Pts w A ps) (n : Nat) : Pts w A (ps.take n) :=
  fun hn => let ⟨b, o, e, hc⟩ := h (by rw [List.length_take] at hn; omega); ⟨b, o, e, hc.take n⟩

/-- A number whose products with its like stay far from the edge. -/
def Sm (n : Int) : Prop := -4194304 ≤ n ∧ n ≤ 4194304
def SmP (p : Pt) : Prop := Sm p.x ∧ Sm p.y

theorem mul_bd {a b : Int} (M : Int) (ha : -M ≤ a ∧ a ≤ M) (hb : -M ≤ b ∧ b ≤ M) : -(M * M) ≤ a * b ∧ a * b ≤ M * M := by
  have h1 : (M - a) * (M - b) ≥ 0 := Int.mul_nonneg (by omega) (by omega)
  have h2 : (M + a) * (M + b) ≥ 0 := Int.mul_nonneg (by omega) (by omega)
  have h3 : (M - a) * (M + b) ≥ 0 := Int.mul_nonneg (by omega) (by omega)
  have h4 : (M + a) * (M - b) ≥ 0 := Int.mul_nonneg (by omega) (by omega)
  simp only [Int.sub_mul, Int.mul_sub, Int.add_mul, Int.mul_add] at h1 h2 h3 h4
  have e1 : a * M = M * a := Int.mul_comm _ _
  constructor <;> omega

def crossI (ax ay bx by_ cx cy : Int) : Int := (bx - ax) * (cy - ay) - (by_ - ay) * (cx - ax)
theorem crossI_bd {ax ay bx by_ cx cy : Int} (h1 : Sm ax) (h2 : Sm ay) (h3 : Sm bx) (h4 : Sm by_) (h5 : Sm cx) (h6 : Sm cy) :
    (-70368744177664 ≤ (bx - ax) * (cy - ay) ∧ (bx - ax) * (cy - ay) ≤ 70368744177664) ∧ (-70368744177664 ≤ (by_ - ay) * (cx - ax) ∧ (by_ - ay) * (cx - ax) ≤ 70368744177664) := by
  unfold Sm at *
  have a := mul_bd (a := bx - ax) (b := cy - ay) 8388608 (by omega) (by omega)
  have b := mul_bd (a := by_ - ay) (b := cx - ax) 8388608 (by omega) (by omega)
  omega
def sgn (n : Int) : Int := if n > 0 then 1 else if n < 0 then -1 else 0
theorem sgn_bd (n : Int) : -1 ≤ sgn n ∧ sgn n ≤ 1 := by unfold sgn; omega
theorem sgn_mul_bd (m n : Int) : -1 ≤ sgn m * sgn n ∧ sgn m * sgn n ≤ 1 := by have := mul_bd 1 (sgn_bd m) (sgn_bd n); omega

/-- Whatever cell is there in w reads the same in w'. (As a rule of the walk: the side condition is paid by the cell's own fact.) -/
theorem Later.keeps {w w' : World} (h : Later w w') : ∀ a : Addr, (w.cell? a).isSome = true → w'.cell? a = w.cell? a := fun a ha => by
  obtain ⟨v, hv⟩ := Option.isSome_iff_exists.1 ha
  rw [hv]
  exact h.cell hv
theorem keep_init (W : World) : (∀ a : Addr, (W.cell? a).isSome = true → W.drew.cell? a = W.cell? a) ∧ Later W W.drew := ⟨fun _ _ => rfl, (Later.refl _).drew⟩
theorem keep_call {W w' w'' : World} (h : (∀ a : Addr, (W.cell? a).isSome = true → w'.cell? a = W.cell? a) ∧ Later W w') (hb : Later w' w'') :
    (∀ a : Addr, (W.cell? a).isSome = true → w''.cell? a = W.cell? a) ∧ Later W w'' := ⟨(h.2.trans hb).keeps, h.2.trans hb⟩
/-- The world of a walk gets a name. -/
theorem name_world {P : Program} {c : Code} {Q : Exit → Act → World → Prop} {a : Act} {w : World} (h : ∀ W : World, W = w → c.wp P Q a W) : c.wp P Q a w := h w rfl

/- Single steps of a region that draws its order, for regions with an operation whose guard is false. -/
section
variable {P : Program} {ops : Array Oper} {Q : Exit → Act → World → Prop} {md : Region.Mode} {S : World → Prop}
theorem take_at {i d : Nat} {oi : Oper} {v : Value} {fuel : Nat} {listed : Array Bool} {a : Act} {w : World} (hi : ops[i]? = some oi) (hd : oi.dst = some d)
    (hs : Region.noSelect ops = true) (hf : Region.free md ops listed i = true) (hr : (Region.ready md ops listed).contains i = true)
    (hQ : ∀ c a w, Q (.panic c) (a.put oi.dst v) w → Q (.panic c) a w) (hw : Region.wanted oi (yielded ops a.tmps) = true) (hy : ∀ w, S w → (execOp a.eval oi).run P w = .ok (.value v) w) (hS : S w)
    (h : wpAnyH P md ops Q S fuel (listed.setIfInBounds i true) (a.put (some d) v) w) : wpAnyH P md ops Q S (fuel + 1) listed a w :=
  wpAnyH_take hi hs hf hr hQ (Or.inl ⟨hw, hy⟩) hS (hd.symm ▸ h)
theorem skip_at {i d : Nat} {oi : Oper} {fuel : Nat} {listed : Array Bool} {a : Act} {w : World} (hi : ops[i]? = some oi) (hd : oi.dst = some d)
    (hs : Region.noSelect ops = true) (hf : Region.free md ops listed i = true) (hr : (Region.ready md ops listed).contains i = true)
    (hQ : ∀ c a w, Q (.panic c) (a.put oi.dst undef) w → Q (.panic c) a w) (hw : Region.wanted oi (yielded ops a.tmps) = false) (hS : S w)
    (h : wpAnyH P md ops Q S fuel (listed.setIfInBounds i true) (a.put (some d) undef) w) : wpAnyH P md ops Q S (fuel + 1) listed a w :=
  wpAnyH_take hi hs hf hr hQ (Or.inr ⟨hw, rfl⟩) hS (hd.symm ▸ h)
theorem call_at {i d f : Nat} {o : Oper} {args : Array Value} {fuel : Nat} {listed : Array Bool} {a : Act} {w : World} (hr : Region.ready md ops listed = [i]) (ho : ops[i]? = some o) (hd : o.dst = some d)
    (hw : Region.wanted o (yielded ops a.tmps) = true) (he : (execOp a.eval o).run P w = .ok (.enter f args) w)
    (h : Calls P f args w fun e w' => ∃ v, e = .returned v ∧ S w' ∧ (S w' → wpAnyH P md ops Q S fuel (listed.setIfInBounds i true) (a.put (some d) v) w')) : wpAnyH P md ops Q S (fuel + 1) listed a w := by
  refine wpAnyH_ready hr (by simp) (AllReadyH.cons ho (fun K hK => ?_) AllReadyH.nil)
  rw [if_pos hw]
  unfold Oper.wp
  rw [he]
  refine Calls.mono h ?_
  rintro e w' ⟨v, rfl, hS, hn⟩
  exact hK.out _ _ hS (fun h' => hd.symm ▸ hn h')
end

/- The boxes of a call's first points, kept over calls. -/
theorem held1_keep {w w' w'' : World} {xa ya : Int} (h : w'.cell? ⟨w.heap.size, 0, none⟩ = some (.int .i64 xa) ∧ w'.cell? ⟨w.heap.size, 1, none⟩ = some (.int .i64 ya) ∧ w.heap.size + 1 ≤ w'.heap.size ∧ Later w w') (hb : Later w' w'') : w''.cell? ⟨w.heap.size, 0, none⟩ = some (.int .i64 xa) ∧ w''.cell? ⟨w.heap.size, 1, none⟩ = some (.int .i64 ya) ∧ w.heap.size + 1 ≤ w''.heap.size ∧ Later w w'' :=
  ⟨hb.cell h.1, hb.cell h.2.1, Nat.le_trans h.2.2.1 hb.size, h.2.2.2.trans hb⟩
theorem held1_later {w w' : World} {xa ya : Int} (h : w'.cell? ⟨w.heap.size, 0, none⟩ = some (.int .i64 xa) ∧ w'.cell? ⟨w.heap.size, 1, none⟩ = some (.int .i64 ya) ∧ w.heap.size + 1 ≤ w'.heap.size ∧ Later w w') : Later w w' := h.2.2.2
theorem held1_init (w : World) (xa ya : Int) : (w.alloc (.cells #[.int .i64 xa, .int .i64 ya] 29)).drew.cell? ⟨w.heap.size, 0, none⟩ = some (.int .i64 xa) ∧ (w.alloc (.cells #[.int .i64 xa, .int .i64 ya] 29)).drew.cell? ⟨w.heap.size, 1, none⟩ = some (.int .i64 ya) ∧ w.heap.size + 1 ≤ (w.alloc (.cells #[.int .i64 xa, .int .i64 ya] 29)).drew.heap.size ∧ Later w (w.alloc (.cells #[.int .i64 xa, .int .i64 ya] 29)).drew := by
  refine ⟨by simp [go_sem], by simp [go_sem], by simp, ((Later.refl w).alloc _).drew⟩
theorem held4_keep {w w' w'' : World} {xa ya xb yb xc yc xd yd : Int} (h : w'.cell? ⟨w.heap.size, 0, none⟩ = some (.int .i64 xa) ∧ w'.cell? ⟨w.heap.size, 1, none⟩ = some (.int .i64 ya) ∧ w'.cell? ⟨w.heap.size + 1, 0, none⟩ = some (.int .i64 xb) ∧ w'.cell? ⟨w.heap.size + 1, 1, none⟩ = some (.int .i64 yb) ∧ w'.cell? ⟨w.heap.size + 1 + 1, 0, none⟩ = some (.int .i64 xc) ∧ w'.cell? ⟨w.heap.size + 1 + 1, 1, none⟩ = some (.int .i64 yc) ∧ w'.cell? ⟨w.heap.size + 1 + 1 + 1, 0, none⟩ = some (.int .i64 xd) ∧ w'.cell? ⟨w.heap.size + 1 + 1 + 1, 1, none⟩ = some (.int .i64 yd) ∧ w.heap.size + 1 + 1 + 1 + 1 ≤ w'.heap.size ∧ Later w w') (hb : Later w' w'') : w''.cell? ⟨w.heap.size, 0, none⟩ = some (.int .i64 xa) ∧ w''.cell? ⟨w.heap.size, 1, none⟩ = some (.int .i64 ya) ∧ w''.cell? ⟨w.heap.size + 1, 0, none⟩ = some (.int .i64 xb) ∧ w''.cell? ⟨w.heap.size + 1, 1, none⟩ = some (.int .i64 yb) ∧ w''.cell? ⟨w.heap.size + 1 + 1, 0, none⟩ = some (.int .i64 xc) ∧ w''.cell? ⟨w.heap.size + 1 + 1, 1, none⟩ = some (.int .i64 yc) ∧ w''.cell? ⟨w.heap.size + 1 + 1 + 1, 0, none⟩ = some (.int .i64 xd) ∧ w''.cell? ⟨w.heap.size + 1 + 1 + 1, 1, none⟩ = some (.int .i64 yd) ∧ w.heap.size + 1 + 1 + 1 + 1 ≤ w''.heap.size ∧ Later w w'' :=
  ⟨hb.cell h.1, hb.cell h.2.1, hb.cell h.2.2.1, hb.cell h.2.2.2.1, hb.cell h.2.2.2.2.1, hb.cell h.2.2.2.2.2.1, hb.cell h.2.2.2.2.2.2.1, hb.cell h.2.2.2.2.2.2.2.1, Nat.le_trans h.2.2.2.2.2.2.2.2.1 hb.size, h.2.2.2.2.2.2.2.2.2.trans hb⟩
theorem held4_first {w w' : World} {xa ya xb yb xc yc xd yd : Int} (hb : Later ((((w.alloc (.cells #[.int .i64 xa, .int .i64 ya] 29)).alloc (.cells #[.int .i64 xb, .int .i64 yb] 29)).alloc (.cells #[.int .i64 xc, .int .i64 yc] 29)).alloc (.cells #[.int .i64 xd, .int .i64 yd] 29)) w') : w'.cell? ⟨w.heap.size, 0, none⟩ = some (.int .i64 xa) ∧ w'.cell? ⟨w.heap.size, 1, none⟩ = some (.int .i64 ya) ∧ w'.cell? ⟨w.heap.size + 1, 0, none⟩ = some (.int .i64 xb) ∧ w'.cell? ⟨w.heap.size + 1, 1, none⟩ = some (.int .i64 yb) ∧ w'.cell? ⟨w.heap.size + 1 + 1, 0, none⟩ = some (.int .i64 xc) ∧ w'.cell? ⟨w.heap.size + 1 + 1, 1, none⟩ = some (.int .i64 yc) ∧ w'.cell? ⟨w.heap.size + 1 + 1 + 1, 0, none⟩ = some (.int .i64 xd) ∧ w'.cell? ⟨w.heap.size + 1 + 1 + 1, 1, none⟩ = some (.int .i64 yd) ∧ w.heap.size + 1 + 1 + 1 + 1 ≤ w'.heap.size ∧ Later w w' :=
  held4_keep (w' := ((((w.alloc (.cells #[.int .i64 xa, .int .i64 ya] 29)).alloc (.cells #[.int .i64 xb, .int .i64 yb] 29)).alloc (.cells #[.int .i64 xc, .int .i64 yc] 29)).alloc (.cells #[.int .i64 xd, .int .i64 yd] 29))) ⟨by simp [go_sem], by simp [go_sem], by simp [go_sem], by simp [go_sem], by simp [go_sem], by simp [go_sem], by simp [go_sem], by simp [go_sem], by simp, (((((Later.refl w).alloc _).alloc _).alloc _).alloc _)⟩ hb
theorem held4_later {w w' : World} {xa ya xb yb xc yc xd yd : Int} (h : w'.cell? ⟨w.heap.size, 0, none⟩ = some (.int .i64 xa) ∧ w'.cell? ⟨w.heap.size, 1, none⟩ = some (.int .i64 ya) ∧ w'.cell? ⟨w.heap.size + 1, 0, none⟩ = some (.int .i64 xb) ∧ w'.cell? ⟨w.heap.size + 1, 1, none⟩ = some (.int .i64 yb) ∧ w'.cell? ⟨w.heap.size + 1 + 1, 0, none⟩ = some (.int .i64 xc) ∧ w'.cell? ⟨w.heap.size + 1 + 1, 1, none⟩ = some (.int .i64 yc) ∧ w'.cell? ⟨w.heap.size + 1 + 1 + 1, 0, none⟩ = some (.int .i64 xd) ∧ w'.cell? ⟨w.heap.size + 1 + 1 + 1, 1, none⟩ = some (.int .i64 yd) ∧ w.heap.size + 1 + 1 + 1 + 1 ≤ w'.heap.size ∧ Later w w') : Later w w' := h.2.2.2.2.2.2.2.2.2
theorem held4_init (w : World) (xa ya xb yb xc yc xd yd : Int) : ((((w.alloc (.cells #[.int .i64 xa, .int .i64 ya] 29)).alloc (.cells #[.int .i64 xb, .int .i64 yb] 29)).alloc (.cells #[.int .i64 xc, .int .i64 yc] 29)).alloc (.cells #[.int .i64 xd, .int .i64 yd] 29)).drew.cell? ⟨w.heap.size, 0, none⟩ = some (.int .i64 xa) ∧ ((((w.alloc (.cells #[.int .i64 xa, .int .i64 ya] 29)).alloc (.cells #[.int .i64 xb, .int .i64 yb] 29)).alloc (.cells #[.int .i64 xc, .int .i64 yc] 29)).alloc (.cells #[.int .i64 xd, .int .i64 yd] 29)).drew.cell? ⟨w.heap.size, 1, none⟩ = some (.int .i64 ya) ∧ ((((w.alloc (.cells #[.int .i64 xa, .int .i64 ya] 29)).alloc (.cells #[.int .i64 xb, .int .i64 yb] 29)).alloc (.cells #[.int .i64 xc, .int .i64 yc] 29)).alloc (.cells #[.int .i64 xd, .int .i64 yd] 29)).drew.cell? ⟨w.heap.size + 1, 0, none⟩ = some (.int .i64 xb) ∧ ((((w.alloc (.cells #[.int .i64 xa, .int .i64 ya] 29)).alloc (.cells #[.int .i64 xb, .int .i64 yb] 29)).alloc (.cells #[.int .i64 xc, .int .i64 yc] 29)).alloc (.cells #[.int .i64 xd, .int .i64 yd] 29)).drew.cell? ⟨w.heap.size + 1, 1, none⟩ = some (.int .i64 yb) ∧ ((((w.alloc (.cells #[.int .i64 xa, .int .i64 ya] 29)).alloc (.cells #[.int .i64 xb, .int .i64 yb] 29)).alloc (.cells #[.int .i64 xc, .int .i64 yc] 29)).alloc (.cells #[.int .i64 xd, .int .i64 yd] 29)).drew.cell? ⟨w.heap.size + 1 + 1, 0, none⟩ = some (.int .i64 xc) ∧ ((((w.alloc (.cells #[.int .i64 xa, .int .i64 ya] 29)).alloc (.cells #[.int .i64 xb, .int .i64 yb] 29)).alloc (.cells #[.int .i64 xc, .int .i64 yc] 29)).alloc (.cells #[.int .i64 xd, .int .i64 yd] 29)).drew.cell? ⟨w.heap.size + 1 + 1, 1, none⟩ = some (.int .i64 yc) ∧ ((((w.alloc (.cells #[.int .i64 xa, .int .i64 ya] 29)).alloc (.cells #[.int .i64 xb, .int .i64 yb] 29)).alloc (.cells #[.int .i64 xc, .int .i64 yc] 29)).alloc (.cells #[.int .i64 xd, .int .i64 yd] 29)).drew.cell? ⟨w.heap.size + 1 + 1 + 1, 0, none⟩ = some (.int .i64 xd) ∧ ((((w.alloc (.cells #[.int .i64 xa, .int .i64 ya] 29)).alloc (.cells #[.int .i64 xb, .int .i64 yb] 29)).alloc (.cells #[.int .i64 xc, .int .i64 yc] 29)).alloc (.cells #[.int .i64 xd, .int .i64 yd] 29)).drew.cell? ⟨w.heap.size + 1 + 1 + 1, 1, none⟩ = some (.int .i64 yd) ∧ w.heap.size + 1 + 1 + 1 + 1 ≤ ((((w.alloc (.cells #[.int .i64 xa, .int .i64 ya] 29)).alloc (.cells #[.int .i64 xb, .int .i64 yb] 29)).alloc (.cells #[.int .i64 xc, .int .i64 yc] 29)).alloc (.cells #[.int .i64 xd, .int .i64 yd] 29)).drew.heap.size ∧ Later w ((((w.alloc (.cells #[.int .i64 xa, .int .i64 ya] 29)).alloc (.cells #[.int .i64 xb, .int .i64 yb] 29)).alloc (.cells #[.int .i64 xc, .int .i64 yc] 29)).alloc (.cells #[.int .i64 xd, .int .i64 yd] 29)).drew := by
  refine ⟨by simp [go_sem], by simp [go_sem], by simp [go_sem], by simp [go_sem], by simp [go_sem], by simp [go_sem], by simp [go_sem], by simp [go_sem], by simp, (((((Later.refl w).alloc _).alloc _).alloc _).alloc _).drew⟩
end Go.Proofs.YtdhakoecjmaebaaGreat

/- The frame of a law's row: a call that returns true and turns nothing that was there meets the row; and how arguments are opened to lists. -/
namespace Go.Proofs.YtdhakoecjmaebaaGreat
open Go.RowKit Go.WideShapes Go.ChangeShapes Go.ChangeAt
set_option linter.unusedSimpArgs false
set_option linter.unusedVariables false

theorem prog_own : ownKnob Tryz.prog.godebug = none := by kernel_rfl
theorem prog_laidOut : laidOutB Tryz.prog = true := by kernel_rfl

section
variable {H : Type} {enc : TypeId × Value → H} {P : Program}
theorem post_below {f : Func} {s : ChangeSpec} {apart fresh handsOn again : Bool} {W W' : World} {args : Array Value} {v : Value} {ds gs : List (DataW H)} {before pa pv : List MemPlace}
    (hW : DataW.Whole enc P f.params.toList s.vars apart W args.toList ds gs before)
    (hres : ∀ (b : Nat) (sp : Nat → Bool) (hd : Bool), DataW.TrodAll enc P W' b sp hd f.resultTypes.toList (v.resultList f.resultTypes.size) (s.fn H (ds ++ gs)).results [])
    (hargs : ∀ sp : Nat → Bool, (∀ p ∈ before, sp p.block = true) → DataW.TrodAll enc P W' 0 sp true f.params.toList args.toList (s.fn H (ds ++ gs)).args pa)
    (hvars : ∀ sp : Nat → Bool, (∀ p ∈ before, sp p.block = true) → DataW.TrodVars enc P W' sp s.vars (s.fn H (ds ++ gs)).vars pv)
    (hps : before = pa ++ pv) (hb : Below W.heap.size W W')
    (hok : ∀ (j : Nat) (t : TypeId) (r : Value), f.resultTypes[j]? = some t → (v.resultList f.resultTypes.size)[j]? = some r → Value.okWide P W' .any 0 t r) :
    s.post enc P f apart fresh handsOn again W args v W' := by
  have hlt : ∀ p ∈ before, p.block < W.heap.size := fun p hp => hW.lt p hp
  have hold : ∀ p ∈ before, (fun b => decide (b < W.heap.size)) p.block = true := fun p hp => by simpa using hlt p hp
  refine ⟨ds, gs, before, [], pa, pv, hW, hres _ _ _, hargs _ hold, hvars _ hold, World.keptBut_mono (fun p hp => ⟨hp, ?_⟩) (hb.frame (· ∈ before)), fun _ => ?_⟩
  · rw [hps, List.mem_append] at hp
    exact Or.inr hp
  · obtain ⟨_, _, _, _, _, hz, hn⟩ := hW
    refine ⟨hok, _, _, ([] ++ pa) ++ pv, ⟨[] ++ pa, pv, trodAll_append (hargs _ (fun _ _ => rfl)) (hres _ _ _), hvars _ (fun _ _ => rfl), rfl, ?_, ?_⟩, ?_⟩
    · intro b off hp
      have hin : MemPlace.cell b off ∈ before := by rw [hps]; simpa using hp
      rw [hb.frozen (hlt _ hin)]
      exact hz b off hin
    · intro ha
      have := hn ha
      rw [hps] at this
      simpa using this
    · intro p hp _
      rw [hps]
      simpa using hp

/-- The arguments read behind the call as they did. -/
theorem trodAll_later (hl : laidOutB P = true) {W W' : World} (hb : Below W.heap.size W W') {sp : Nat → Bool} : ∀ {ts : List TypeId} {vs : List Value} {ds : List (DataW H)} {ps : List MemPlace},
    (∀ t ∈ ts, P.readableRec t = true ∧ t < P.types.size) → DataW.TrodAll enc P W 0 (fun _ => true) true ts vs ds ps → (∀ x ∈ ps, x.block < W.heap.size) → (∀ x ∈ ps, sp x.block = true) → DataW.TrodAll enc P W' 0 sp true ts vs ds ps := by
  intro ts
  induction ts with
  | nil =>
    intro vs ds ps _ h _ _
    obtain ⟨rfl, rfl, rfl⟩ := trodAll_nil h
    exact trodAll_mk0
  | cons t ts ih =>
    intro vs ds ps ht h hlt hsp
    obtain ⟨v, vs', d, ds', p, p', rfl, rfl, rfl, h0, h1⟩ := trodAll_cons h
    refine trodAll_cons_mk ?_ (ih (fun t' h' => ht t' (List.mem_cons_of_mem _ h')) h1 (fun x hx => hlt x (by simp [hx])) (fun x hx => hsp x (by simp [hx])))
    exact WideElems.Trod_stays hl (ht t (List.mem_cons_self ..)).1 (ht t (List.mem_cons_self ..)).2 h0 (fun x hx => hb.same (hlt x (by simp [hx]))) (fun x hx => hsp x (by simp [hx]))
end

set_option maxRecDepth 100000 in
/-- A law's call that returns true and turns nothing meets the row's post. -/
theorem law_post {H : Type} {enc : TypeId × Value → H} {f : Func} {s : ChangeSpec} {W W' : World} {args : Array Value} {ds gs : List (DataW H)} {before : List MemPlace}
    (hvs : s.vars = []) (hres : f.resultTypes = #[4]) (hfn : s.fn H ds = { results := [.lit (.bool true)], args := ds })
    (hread : ∀ t ∈ f.params.toList, Tryz.prog.readableRec t = true ∧ t < Tryz.prog.types.size)
    (hW : DataW.Whole enc Tryz.prog f.params.toList s.vars false W args.toList ds gs before) (hb : Later W W') :
    s.post enc Tryz.prog f false true false false W args (.bool true) W' := by
  have hW' := hW
  obtain ⟨p, q, hA, hV, rfl, hfz, hnd⟩ := hW
  rw [hvs] at hV
  obtain ⟨rfl, rfl⟩ := trodVars_none hV
  have hlt : ∀ x ∈ p ++ [], x.block < W.heap.size := fun x hx => hW'.lt x hx
  simp only [List.append_nil] at hW' hlt
  have hf : (s.fn H (ds ++ [])) = { results := [.lit (.bool true)], args := ds } := by rw [List.append_nil]; exact hfn
  refine post_below (pa := p) (pv := []) hW' ?_ ?_ ?_ (by simp) hb ?_
  · intro b sp hd
    rw [hf, hres]
    exact trodAll_mk1 (shut_bool Tryz.underlying4 _)
  · intro sp hsp
    rw [hf]
    exact trodAll_later prog_laidOut hb hread hA hlt hsp
  · intro sp _
    rw [hf, hvs]
    rfl
  · exact ok_one hres rfl (okWide_bool_mk Tryz.underlying4 _)

theorem list_of_ex {α : Type} {Q : Nat → α → Prop} : ∀ n, (∀ i, i < n → ∃ a, Q i a) → ∃ l : List α, l.length = n ∧ ∀ i a, l[i]? = some a → Q i a := by
  intro n
  induction n with
  | zero => intro _; exact ⟨[], rfl, fun i a h => by simp at h⟩
  | succ n ih =>
    intro h
    obtain ⟨l, hl, hq⟩ := ih fun i hi => h i (by omega)
    obtain ⟨a, ha⟩ := h n (by omega)
    refine ⟨l ++ [a], by simp [hl], fun i b hb => ?_⟩
    rcases Nat.lt_or_ge i l.length with hi | hi
    · rw [List.getElem?_append_left hi] at hb; exact hq i b hb
    · rw [List.getElem?_append_right hi] at hb
      rcases hk : i - l.length with _ | k
      · rw [hk] at hb
        cases hb
        rw [show i = n by omega]; exact ha
      · rw [hk] at hb; simp at hb

/-- A slice that reads as a list; R reads an element out of its cells. -/
def SlR {α : Type} (w : World) (sz : Nat) (R : List Value → α → Prop) (v : Value) (l : List α) : Prop :=
  ∃ A c, v = .slice A l.length c ∧ l.length ≤ c ∧ c ≤ maxLen ∧ (0 < l.length → ∃ b o, A = some ⟨b, o, none⟩ ∧
    ∀ i a, l[i]? = some a → ∃ cs, cs.length = sz ∧ (∀ j, j < sz → w.cell? ⟨b, o + i * sz + j, none⟩ = cs[j]?) ∧ R cs a)

theorem addr_add0 (b o : Nat) (n : Nat) : (⟨b, o, none⟩ : Addr).add n = ⟨b, o + n, none⟩ := by
  unfold Addr.add
  split
  · rename_i h; rw [h]; rfl
  · rfl

section
variable {H : Type} {enc : TypeId × Value → H} {P : Program} {w : World} {base : Nat} {spare : Nat → Bool} {held : Bool}
theorem open_rows {α : Type} {t e : TypeId} {sz fuel : Nat} {cs : List Value} {x : DataW H × List MemPlace} {R : List Value → α → Prop} (ht : P.underlying t = some (.slice e)) (hz : P.cellsOf e = sz) (hpos : 0 < sz)
    (hR : ∀ n cs x, DataW.trod enc P w base spare held n e cs = some x → ∃ a, R cs a) (h : DataW.trod enc P w base spare held fuel t cs = some x) : ∃ v l, cs = [v] ∧ SlR w sz R v l := by
  rcases DataW.trod_slice ht h with ⟨rfl, _⟩ | ⟨a, len, cap, elems, rest, n, _, rfl, rfl, hb, hl, hm, hlen, hel, hsp, hns⟩
  · exact ⟨_, [], rfl, none, 0, rfl, Nat.le_refl _, Nat.zero_le _, fun h => by simp at h⟩
  · have hQ : ∀ i, i < len → ∃ y : α, ∃ cs, cs.length = sz ∧ (∀ j, j < sz → w.cell? ((a.add (i * sz)).add j) = cs[j]?) ∧ R cs y := by
      intro i hi
      have h1 := hel i hi
      rw [List.getElem?_eq_getElem (by omega), Option.bind_eq_some_iff, hz] at h1
      obtain ⟨cs, h2, h3⟩ := h1
      obtain ⟨_, h4, h5⟩ := World.cells?_some h2
      obtain ⟨y, hy⟩ := hR _ _ _ h3
      exact ⟨y, cs, h4, h5, hy⟩
    obtain ⟨l, hll, hq⟩ := list_of_ex len hQ
    refine ⟨_, l, rfl, some a, cap, by rw [hll], by omega, hm, fun h0 => ?_⟩
    obtain ⟨b, o, s⟩ := a
    have hs : s = none := by
      obtain ⟨cs, h4, h5, _⟩ := hq 0 _ (List.getElem?_eq_getElem h0)
      have h6 := h5 0 hpos
      rw [List.getElem?_eq_getElem (by omega)] at h6
      have := World.cell?_spot h6
      simpa [Addr.add] using this
    subst hs
    refine ⟨b, o, rfl, fun i y hy => ?_⟩
    obtain ⟨cs, h4, h5, h6⟩ := hq i y hy
    refine ⟨cs, h4, fun j hj => ?_, h6⟩
    have := h5 j hj
    rwa [addr_add0, addr_add0] at this
theorem open_field {t : TypeId} {fs : Array Field} {n : Nat} {cs : List Value} {x : DataW H × List MemPlace} (ht : P.underlying t = some (.struct fs)) (h : DataW.trod enc P w base spare held n t cs = some x) :
    cs.length = P.cellsOf t ∧ ∀ (i : Nat) (f : Field), fs[i]? = some f → ∃ m y, DataW.trod enc P w base spare held m f.type ((cs.drop f.offset).take (P.cellsOf f.type)) = some y := by
  obtain ⟨xs, m, rfl, _, hl, hx, hf⟩ := DataW.trod_struct ht h
  refine ⟨hl, fun i f hi => ⟨m, _, (hf i f hi).trans (List.getElem?_eq_getElem ?_)⟩⟩
  rw [hx]
  exact (Array.getElem?_eq_some_iff.1 hi).1
theorem wf_bd {n : Int} (h : (Lit.int .i64 n).wf = true) : -9223372036854775808 ≤ n ∧ n ≤ 9223372036854775807 := by
  simp [Lit.wf, IntKind.min, IntKind.max, IntKind.signed, IntKind.bits] at h
  omega
end

end Go.Proofs.YtdhakoecjmaebaaGreat
