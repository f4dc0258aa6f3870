/-
  The walks of place's small functions: bounds, stripes, turns of one point.
  The walks of stripe.Same and of turns of one point.
  The walks of turn.Allowed, polyline.Move, polygon.Move, turn.Poly.
  Shapes and puts in memory; the walk of place.Poly.
-/
import Derived.Test.YtpiniflhaokkaaaZDam
import Derived.StillTailTactics
import Derived.Laws.BitsAllLaws
import Derived.Laws.BitsLemmas
import Derived.Test.YtpiniflhaokkaaaZSplit
import Derived.Deep.OwnRows
import Derived.Test.YtpiniflhaokkaaaZHits
import Derived.Shelf.SlSortCmp.NoneTotal
import Derived.Shelf.SlicesG.Cmp
import Derived.Test.YtpiniflhaokkaaaRows
/- The walks of place's small functions: bounds, stripes, turns of one point. -/
namespace Go.Proofs.Ytpiniflhaokkaaa
open Go.RowKit
set_option linter.unusedSimpArgs false
set_option linter.unusedVariables false

attribute [local go_sem] ite_min ite_max
@[go_sem] theorem build_repeat (a b : Int) (w : World) : (Instr.build 23 #[(0, .int .i64 a), (1, .int .i64 b)]).run Try.prog w = .ok (.agg #[.int .i64 a, .int .i64 b]) w := run_build w 23 _ _ (by kernel_rfl)
@[go_sem] theorem build_turn (a : Bool) (b : Int) (w : World) : (Instr.build 82 #[(0, .bool a), (1, .int .i64 b)]).run Try.prog w = .ok (.agg #[.bool a, .int .i64 b]) w := run_build w 82 _ _ (by kernel_rfl)

end Go.Proofs.Ytpiniflhaokkaaa

/- The walks of stripe.Same and of turns of one point. -/
namespace Go.Proofs.Ytpiniflhaokkaaa
open Go.RowKit
set_option linter.unusedSimpArgs false
set_option linter.unusedVariables false

def rot (p : Pt) : Pt := ⟨-p.y, p.x⟩
end Go.Proofs.Ytpiniflhaokkaaa

/- The walks of turn.Allowed, polyline.Move, polygon.Move, turn.Poly. -/
namespace Go.Proofs.Ytpiniflhaokkaaa
open Go.RowKit
set_option linter.unusedSimpArgs false
set_option linter.unusedVariables false

/-- A new row of points of which the places `pos i`, i below k, are filled. -/
def RowP (wr : World) (R n k : Nat) (pos : Nat → Nat) (g : Pt → Pt) (ps : List Pt) : Prop :=
  ∃ F : Nat → Value, wr.rowIs R 83 (n * 2) F ∧ ∀ i p, ps[i]? = some p → i < k → F (pos i * 2) = .int .i64 (g p).x ∧ F (pos i * 2 + 1) = .int .i64 (g p).y
theorem RowP.later {w w' : World} {R n k : Nat} {pos : Nat → Nat} {g : Pt → Pt} {ps : List Pt} (h : RowP w R n k pos g ps) (hk : Later w w') : RowP w' R n k pos g ps :=
  let ⟨F, h1, h2⟩ := h; ⟨F, h1.of_block (hk.block R h1.lt), h2⟩
theorem RowP.alloc {w : World} {R n k : Nat} {pos : Nat → Nat} {g : Pt → Pt} {ps : List Pt} (h : RowP w R n k pos g ps) (o : Obj) : RowP (w.alloc o) R n k pos g ps :=
  let ⟨F, h1, h2⟩ := h; ⟨F, h1.alloc o, h2⟩
theorem RowP.put {w : World} {R n k : Nat} {pos : Nat → Nat} {g : Pt → Pt} {ps : List Pt} (h : RowP w R n k pos g ps) {p : Pt} (hp : ps[k]? = some p) (hinj : ∀ i j, i < ps.length → j < ps.length → pos i = pos j → i = j) {x y : Int} (hx : x = (g p).x) (hy : y = (g p).y) :
    RowP ((w.setCell ⟨R, pos k * 2, none⟩ (.int .i64 x)).setCell ⟨R, pos k * 2 + 1, none⟩ (.int .i64 y)) R n (k + 1) pos g ps := by
  obtain ⟨F, h1, h2⟩ := h
  refine ⟨_, (h1.set _ _).set _ _, fun i q hq hi => ?_⟩
  have hil := (List.getElem?_eq_some_iff.1 hq).1
  have hkl := (List.getElem?_eq_some_iff.1 hp).1
  by_cases hik : i = k
  · subst hik
    rw [hp] at hq
    cases hq
    subst hx hy
    constructor
    · rw [if_neg (by omega), if_pos rfl]
    · rw [if_pos rfl]
  · have hne : pos i ≠ pos k := fun h => hik (hinj i k hil hkl h)
    obtain ⟨a, b⟩ := h2 i q hq (by omega)
    rw [if_neg (by omega), if_neg (by omega), if_neg (by omega), if_neg (by omega)]
    exact ⟨a, b⟩
theorem RowP.cell {w : World} {R n k : Nat} {pos : Nat → Nat} {g : Pt → Pt} {ps : List Pt} (h : RowP w R n k pos g ps) {i : Nat} (hi : i < n) :
    (∃ u v, w.cell? ⟨R, i * 2, none⟩ = some u ∧ w.cell? ⟨R, i * 2 + 1, none⟩ = some v) ∧ w.frozen? ⟨R, i * 2, none⟩ = false ∧ w.frozen? ⟨R, i * 2 + 1, none⟩ = false ∧ R < w.heap.size := by
  obtain ⟨F, h1, h2⟩ := h
  exact ⟨⟨_, _, h1.cell (by omega), h1.cell (by omega)⟩, h1.frozen _, h1.frozen _, h1.lt⟩

end Go.Proofs.Ytpiniflhaokkaaa

/- Shapes and puts in memory; the walk of place.Poly. -/
namespace Go.Proofs.Ytpiniflhaokkaaa
open Go.RowKit
set_option linter.unusedSimpArgs false
set_option linter.unusedVariables false

/-- A shape. -/
structure Sh where
  pa : Option Addr
  pc : Nat
  ps : List Pt
  gr : Int
  mt : Bool
  ax : Int
  ay : Int
def Sh.cells (s : Sh) : List Value := [.slice s.pa s.ps.length s.pc, .int .i64 s.gr, .bool s.mt, .int .i64 s.ax, .int .i64 s.ay]
def ShOk (w : World) (s : Sh) : Prop := s.ps.length ≤ s.pc ∧ s.pc ≤ maxLen ∧ Pts w s.pa s.ps ∧ I64 s.gr ∧ I64 s.ax ∧ I64 s.ay
theorem ShOk.later {w w' : World} {s : Sh} (h : ShOk w s) (k : Later w w') : ShOk w' s := ⟨h.1, h.2.1, h.2.2.1.later k, h.2.2.2⟩
/-- A put. -/
structure Pu where
  sh : Int
  fl : Bool
  q : Int
  x : Int
  y : Int
def Pu.cells (p : Pu) : List Value := [.int .i64 p.sh, .bool p.fl, .int .i64 p.q, .int .i64 p.x, .int .i64 p.y]
def Pu.agg (p : Pu) : Value := .agg #[.int .i64 p.sh, .bool p.fl, .int .i64 p.q, .int .i64 p.x, .int .i64 p.y]
def PuOk (w : World) (p : Pu) : Prop := I64 p.sh ∧ I64 p.q ∧ I64 p.x ∧ I64 p.y
def Shapes (w : World) (A : Option Addr) (l : List Sh) : Prop := ListAt w 5 Sh.cells ShOk A l
theorem Shapes.later {w w' : World} {A : Option Addr} {l : List Sh} (h : Shapes w A l) (k : Later w w') : Shapes w' A l := ListAt.later h (fun _ ho => ho.later k) k
def Puts (w : World) (A : Option Addr) (l : List Pu) : Prop := ListAt w 5 Pu.cells PuOk A l
theorem Puts.later {w w' : World} {A : Option Addr} {l : List Pu} (h : Puts w A l) (k : Later w w') : Puts w' A l := ListAt.later h (fun _ ho => ho) k
theorem Shapes.at_ {w : World} {A : Option Addr} {l : List Sh} (h : Shapes w A l) {k : Nat} (hk : k < l.length) :
    ∃ b o, A = some ⟨b, o, none⟩ ∧ w.cell? ⟨b, o + k * 5, none⟩ = some (.slice (l[k]).pa (l[k]).ps.length (l[k]).pc) ∧ w.cell? ⟨b, o + k * 5 + 1, none⟩ = some (.int .i64 (l[k]).gr) ∧ w.cell? ⟨b, o + k * 5 + 2, none⟩ = some (.bool (l[k]).mt) ∧
      w.cell? ⟨b, o + k * 5 + 3, none⟩ = some (.int .i64 (l[k]).ax) ∧ w.cell? ⟨b, o + k * 5 + 4, none⟩ = some (.int .i64 (l[k]).ay) ∧ ShOk w (l[k]) := by
  obtain ⟨b, o, e, hc⟩ := h (by omega)
  obtain ⟨h1, h2⟩ := hc k _ (List.getElem?_eq_getElem hk)
  exact ⟨b, o, e, h1 0 _ rfl, h1 1 _ rfl, h1 2 _ rfl, h1 3 _ rfl, h1 4 _ rfl, h2⟩
theorem Puts.at_ {w : World} {A : Option Addr} {l : List Pu} (h : Puts w A l) {k : Nat} (hk : k < l.length) :
    ∃ b o, A = some ⟨b, o, none⟩ ∧ w.cell? ⟨b, o + k * 5, none⟩ = some (.int .i64 (l[k]).sh) ∧ w.cell? ⟨b, o + k * 5 + 1, none⟩ = some (.bool (l[k]).fl) ∧ w.cell? ⟨b, o + k * 5 + 2, none⟩ = some (.int .i64 (l[k]).q) ∧
      w.cell? ⟨b, o + k * 5 + 3, none⟩ = some (.int .i64 (l[k]).x) ∧ w.cell? ⟨b, o + k * 5 + 4, none⟩ = some (.int .i64 (l[k]).y) ∧ PuOk w (l[k]) := by
  obtain ⟨b, o, e, hc⟩ := h (by omega)
  obtain ⟨h1, h2⟩ := hc k _ (List.getElem?_eq_getElem hk)
  exact ⟨b, o, e, h1 0 _ rfl, h1 1 _ rfl, h1 2 _ rfl, h1 3 _ rfl, h1 4 _ rfl, h2⟩

def gs (l : List Sh) (k : Nat) : Sh := l.getD k ⟨none, 0, [], 0, false, 0, 0⟩
theorem len_of_check {ps : List Pt} (h : checkI ps = 0) : ps.length ≤ 40 := by
  unfold checkI at h
  split at h
  · cases h
  · omega
section
variable (C : Option Addr) (cc : Nat) (l : List Sh) (p : Pu) (w : World)
end

end Go.Proofs.Ytpiniflhaokkaaa
/-
  place.Poly returns a polygon in memory of its own; polygon.Area2 at a polygon that passes.
-/
namespace Go.Proofs.Ytpiniflhaokkaaa
open Go.RowKit
set_option linter.unusedSimpArgs false
set_option linter.unusedVariables false

/- Areas. -/
set_option maxHeartbeats 1000000 in
theorem polygon_Area2 (A : Option Addr) (c : Nat) (ps : List Pt) (w : World) (hn : ps.length ≤ 1099511627776) (hcap : ps.length ≤ c) (hp : Pts w A ps) (hok : checkI ps = 0) :
    Calls Try.prog 42 #[.slice A ps.length c] w (Ret (.int .i64 (areaI ps)) w) := by
  have hC := polygon_Check A c ps w hn hcap hp
  have h40 := len_of_check hok
  have hsm := small_of_check hok
  rw [hok] at hC
  have h3 : 0 < ps.length := by
    unfold checkI at hok
    split at hok
    · cases hok
    · split at hok
      · cases hok
      · omega
  obtain ⟨b, o, rfl, hat⟩ := hp h3
  have HA := Lib.hid (fun W (hW : Later w W) => polygon_area b o c ps W (by omega) (hat.later hW) hsm)
  have HC := Lib.hid hC
  clear hC hok
  generalize areaI ps = n at *
  go_enter Try.func42, Try.ntmps42
  go_wp2_with (first | (go_at_call 63; (with_reducible refine HC.out.mono ?_); rintro e w1 ⟨rfl, hb1⟩) | (go_at_call 64; (with_reducible refine (HA.out _ hb1).mono ?_); rintro e w2 ⟨rfl, hb2⟩))
  go_ret
  exact ⟨rfl, hb1.trans hb2⟩

end Go.Proofs.Ytpiniflhaokkaaa
/-
  The walk of place.matches; what Fits and Check return.
  The walk of place.Fits.
  The walk of place.Check.
-/
/- The walk of place.matches; what Fits and Check return. -/
namespace Go.Proofs.Ytpiniflhaokkaaa
open Go.RowKit
set_option linter.unusedSimpArgs false
set_option linter.unusedVariables false

/-- A bed: length, width, repeat. -/
structure Bd where
  l : Int
  w : Int
  rx : Int
  ry : Int
def Bd.agg (b : Bd) : Value := .agg #[.int .i64 b.l, .int .i64 b.w, .int .i64 b.rx, .int .i64 b.ry]
end Go.Proofs.Ytpiniflhaokkaaa

/- The walk of place.Fits. -/
namespace Go.Proofs.Ytpiniflhaokkaaa
open Go.RowKit
set_option linter.unusedSimpArgs false
set_option linter.unusedVariables false

section
variable (C : Option Addr) (cc : Nat) (l : List Sh) (p : Pu) (w : World)
end
section
variable (b : Bd) (C P : Option Addr) (cc pc : Nat) (l : List Sh) (puts : List Pu) (p : Pu) (w : World)

end

end Go.Proofs.Ytpiniflhaokkaaa

/- The walk of place.Check. -/
namespace Go.Proofs.Ytpiniflhaokkaaa
open Go.RowKit
set_option linter.unusedSimpArgs false
set_option linter.unusedVariables false

theorem Puts.take {w : World} {A : Option Addr} {l : List Pu} (h : Puts w A l) (n : Nat) : Puts w A (l.take n) := by
  intro hn
  obtain ⟨b, o, e, hc⟩ := h (by rw [List.length_take] at hn; omega)
  exact ⟨b, o, e, fun i a ha => hc i a (by rw [List.getElem?_take] at ha; split at ha; exact ha; cases ha)⟩

section
variable (b : Bd) (C P : Option Addr) (cc pc : Nat) (l : List Sh) (puts : List Pu) (w : World)
end

end Go.Proofs.Ytpiniflhaokkaaa
/-
  Plain facts on placements: one more put; a larger bed.
  Plain facts on placements: whether one is valid is a matter of its puts and its pairs, whatever their order.
-/
/- Plain facts on placements: one more put; a larger bed. -/
namespace Go.Proofs.Ytpiniflhaokkaaa
open Go.RowKit
set_option linter.unusedSimpArgs false
set_option linter.unusedVariables false

end Go.Proofs.Ytpiniflhaokkaaa

/- Plain facts on placements: whether one is valid is a matter of its puts and its pairs, whatever their order. -/
namespace Go.Proofs.Ytpiniflhaokkaaa
open Go.RowKit
set_option linter.unusedSimpArgs false
set_option linter.unusedVariables false

theorem reachGo_le (a b : List Pt) : ∀ f i m, m ≤ 1 → reachGo a b f i m ≤ 1 := by
  intro f
  induction f with
  | zero => intro i m h; exact h
  | succ f ih =>
    intro i m h
    rw [reachGo]
    exact ih _ _ (by omega)
theorem contact_le (a b : List Pt) : contactI a b ≤ 1 := by
  unfold contactI reachI
  have := reachGo_le a b a.length 0 1 (by omega)
  omega
theorem contact_comm (a b : List Pt) : contactI a b = contactI b a := by unfold contactI; omega
theorem relRow_one (s : List Pt) : ∀ (l : List (List Pt)) (m : Int), m ≤ 1 → relRow s l m ≤ 1 ∧ (relRow s l m = 1 ↔ m = 1 ∨ ∃ t ∈ l, contactI s t = 1) := by
  intro l
  induction l with
  | nil => intro m h; exact ⟨h, by simp [relRow]⟩
  | cons t l ih =>
    intro m h
    have hc := contact_le s t
    obtain ⟨h1, h2⟩ := ih (max m (contactI s t)) (by omega)
    rw [relRow]
    refine ⟨h1, h2.trans ?_⟩
    constructor
    · rintro (hh | ⟨u, hu, hc1⟩)
      · rcases Int.le_total m (contactI s t) with k | k
        · exact .inr ⟨t, List.mem_cons_self .., by omega⟩
        · exact .inl (by omega)
      · exact .inr ⟨u, List.mem_cons_of_mem _ hu, hc1⟩
    · rintro (hh | ⟨u, hu, hc1⟩)
      · exact .inl (by omega)
      · rcases List.mem_cons.1 hu with rfl | hu
        · exact .inl (by omega)
        · exact .inr ⟨u, hu, hc1⟩
theorem relGo_one (ts : List (List Pt)) : ∀ (l : List (List Pt)) (m : Int), m ≤ 1 → (relGo ts l m = 1 ↔ m = 1 ∨ ∃ s ∈ l, ∃ t ∈ ts, contactI s t = 1) := by
  intro l
  induction l with
  | nil => intro m h; simp [relGo]
  | cons s l ih =>
    intro m h
    obtain ⟨h1, h2⟩ := relRow_one s ts m h
    rw [relGo, ih _ h1, h2]
    constructor
    · rintro ((hh | ⟨t, ht, hc⟩) | ⟨u, hu, t, ht, hc⟩)
      · exact .inl hh
      · exact .inr ⟨s, List.mem_cons_self .., t, ht, hc⟩
      · exact .inr ⟨u, List.mem_cons_of_mem _ hu, t, ht, hc⟩
    · rintro (hh | ⟨u, hu, t, ht, hc⟩)
      · exact .inl (.inl hh)
      · rcases List.mem_cons.1 hu with rfl | hu
        · exact .inl (.inr ⟨t, ht, hc⟩)
        · exact .inr ⟨u, hu, t, ht, hc⟩
/-- Two polygons are apart: both can be divided, and no two of their triangles cross. -/
def Apart (a b : List Pt) : Prop := (overR a b).2 = 0 ∧ (overR a b).1 = false
theorem apart_iff (a b : List Pt) : Apart a b ↔ ((splitR a).2 = 0 ∧ (splitR b).2 = 0 ∧ ∀ s ∈ (splitR a).1, ∀ t ∈ (splitR b).1, contactI s t ≠ 1) := by
  unfold Apart overR relationR
  by_cases h1 : (splitR a).2 = 0
  · rw [if_neg (by simpa using h1)]
    by_cases h2 : (splitR b).2 = 0
    · rw [if_neg (by simpa using h2)]
      have hr := relGo_one (splitR b).1 (splitR a).1 (-1) (by omega)
      simp only [beq_self_eq_true, Bool.true_and, beq_eq_false_iff_ne, ne_eq, true_and, h1, h2]
      constructor
      · intro h s hs t ht hc
        exact h (hr.2 (.inr ⟨s, hs, t, ht, hc⟩))
      · intro h hh
        rcases hr.1 hh with k | ⟨s, hs, t, ht, hc⟩
        · omega
        · exact h s hs t ht hc
    · rw [if_pos h2]
      simp [h1, h2]
  · rw [if_pos h1]
    simp [h1]
theorem Apart.symm {a b : List Pt} (h : Apart a b) : Apart b a := by
  rw [apart_iff] at h ⊢
  exact ⟨h.2.1, h.1, fun s hs t ht => by rw [contact_comm]; exact h.2.2 t ht s hs⟩
end Go.Proofs.Ytpiniflhaokkaaa
/-
  The layings of slices.SortFunc (at zones) and of cmp.Compare (at int): the library's contracts at this program. Written by the kit's tool.
-/
namespace Go.Proofs.Ytpiniflhaokkaaa
open Go.Shelf
set_option maxRecDepth 100000
def sortZn_ren : Go.Shelf.Ren := ⟨fun | 6 => 53 | 15 => 69 | 14 => 68 | 28 => 87 | 29 => 88 | 20 => 79 | 21 => 80 | 22 => 81 | 23 => 82 | 24 => 83 | 25 => 84 | 26 => 85 | 27 => 86 | 46 => 100 | 47 => 101 | 48 => 102 | 49 => 103 | 50 => 104 | 57 => 120 | n => n, fun | 22 => 107 | 24 => 109 | 25 => 124 | 3 => 3 | 39 => 139 | 0 => 0 | 53 => 157 | 55 => 159 | 4 => 4 | 46 => 150 | 45 => 149 | 50 => 154 | 5 => 5 | 9 => 9 | 66 => 172 | 70 => 176 | 76 => 186 | 77 => 101 | n => n, fun | n => n⟩
theorem sortZn : Go.Proofs.SlLaysF0.n6 Try.prog sortZn_ren := {
  mixed := by kernel_rfl
  f6 := ⟨Try.f53.name, by decide, Try.func53.trans (congrArg some (by kernel_rfl))⟩
  f14 := ⟨Try.f68.name, by decide, Try.func68.trans (congrArg some (by kernel_rfl))⟩
  f15 := Try.func69.trans (congrArg some (by kernel_rfl))
  f20 := ⟨Try.f79.name, by decide, Try.func79.trans (congrArg some (by kernel_rfl))⟩
  f21 := ⟨Try.f80.name, by decide, Try.func80.trans (congrArg some (by kernel_rfl))⟩
  f22 := ⟨Try.f81.name, by decide, Try.func81.trans (congrArg some (by kernel_rfl))⟩
  f23 := ⟨Try.f82.name, by decide, Try.func82.trans (congrArg some (by kernel_rfl))⟩
  f24 := ⟨Try.f83.name, by decide, Try.func83.trans (congrArg some (by kernel_rfl))⟩
  f25 := ⟨Try.f84.name, by decide, Try.func84.trans (congrArg some (by kernel_rfl))⟩
  f26 := ⟨Try.f85.name, by decide, Try.func85.trans (congrArg some (by kernel_rfl))⟩
  f27 := ⟨Try.f86.name, by decide, Try.func86.trans (congrArg some (by kernel_rfl))⟩
  f28 := Try.func87.trans (congrArg some (by kernel_rfl))
  f29 := Try.func88.trans (congrArg some (by kernel_rfl))
  f46 := ⟨Try.f100.name, by decide, Try.func100.trans (congrArg some (by kernel_rfl))⟩
  f47 := Try.func101.trans (congrArg some (by kernel_rfl))
  f48 := Try.func102.trans (congrArg some (by kernel_rfl))
  f49 := ⟨Try.f103.name, by decide, Try.func103.trans (congrArg some (by kernel_rfl))⟩
  f50 := ⟨Try.f104.name, by decide, Try.func104.trans (congrArg some (by kernel_rfl))⟩
  f57 := ⟨Try.f120.name, by decide, Try.func120.trans (congrArg some (by kernel_rfl))⟩
  t0 := Try.underlying0
  a0 := Try.isAgg0
  z0 := Try.sizeOf0
  v0 := Try.zeroValue0
  t3 := Try.underlying3
  a3 := Try.isAgg3
  z3 := Try.sizeOf3
  v3 := Try.zeroValue3
  t4 := Try.underlying4
  a4 := Try.isAgg4
  z4 := Try.sizeOf4
  v4 := Try.zeroValue4
  t5 := Try.underlying5
  a5 := Try.isAgg5
  z5 := Try.sizeOf5
  v5 := Try.zeroValue5
  t9 := Try.underlying9
  a9 := Try.isAgg9
  z9 := Try.sizeOf9
  v9 := Try.zeroValue9
  t22 := Try.underlying107
  a22 := Try.isAgg107
  z22 := Try.sizeOf107
  v22 := Try.zeroValue107
  t25 := Try.underlying124
  a25 := Try.isAgg124
  z25 := Try.sizeOf124
  v25 := Try.zeroValue124
  t39 := Try.underlying139
  a39 := Try.isAgg139
  z39 := Try.sizeOf139
  v39 := Try.zeroValue139
  t45 := Try.underlying149
  a45 := Try.isAgg149
  z45 := Try.sizeOf149
  v45 := Try.zeroValue149
  t46 := Try.underlying150
  a46 := Try.isAgg150
  z46 := Try.sizeOf150
  v46 := Try.zeroValue150
  t50 := Try.underlying154
  a50 := Try.isAgg154
  z50 := Try.sizeOf154
  v50 := Try.zeroValue154
  t53 := Try.underlying157
  a53 := Try.isAgg157
  z53 := Try.sizeOf157
  v53 := Try.zeroValue157
  t55 := Try.underlying159
  a55 := Try.isAgg159
  z55 := Try.sizeOf159
  v55 := Try.zeroValue159
  t66 := Try.underlying172
  a66 := Try.isAgg172
  z66 := Try.sizeOf172
  v66 := Try.zeroValue172
  t70 := Try.underlying176
  a70 := Try.isAgg176
  z70 := Try.sizeOf176
  v70 := Try.zeroValue176
  t76 := Try.underlying186
  a76 := Try.isAgg186
  z76 := Try.sizeOf186
  v76 := Try.zeroValue186
  t77 := Try.underlying101
  a77 := Try.isAgg101
  z77 := Try.sizeOf101
  v77 := Try.zeroValue101 }
def cmpInt_ren : Go.Shelf.Ren := ⟨fun | 5 => 55 | 7 => 70 | n => n, fun | 22 => 3 | 3 => 3 | 4 => 4 | n => n, fun | n => n⟩
theorem cmpInt : Go.Proofs.SlLaysC2.n5 Try.prog cmpInt_ren := {
  mixed := by kernel_rfl
  f5 := ⟨Try.f55.name, by decide, Try.func55.trans (congrArg some (by kernel_rfl))⟩
  f7 := ⟨Try.f70.name, by decide, Try.func70.trans (congrArg some (by kernel_rfl))⟩
  t3 := Try.underlying3
  a3 := Try.isAgg3
  z3 := Try.sizeOf3
  v3 := Try.zeroValue3
  t4 := Try.underlying4
  a4 := Try.isAgg4
  z4 := Try.sizeOf4
  v4 := Try.zeroValue4
  t22 := Try.underlying3
  a22 := Try.isAgg3
  z22 := Try.sizeOf3
  v22 := Try.zeroValue3 }
end Go.Proofs.Ytpiniflhaokkaaa
