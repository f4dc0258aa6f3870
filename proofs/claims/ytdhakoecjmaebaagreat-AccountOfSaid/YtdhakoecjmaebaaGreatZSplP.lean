/-
 The walks of place's small functions: bounds, stripes, turns of one point.
 The walks of stripe.Same and of turns of one point.
 The walks of turn.Allowed, polyline.Move, polygon.Move, turn.Poly.
 Shapes and puts in memory; the walk of place.Poly.
-/
import Derived.Test.YtdhakoecjmaebaaGreatZDam
import Derived.StillTailTactics
import Derived.Laws.BitsAllLaws
import Derived.Laws.BitsLemmas
import Derived.Test.YtdhakoecjmaebaaGreatZSplit
import Derived.Deep.OwnRows
import Derived.Test.YtdhakoecjmaebaaGreatZHits
import Derived.Shelf.SlSortCmp.NoneTotal
import Derived.Shelf.SlicesG.Cmp
import Derived.Test.YtdhakoecjmaebaaGreatRows
import Derived.Test.YtdhakoecjmaebaaGreatZPoly
import Derived.Test.YtdhakoecjmaebaaGreatZNorm
namespace Go.Proofs.YtdhakoecjmaebaaGreat
open Go.RowKit
set_option linter.unusedSimpArgs false
set_option linter.unusedVariables false
attribute [local go_sem] ite_min ite_max
@[go_sem] theorem build_repeat (a b : Int) (w : World) : (Instr.build 23 #[(0, .int .i64 a), (1, .int .i64 b)]).run Tryz.prog w = .ok (.agg #[.int .i64 a, .int .i64 b]) w := run_build w 23 _ _ (by kernel_rfl)
@[go_sem] theorem build_turn (a : Bool) (b : Int) (w : World) : (Instr.build 42 #[(0, .bool a), (1, .int .i64 b)]).run Tryz.prog w = .ok (.agg #[.bool a, .int .i64 b]) w := run_build w 42 _ _ (by kernel_rfl)
end Go.Proofs.YtdhakoecjmaebaaGreat
namespace Go.Proofs.YtdhakoecjmaebaaGreat
open Go.RowKit
set_option linter.unusedSimpArgs false
set_option linter.unusedVariables false
def rot (p : Pt) : Pt := ⟨-p.y, p.x⟩
end Go.Proofs.YtdhakoecjmaebaaGreat
namespace Go.Proofs.YtdhakoecjmaebaaGreat
open Go.RowKit
set_option linter.unusedSimpArgs false
set_option linter.unusedVariables false
def RowP (wr : World) (R n k : Nat) (pos : Nat → Nat) (g : Pt → Pt) (ps : List Pt) : Prop :=
 ∃ F : Nat → Value, wr.rowIs R 29 (n * 2) F ∧ ∀ i p, ps[i]? = some p → i < k → F (pos i * 2) = .int .i64 (g p).x ∧ F (pos i * 2 + 1) = .int .i64 (g p).y
theorem RowP.later {w w' : World} {R n k : Nat} {pos : Nat → Nat} {g : Pt → Pt} {ps : List Pt} (h : RowP w R n k pos g ps) (hk : Later w w') : RowP w' R n k pos g ps :=
 let ⟨F, h1, h2⟩ := h; ⟨F, h1.of_block (hk.block R h1.lt), h2⟩
theorem RowP.alloc {w : World} {R n k : Nat} {pos : Nat → Nat} {g : Pt → Pt} {ps : List Pt} (h : RowP w R n k pos g ps) (o : Obj) : RowP (w.alloc o) R n k pos g ps :=
 let ⟨F, h1, h2⟩ := h; ⟨F, h1.alloc o, h2⟩
theorem RowP.put {w : World} {R n k : Nat} {pos : Nat → Nat} {g : Pt → Pt} {ps : List Pt} (h : RowP w R n k pos g ps) {p : Pt} (hp : ps[k]? = some p) (hinj : ∀ i j, i < ps.length → j < ps.length → pos i = pos j → i = j) {x y : Int} (hx : x = (g p).x) (hy : y = (g p).y) :
  RowP ((w.setCell ⟨R, pos k * 2, none⟩ (.int .i64 x)).setCell ⟨R, pos k * 2 + 1, none⟩ (.int .i64 y)) R n (k + 1) pos g ps := by
 obtain ⟨F, h1, h2⟩ := h
 refine ⟨_, (h1.set _ _).set _ _, fun i q hq hi => ?_⟩
 have hil := (List.getElem?_eq_some_iff.1 hq).1
 have hkl := (List.getElem?_eq_some_iff.1 hp).1
 by_cases hik : i = k
 ·subst hik
  rw [hp] at hq
  cases hq
  subst hx hy
  constructor
  ·rw [if_neg (by omega), if_pos rfl]
  ·rw [if_pos rfl]
 ·have hne : pos i ≠ pos k := fun h => hik (hinj i k hil hkl h)
  obtain ⟨a, b⟩ := h2 i q hq (by omega)
  rw [if_neg (by omega), if_neg (by omega), if_neg (by omega), if_neg (by omega)]
  exact ⟨a, b⟩
theorem RowP.cell {w : World} {R n k : Nat} {pos : Nat → Nat} {g : Pt → Pt} {ps : List Pt} (h : RowP w R n k pos g ps) {i : Nat} (hi : i < n) :
  (∃ u v, w.cell? ⟨R, i * 2, none⟩ = some u ∧ w.cell? ⟨R, i * 2 + 1, none⟩ = some v) ∧ w.frozen? ⟨R, i * 2, none⟩ = false ∧ w.frozen? ⟨R, i * 2 + 1, none⟩ = false ∧ R < w.heap.size := by
 obtain ⟨F, h1, h2⟩ := h
 exact ⟨⟨_, _, h1.cell (by omega), h1.cell (by omega)⟩, h1.frozen _, h1.frozen _, h1.lt⟩
end Go.Proofs.YtdhakoecjmaebaaGreat
namespace Go.Proofs.YtdhakoecjmaebaaGreat
open Go.RowKit
set_option linter.unusedSimpArgs false
set_option linter.unusedVariables false
structure Sh where
 pa : Option Addr
 pc : Nat
 ps : List Pt
 gr : Int
 mt : Bool
 ax : Int
 ay : Int
def Sh.cells (s : Sh) : List Value := [.slice s.pa s.ps.length s.pc, .int .i64 s.gr, .bool s.mt, .int .i64 s.ax, .int .i64 s.ay]
def ShOk (w : World) (s : Sh) : Prop := s.ps.length ≤ s.pc ∧ s.pc ≤ maxLen ∧ Pts w s.pa s.ps ∧ I64 s.gr ∧ I64 s.ax ∧ I64 s.ay
theorem ShOk.later {w w' : World} {s : Sh} (h : ShOk w s) (k : Later w w') : ShOk w' s := ⟨h.1, h.2.1, h.2.2.1.later k, h.2.2.2⟩
structure Pu where
 sh : Int
 fl : Bool
 q : Int
 x : Int
 y : Int
def Pu.cells (p : Pu) : List Value := [.int .i64 p.sh, .bool p.fl, .int .i64 p.q, .int .i64 p.x, .int .i64 p.y]
def Pu.agg (p : Pu) : Value := .agg #[.int .i64 p.sh, .bool p.fl, .int .i64 p.q, .int .i64 p.x, .int .i64 p.y]
def PuOk (w : World) (p : Pu) : Prop := I64 p.sh ∧ I64 p.q ∧ I64 p.x ∧ I64 p.y
def Shapes (w : World) (A : Option Addr) (l : List Sh) : Prop := ListAt w 5 Sh.cells ShOk A l
theorem Shapes.later {w w' : World} {A : Option Addr} {l : List Sh} (h : Shapes w A l) (k : Later w w') : Shapes w' A l := ListAt.later h (fun _ ho => ho.later k) k
def Puts (w : World) (A : Option Addr) (l : List Pu) : Prop := ListAt w 5 Pu.cells PuOk A l
theorem Puts.later {w w' : World} {A : Option Addr} {l : List Pu} (h : Puts w A l) (k : Later w w') : Puts w' A l := ListAt.later h (fun _ ho => ho) k
theorem Shapes.at_ {w : World} {A : Option Addr} {l : List Sh} (h : Shapes w A l) {k : Nat} (hk : k < l.length) :
  ∃ b o, A = some ⟨b, o, none⟩ ∧ w.cell? ⟨b, o + k * 5, none⟩ = some (.slice (l[k]).pa (l[k]).ps.length (l[k]).pc) ∧ w.cell? ⟨b, o + k * 5 + 1, none⟩ = some (.int .i64 (l[k]).gr) ∧ w.cell? ⟨b, o + k * 5 + 2, none⟩ = some (.bool (l[k]).mt) ∧
   w.cell? ⟨b, o + k * 5 + 3, none⟩ = some (.int .i64 (l[k]).ax) ∧ w.cell? ⟨b, o + k * 5 + 4, none⟩ = some (.int .i64 (l[k]).ay) ∧ ShOk w (l[k]) := by
 obtain ⟨b, o, e, hc⟩ := h (by omega)
 obtain ⟨h1, h2⟩ := hc k _ (List.getElem?_eq_getElem hk)
 exact ⟨b, o, e, h1 0 _ rfl, h1 1 _ rfl, h1 2 _ rfl, h1 3 _ rfl, h1 4 _ rfl, h2⟩
theorem Puts.at_ {w : World} {A : Option Addr} {l : List Pu} (h : Puts w A l) {k : Nat} (hk : k < l.length) :
  ∃ b o, A = some ⟨b, o, none⟩ ∧ w.cell? ⟨b, o + k * 5, none⟩ = some (.int .i64 (l[k]).sh) ∧ w.cell? ⟨b, o + k * 5 + 1, none⟩ = some (.bool (l[k]).fl) ∧ w.cell? ⟨b, o + k * 5 + 2, none⟩ = some (.int .i64 (l[k]).q) ∧
   w.cell? ⟨b, o + k * 5 + 3, none⟩ = some (.int .i64 (l[k]).x) ∧ w.cell? ⟨b, o + k * 5 + 4, none⟩ = some (.int .i64 (l[k]).y) ∧ PuOk w (l[k]) := by
 obtain ⟨b, o, e, hc⟩ := h (by omega)
 obtain ⟨h1, h2⟩ := hc k _ (List.getElem?_eq_getElem hk)
 exact ⟨b, o, e, h1 0 _ rfl, h1 1 _ rfl, h1 2 _ rfl, h1 3 _ rfl, h1 4 _ rfl, h2⟩
def gs (l : List Sh) (k : Nat) : Sh := l.getD k ⟨none, 0, [], 0, false, 0, 0⟩
theorem len_of_check {ps : List Pt} (h : checkI ps = 0) : ps.length ≤ 40 := by
 unfold checkI at h
 split at h
 ·cases h
 ·omega
section
variable (C : Option Addr) (cc : Nat) (l : List Sh) (p : Pu) (w : World)
end
end Go.Proofs.YtdhakoecjmaebaaGreat
namespace Go.Proofs.YtdhakoecjmaebaaGreat
open Go.RowKit
set_option linter.unusedSimpArgs false
set_option linter.unusedVariables false
theorem area_bound {ps : List Pt} (h : checkI ps = 0) : -4503599627370496 ≤ areaI ps ∧ areaI ps ≤ 4503599627370496 := by
 have h40 := len_of_check h
 have hsm := small_of_check h
 have key : ∀ (f i : Nat) (s : Int), (-35184372088832 * (f : Int) + s ≤ areaGo ps f i s ∧ areaGo ps f i s ≤ 35184372088832 * (f : Int) + s) := by
  intro f
  induction f with
  | zero => intro i s; rw [areaGo]; omega
  | succ f ih =>
   intro i s
   rw [areaGo]
   have ht := area_term (gp ps i) (gp ps ((i + 1) % ps.length)) (hsm _) (hsm _)
   have := ih (i + 1) (s + ((gp ps i).x * (gp ps ((i + 1) % ps.length)).y - (gp ps i).y * (gp ps ((i + 1) % ps.length)).x))
   omega
 have := key ps.length 0 0
 unfold areaI
 omega
set_option maxHeartbeats 1000000 in
theorem polygon_Area2 (A : Option Addr) (c : Nat) (ps : List Pt) (w : World) (hn : ps.length ≤ 1099511627776) (hcap : ps.length ≤ c) (hp : Pts w A ps) (hok : checkI ps = 0) :
  Calls Tryz.prog 14 #[.slice A ps.length c] w (Ret (.int .i64 (areaI ps)) w) := by
 have hC := polygon_Check A c ps w hn hcap hp
 have h40 := len_of_check hok
 have hsm := small_of_check hok
 rw [hok] at hC
 have h3 : 0 < ps.length := by
  unfold checkI at hok
  split at hok
  ·cases hok
  ·split at hok
   ·cases hok
   ·omega
 obtain ⟨b, o, rfl, hat⟩ := hp h3
 have HA := Lib.hid (fun W (hW : Later w W) => polygon_area b o c ps W (by omega) (hat.later hW) hsm)
 have HC := Lib.hid hC
 clear hC hok
 generalize areaI ps = n at *
 go_enter Tryz.func14, Tryz.ntmps14
 go_wp2_with (first | (go_at_call 27; (with_reducible refine HC.out.mono ?_); rintro e w1 ⟨rfl, hb1⟩) | (go_at_call 31; (with_reducible refine (HA.out _ hb1).mono ?_); rintro e w2 ⟨rfl, hb2⟩))
 go_ret
 exact ⟨rfl, hb1.trans hb2⟩
end Go.Proofs.YtdhakoecjmaebaaGreat
namespace Go.Proofs.YtdhakoecjmaebaaGreat
open Go.RowKit
set_option linter.unusedSimpArgs false
set_option linter.unusedVariables false
structure Bd where
 l : Int
 w : Int
 rx : Int
 ry : Int
def Bd.agg (b : Bd) : Value := .agg #[.int .i64 b.l, .int .i64 b.w, .int .i64 b.rx, .int .i64 b.ry]
end Go.Proofs.YtdhakoecjmaebaaGreat
namespace Go.Proofs.YtdhakoecjmaebaaGreat
open Go.RowKit
set_option linter.unusedSimpArgs false
set_option linter.unusedVariables false
section
variable (C : Option Addr) (cc : Nat) (l : List Sh) (p : Pu) (w : World)
end
section
variable (b : Bd) (C P : Option Addr) (cc pc : Nat) (l : List Sh) (puts : List Pu) (p : Pu) (w : World)
end
end Go.Proofs.YtdhakoecjmaebaaGreat
namespace Go.Proofs.YtdhakoecjmaebaaGreat
open Go.RowKit
set_option linter.unusedSimpArgs false
set_option linter.unusedVariables false
theorem Puts.take {w : World} {A : Option Addr} {l : List Pu} (h : Puts w A l) (n : Nat) : Puts w A (l.take n) := by
 intro hn
 obtain ⟨b, o, e, hc⟩ := h (by rw [List.length_take] at hn; omega)
 exact ⟨b, o, e, fun i a ha => hc i a (by rw [List.getElem?_take] at ha; split at ha; exact ha; cases ha)⟩
section
variable (b : Bd) (C P : Option Addr) (cc pc : Nat) (l : List Sh) (puts : List Pu) (w : World)
end
end Go.Proofs.YtdhakoecjmaebaaGreat
namespace Go.Proofs.YtdhakoecjmaebaaGreat
open Go.RowKit
set_option linter.unusedSimpArgs false
set_option linter.unusedVariables false
end Go.Proofs.YtdhakoecjmaebaaGreat
namespace Go.Proofs.YtdhakoecjmaebaaGreat
open Go.RowKit
set_option linter.unusedSimpArgs false
set_option linter.unusedVariables false
theorem reachGo_le (a b : List Pt) : ∀ f i m, m ≤ 1 → reachGo a b f i m ≤ 1 := by
 intro f
 induction f with
 | zero => intro i m h; exact h
 | succ f ih =>
  intro i m h
  rw [reachGo]
  exact ih _ _ (by omega)
theorem contact_le (a b : List Pt) : contactI a b ≤ 1 := by
 unfold contactI reachI
 have := reachGo_le a b a.length 0 1 (by omega)
 omega
theorem contact_comm (a b : List Pt) : contactI a b = contactI b a := by unfold contactI; omega
theorem relRow_one (s : List Pt) : ∀ (l : List (List Pt)) (m : Int), m ≤ 1 → relRow s l m ≤ 1 ∧ (relRow s l m = 1 ↔ m = 1 ∨ ∃ t ∈ l, contactI s t = 1) := by
 intro l
 induction l with
 | nil => intro m h; exact ⟨h, by simp [relRow]⟩
 | cons t l ih =>
  intro m h
  have hc := contact_le s t
  obtain ⟨h1, h2⟩ := ih (max m (contactI s t)) (by omega)
  rw [relRow]
  refine ⟨h1, h2.trans ?_⟩
  constructor
  ·rintro (hh | ⟨u, hu, hc1⟩)
   ·rcases Int.le_total m (contactI s t) with k | k
    ·exact .inr ⟨t, List.mem_cons_self .., by omega⟩
    ·exact .inl (by omega)
   ·exact .inr ⟨u, List.mem_cons_of_mem _ hu, hc1⟩
  ·rintro (hh | ⟨u, hu, hc1⟩)
   ·exact .inl (by omega)
   ·rcases List.mem_cons.1 hu with rfl | hu
    ·exact .inl (by omega)
    ·exact .inr ⟨u, hu, hc1⟩
theorem relGo_one (ts : List (List Pt)) : ∀ (l : List (List Pt)) (m : Int), m ≤ 1 → (relGo ts l m = 1 ↔ m = 1 ∨ ∃ s ∈ l, ∃ t ∈ ts, contactI s t = 1) := by
 intro l
 induction l with
 | nil => intro m h; simp [relGo]
 | cons s l ih =>
  intro m h
  obtain ⟨h1, h2⟩ := relRow_one s ts m h
  rw [relGo, ih _ h1, h2]
  constructor
  ·rintro ((hh | ⟨t, ht, hc⟩) | ⟨u, hu, t, ht, hc⟩)
   ·exact .inl hh
   ·exact .inr ⟨s, List.mem_cons_self .., t, ht, hc⟩
   ·exact .inr ⟨u, List.mem_cons_of_mem _ hu, t, ht, hc⟩
  ·rintro (hh | ⟨u, hu, t, ht, hc⟩)
   ·exact .inl (.inl hh)
   ·rcases List.mem_cons.1 hu with rfl | hu
    ·exact .inl (.inr ⟨t, ht, hc⟩)
    ·exact .inr ⟨u, hu, t, ht, hc⟩
def Apart (a b : List Pt) : Prop := (overR a b).2 = 0 ∧ (overR a b).1 = false
theorem apart_iff (a b : List Pt) : Apart a b ↔ ((splitR a).2 = 0 ∧ (splitR b).2 = 0 ∧ ∀ s ∈ (splitR a).1, ∀ t ∈ (splitR b).1, contactI s t ≠ 1) := by
 unfold Apart overR relationR
 by_cases h1 : (splitR a).2 = 0
 ·rw [if_neg (by simpa using h1)]
  by_cases h2 : (splitR b).2 = 0
  ·rw [if_neg (by simpa using h2)]
   have hr := relGo_one (splitR b).1 (splitR a).1 (-1) (by omega)
   simp only [beq_self_eq_true, Bool.true_and, beq_eq_false_iff_ne, ne_eq, true_and, h1, h2]
   constructor
   ·intro h s hs t ht hc
    exact h (hr.2 (.inr ⟨s, hs, t, ht, hc⟩))
   ·intro h hh
    rcases hr.1 hh with k | ⟨s, hs, t, ht, hc⟩
    ·omega
    ·exact h s hs t ht hc
  ·rw [if_pos h2]
   simp [h1, h2]
 ·rw [if_pos h1]
  simp [h1]
theorem Apart.symm {a b : List Pt} (h : Apart a b) : Apart b a := by
 rw [apart_iff] at h ⊢
 exact ⟨h.2.1, h.1, fun s hs t ht => by rw [contact_comm]; exact h.2.2 t ht s hs⟩
end Go.Proofs.YtdhakoecjmaebaaGreat
namespace Go.Proofs.YtdhakoecjmaebaaGreat
open Go.Shelf
set_option maxRecDepth 100000
def sortZn_ren : Go.Shelf.Ren := ⟨fun | 6 => 119 | 15 => 113 | 14 => 166 | 28 => 162 | 29 => 163 | 20 => 203 | 21 => 204 | 22 => 205 | 23 => 206 | 24 => 207 | 25 => 208 | 26 => 209 | 27 => 210 | 46 => 227 | 47 => 199 | 48 => 200 | 49 => 228 | 50 => 229 | 57 => 235 | n => n, fun | 22 => 188 | 24 => 190 | 25 => 196 | 3 => 3 | 39 => 185 | 0 => 0 | 53 => 217 | 55 => 219 | 4 => 4 | 46 => 210 | 45 => 209 | 50 => 214 | 5 => 5 | 9 => 9 | 66 => 241 | 70 => 245 | 76 => 256 | 77 => 109 | n => n, fun | n => n⟩
theorem sortZn : Go.Proofs.SlLaysF0.n6 Tryz.prog sortZn_ren := {
 mixed := by kernel_rfl
 f6 := ⟨Tryz.f119.name, by decide, Tryz.func119.trans (congrArg some (by kernel_rfl))⟩
 f14 := ⟨Tryz.f166.name, by decide, Tryz.func166.trans (congrArg some (by kernel_rfl))⟩
 f15 := Tryz.func113.trans (congrArg some (by kernel_rfl))
 f20 := ⟨Tryz.f203.name, by decide, Tryz.func203.trans (congrArg some (by kernel_rfl))⟩
 f21 := ⟨Tryz.f204.name, by decide, Tryz.func204.trans (congrArg some (by kernel_rfl))⟩
 f22 := ⟨Tryz.f205.name, by decide, Tryz.func205.trans (congrArg some (by kernel_rfl))⟩
 f23 := ⟨Tryz.f206.name, by decide, Tryz.func206.trans (congrArg some (by kernel_rfl))⟩
 f24 := ⟨Tryz.f207.name, by decide, Tryz.func207.trans (congrArg some (by kernel_rfl))⟩
 f25 := ⟨Tryz.f208.name, by decide, Tryz.func208.trans (congrArg some (by kernel_rfl))⟩
 f26 := ⟨Tryz.f209.name, by decide, Tryz.func209.trans (congrArg some (by kernel_rfl))⟩
 f27 := ⟨Tryz.f210.name, by decide, Tryz.func210.trans (congrArg some (by kernel_rfl))⟩
 f28 := Tryz.func162.trans (congrArg some (by kernel_rfl))
 f29 := Tryz.func163.trans (congrArg some (by kernel_rfl))
 f46 := ⟨Tryz.f227.name, by decide, Tryz.func227.trans (congrArg some (by kernel_rfl))⟩
 f47 := Tryz.func199.trans (congrArg some (by kernel_rfl))
 f48 := Tryz.func200.trans (congrArg some (by kernel_rfl))
 f49 := ⟨Tryz.f228.name, by decide, Tryz.func228.trans (congrArg some (by kernel_rfl))⟩
 f50 := ⟨Tryz.f229.name, by decide, Tryz.func229.trans (congrArg some (by kernel_rfl))⟩
 f57 := ⟨Tryz.f235.name, by decide, Tryz.func235.trans (congrArg some (by kernel_rfl))⟩
 t0 := Tryz.underlying0
 a0 := Tryz.isAgg0
 z0 := Tryz.sizeOf0
 v0 := Tryz.zeroValue0
 t3 := Tryz.underlying3
 a3 := Tryz.isAgg3
 z3 := Tryz.sizeOf3
 v3 := Tryz.zeroValue3
 t4 := Tryz.underlying4
 a4 := Tryz.isAgg4
 z4 := Tryz.sizeOf4
 v4 := Tryz.zeroValue4
 t5 := Tryz.underlying5
 a5 := Tryz.isAgg5
 z5 := Tryz.sizeOf5
 v5 := Tryz.zeroValue5
 t9 := Tryz.underlying9
 a9 := Tryz.isAgg9
 z9 := Tryz.sizeOf9
 v9 := Tryz.zeroValue9
 t22 := Tryz.underlying188
 a22 := Tryz.isAgg188
 z22 := Tryz.sizeOf188
 v22 := Tryz.zeroValue188
 t25 := Tryz.underlying196
 a25 := Tryz.isAgg196
 z25 := Tryz.sizeOf196
 v25 := Tryz.zeroValue196
 t39 := Tryz.underlying185
 a39 := Tryz.isAgg185
 z39 := Tryz.sizeOf185
 v39 := Tryz.zeroValue185
 t45 := Tryz.underlying209
 a45 := Tryz.isAgg209
 z45 := Tryz.sizeOf209
 v45 := Tryz.zeroValue209
 t46 := Tryz.underlying210
 a46 := Tryz.isAgg210
 z46 := Tryz.sizeOf210
 v46 := Tryz.zeroValue210
 t50 := Tryz.underlying214
 a50 := Tryz.isAgg214
 z50 := Tryz.sizeOf214
 v50 := Tryz.zeroValue214
 t53 := Tryz.underlying217
 a53 := Tryz.isAgg217
 z53 := Tryz.sizeOf217
 v53 := Tryz.zeroValue217
 t55 := Tryz.underlying219
 a55 := Tryz.isAgg219
 z55 := Tryz.sizeOf219
 v55 := Tryz.zeroValue219
 t66 := Tryz.underlying241
 a66 := Tryz.isAgg241
 z66 := Tryz.sizeOf241
 v66 := Tryz.zeroValue241
 t70 := Tryz.underlying245
 a70 := Tryz.isAgg245
 z70 := Tryz.sizeOf245
 v70 := Tryz.zeroValue245
 t76 := Tryz.underlying256
 a76 := Tryz.isAgg256
 z76 := Tryz.sizeOf256
 v76 := Tryz.zeroValue256
 t77 := Tryz.underlying109
 a77 := Tryz.isAgg109
 z77 := Tryz.sizeOf109
 v77 := Tryz.zeroValue109 }
def cmpInt_ren : Go.Shelf.Ren := ⟨fun | 5 => 95 | 7 => 141 | n => n, fun | 22 => 3 | 3 => 3 | 4 => 4 | n => n, fun | n => n⟩
theorem cmpInt : Go.Proofs.SlLaysC2.n5 Tryz.prog cmpInt_ren := {
 mixed := by kernel_rfl
 f5 := ⟨Tryz.f95.name, by decide, Tryz.func95.trans (congrArg some (by kernel_rfl))⟩
 f7 := ⟨Tryz.f141.name, by decide, Tryz.func141.trans (congrArg some (by kernel_rfl))⟩
 t3 := Tryz.underlying3
 a3 := Tryz.isAgg3
 z3 := Tryz.sizeOf3
 v3 := Tryz.zeroValue3
 t4 := Tryz.underlying4
 a4 := Tryz.isAgg4
 z4 := Tryz.sizeOf4
 v4 := Tryz.zeroValue4
 t22 := Tryz.underlying3
 a22 := Tryz.isAgg3
 z22 := Tryz.sizeOf3
 v22 := Tryz.zeroValue3 }
end Go.Proofs.YtdhakoecjmaebaaGreat
namespace Go.Proofs.YtdhakoecjmaebaaGreat
open Go.RowKit
set_option linter.unusedSimpArgs false
set_option linter.unusedVariables false
def extGoZ (len : Int) : List (List Pt) → List Pt → List Pt × Int
 | [], acc => (acc, 0)
 | p :: l, acc => if checkI p ≠ 0 then ([], checkI p) else if (loOf p).x < 0 ∨ len < (hiOf p).x then ([], 13) else extGoZ len l (acc ++ [⟨(loOf p).x, (hiOf p).x⟩])
def extentsR (len : Int) (polys : List (List Pt)) : List Pt × Int :=
 if len < 1 ∨ 1048576 < len then ([], 3) else if 60 < polys.length then ([], 5) else extGoZ len polys []
def backR (l : List Pt) (hi : Int) : Int := l.foldl (fun lo z => if hi < z.y then min lo z.x else lo) hi
def BackR (len : Int) (polys : List (List Pt)) (hi : Int) : Int × Int :=
 if (extentsR len polys).2 ≠ 0 then (0, (extentsR len polys).2) else if hi < 0 ∨ len < hi then (0, 3) else (backR (extentsR len polys).1 hi, 0)
def bestStep (zs : List Pt) (lo hi : Int) (s : Bool × Pt) (h : Int) : Bool × Pt :=
 if hi < h ∨ backR zs h ≤ lo then s
 else if s.1 = false ∨ (h - backR zs h - (s.2.y - s.2.x) < 0 ∨ h - backR zs h - (s.2.y - s.2.x) = 0 ∧ s.2.y < h) then (true, ⟨backR zs h, h⟩) else s
def endsOf (zs : List Pt) (hi : Int) : List Int := hi :: zs.flatMap fun z => [z.x, z.y]
def bestGo (zs : List Pt) (lo hi : Int) (l : List Int) : Bool × Pt := l.foldl (bestStep zs lo hi) (false, ⟨0, 0⟩)
def BestR (len : Int) (polys : List (List Pt)) (lo hi : Int) : Pt × Int :=
 if (extentsR len polys).2 ≠ 0 then (⟨0, 0⟩, (extentsR len polys).2) else if lo < 0 ∨ hi < lo ∨ len < hi then (⟨0, 0⟩, 3)
 else if (bestGo (extentsR len polys).1 lo hi (endsOf (extentsR len polys).1 hi)).1 = true then ((bestGo (extentsR len polys).1 lo hi (endsOf (extentsR len polys).1 hi)).2, 0) else (⟨0, 0⟩, 18)
theorem back_le (l : List Pt) (hi : Int) : backR l hi ≤ hi := by
 have : ∀ (l : List Pt) (a : Int), l.foldl (fun lo z => if hi < z.y then min lo z.x else lo) a ≤ a := by
  intro l
  induction l with
  | nil => intro a; exact Int.le_refl _
  | cons z l ih =>
   intro a
   rw [List.foldl_cons]
   refine Int.le_trans (ih _) ?_
   split <;> omega
 exact this l hi
theorem back_spec (l : List Pt) (hi : Int) : (∀ z ∈ l, hi < z.y → backR l hi ≤ z.x) ∧ (backR l hi = hi ∨ ∃ z ∈ l, hi < z.y ∧ backR l hi = z.x) := by
 have mono : ∀ (l : List Pt) (a : Int), l.foldl (fun lo z => if hi < z.y then min lo z.x else lo) a ≤ a := by
  intro l
  induction l with
  | nil => intro a; exact Int.le_refl _
  | cons z l ih =>
   intro a
   rw [List.foldl_cons]
   refine Int.le_trans (ih _) ?_
   split <;> omega
 have : ∀ (l : List Pt) (a : Int), (∀ z ∈ l, hi < z.y → l.foldl (fun lo z => if hi < z.y then min lo z.x else lo) a ≤ z.x) ∧ (l.foldl (fun lo z => if hi < z.y then min lo z.x else lo) a = a ∨ ∃ z ∈ l, hi < z.y ∧ l.foldl (fun lo z => if hi < z.y then min lo z.x else lo) a = z.x) := by
  intro l
  induction l with
  | nil => intro a; exact ⟨fun z hz => (by cases hz), .inl rfl⟩
  | cons z l ih =>
   intro a
   rw [List.foldl_cons]
   obtain ⟨h1, h2⟩ := ih (if hi < z.y then min a z.x else a)
   refine ⟨fun y hy hlt => ?_, ?_⟩
   ·rcases List.mem_cons.1 hy with rfl | k
    ·have := mono l (if hi < y.y then min a y.x else a)
     rw [if_pos hlt] at this ⊢
     omega
    ·exact h1 y k hlt
   ·rcases h2 with h2 | ⟨y, hy, k1, k2⟩
    ·by_cases hz : hi < z.y
     ·rw [if_pos hz] at h2 ⊢
      by_cases hm : a ≤ z.x
      ·left; rw [h2]; omega
      ·right; exact ⟨z, by simp, hz, by rw [h2]; omega⟩
     ·rw [if_neg hz] at h2 ⊢
      exact .inl h2
    ·exact .inr ⟨y, by simp [hy], k1, k2⟩
 exact this l hi
def IsBest (zs : List Pt) (lo hi : Int) (S : Int → Prop) (z : Pt) : Prop :=
 S z.y ∧ z.y ≤ hi ∧ z.x = backR zs z.y ∧ lo < z.x ∧ ∀ h, S h → h ≤ hi → lo < backR zs h → z.y - z.x < h - backR zs h ∨ (z.y - z.x = h - backR zs h ∧ h ≤ z.y)
theorem bestGo_spec (zs : List Pt) (lo hi : Int) : ∀ (l : List Int) (S : Int → Prop) (s : Bool × Pt),
  ((s.1 = true ∧ IsBest zs lo hi S s.2) ∨ (s.1 = false ∧ ∀ h, S h → h ≤ hi → ¬ lo < backR zs h)) →
  (((l.foldl (bestStep zs lo hi) s).1 = true ∧ IsBest zs lo hi (fun h => S h ∨ h ∈ l) (l.foldl (bestStep zs lo hi) s).2) ∨ ((l.foldl (bestStep zs lo hi) s).1 = false ∧ ∀ h, (S h ∨ h ∈ l) → h ≤ hi → ¬ lo < backR zs h)) := by
 intro l
 induction l with
 | nil =>
  intro S s h
  have e : (fun h => S h ∨ h ∈ ([] : List Int)) = S := by funext h; simp
  rw [e]
  simpa using h
 | cons c l ih =>
  intro S s hs
  have e : (fun h => S h ∨ h ∈ c :: l) = (fun h => (S h ∨ h = c) ∨ h ∈ l) := by funext h; simp [or_assoc]
  rw [List.foldl_cons]
  have := ih (fun h => S h ∨ h = c) (bestStep zs lo hi s c) ?_
  ·rw [e]
   rcases this with h | ⟨h1, h2⟩
   ·exact .inl h
   ·refine .inr ⟨h1, fun h hh => h2 h ?_⟩
    rcases hh with k | k
    ·exact .inl (.inl k)
    ·rcases List.mem_cons.1 k with k | k
     ·exact .inl (.inr k)
     ·exact .inr k
  ·unfold bestStep
   by_cases hc : hi < c ∨ backR zs c ≤ lo
   ·rw [if_pos hc]
    rcases hs with ⟨h1, b1, b2, b3, b4, b5⟩ | ⟨h1, h2⟩
    ·refine .inl ⟨h1, .inl b1, b2, b3, b4, fun h hh k1 k2 => ?_⟩
     rcases hh with hh | rfl
     ·exact b5 h hh k1 k2
     ·omega
    ·refine .inr ⟨h1, fun h hh k1 => ?_⟩
     rcases hh with hh | rfl
     ·exact h2 h hh k1
     ·omega
   ·rw [if_neg hc]
    rcases hs with ⟨h1, b1, b2, b3, b4, b5⟩ | ⟨h1, h2⟩
    ·by_cases hq : s.1 = false ∨ (c - backR zs c - (s.2.y - s.2.x) < 0 ∨ c - backR zs c - (s.2.y - s.2.x) = 0 ∧ s.2.y < c)
     ·rw [if_pos hq]
      have hq' : c - backR zs c - (s.2.y - s.2.x) < 0 ∨ c - backR zs c - (s.2.y - s.2.x) = 0 ∧ s.2.y < c := by
       rcases hq with k | k
       ·rw [h1] at k; cases k
       ·exact k
      refine .inl ⟨rfl, .inr rfl, by show c ≤ hi; omega, rfl, by show lo < backR zs c; omega, fun h hh k1 k2 => ?_⟩
      show c - backR zs c < h - backR zs h ∨ (c - backR zs c = h - backR zs h ∧ h ≤ c)
      rcases hh with hh | rfl
      ·have := b5 h hh k1 k2; omega
      ·omega
     ·rw [if_neg hq]
      have hq' : ¬ (c - backR zs c - (s.2.y - s.2.x) < 0 ∨ c - backR zs c - (s.2.y - s.2.x) = 0 ∧ s.2.y < c) := fun k => hq (.inr k)
      refine .inl ⟨h1, .inl b1, b2, b3, b4, fun h hh k1 k2 => ?_⟩
      rcases hh with hh | rfl
      ·exact b5 h hh k1 k2
      ·omega
    ·rw [if_pos (.inl h1)]
     refine .inl ⟨rfl, .inr rfl, by show c ≤ hi; omega, rfl, by show lo < backR zs c; omega, fun h hh k1 k2 => ?_⟩
     show c - backR zs c < h - backR zs h ∨ (c - backR zs c = h - backR zs h ∧ h ≤ c)
     rcases hh with hh | rfl
     ·exact absurd k2 (h2 h hh k1)
     ·omega
end Go.Proofs.YtdhakoecjmaebaaGreat
