/-
  The walk of the reference's test whether a polygon is simple.
  The walk of the reference's Check.
-/
import Derived.Test.YtdhakoecjmaebaaPoly
import Derived.BigRegion
/- The walk of the reference's test whether a polygon is simple. -/
namespace Go.Proofs.Ytdhakoecjmaebaa
open Go.RowKit
set_option linter.unusedSimpArgs false
set_option linter.unusedVariables false

def onP (a b q : Pt) : Bool := onB a.x a.y b.x b.y q.x q.y
def rinnerGo (ps : List Pt) (i : Nat) : Nat → Nat → Bool
  | 0, _ => false
  | f + 1, k => if ¬ (k + 1) % ps.length = i ∧ meetP (gp ps i) (gp ps ((i + 1) % ps.length)) (gp ps k) (gp ps ((k + 1) % ps.length)) = true then true else rinnerGo ps i f (k + 1)
/-- The reference's three tests at vertex i. -/
def badAt (ps : List Pt) (i : Nat) : Bool :=
  ((gp ps i).x == (gp ps ((i + 1) % ps.length)).x && (gp ps i).y == (gp ps ((i + 1) % ps.length)).y) || onP (gp ps i) (gp ps ((i + 1) % ps.length)) (gp ps ((i + 2) % ps.length)) || onP (gp ps ((i + 1) % ps.length)) (gp ps ((i + 2) % ps.length)) (gp ps i)
def routerGo (ps : List Pt) : Nat → Nat → Bool
  | 0, _ => true
  | f + 1, i => if badAt ps i then false else if rinnerGo ps i (ps.length - (i + 2)) (i + 2) then false else routerGo ps f (i + 1)
def rsimpleB (ps : List Pt) : Bool := routerGo ps ps.length 0

theorem router_bad {ps : List Pt} {i : Nat} (h : i < ps.length) (hf : badAt ps i = true) : routerGo ps (ps.length - i) i = false := by
  obtain ⟨f, hf'⟩ : ∃ f, ps.length - i = f + 1 := ⟨ps.length - i - 1, by omega⟩
  rw [hf', routerGo, if_pos hf]
theorem router_meets {ps : List Pt} {i : Nat} (h : i < ps.length) (hf : badAt ps i = false) (hm : rinnerGo ps i (ps.length - (i + 2)) (i + 2) = true) : routerGo ps (ps.length - i) i = false := by
  obtain ⟨f, hf'⟩ : ∃ f, ps.length - i = f + 1 := ⟨ps.length - i - 1, by omega⟩
  rw [hf', routerGo, hf, hm]; rfl
theorem router_step {ps : List Pt} {i : Nat} {x : Bool} (he : x = routerGo ps (ps.length - i) i) (h : i < ps.length) (hf : badAt ps i = false) (hm : rinnerGo ps i (ps.length - (i + 2)) (i + 2) = false) :
    x = routerGo ps (ps.length - (i + 1)) (i + 1) := by
  obtain ⟨f, hf'⟩ : ∃ f, ps.length - i = f + 1 := ⟨ps.length - i - 1, by omega⟩
  rw [he, hf', routerGo, hf, hm, show ps.length - (i + 1) = f by omega]; rfl
theorem rinner_hit {ps : List Pt} {i k : Nat} (h : k < ps.length) (hq : ¬ (k + 1) % ps.length = i) (hm : meetP (gp ps i) (gp ps ((i + 1) % ps.length)) (gp ps k) (gp ps ((k + 1) % ps.length)) = true) : rinnerGo ps i (ps.length - k) k = true := by
  obtain ⟨f, hf'⟩ : ∃ f, ps.length - k = f + 1 := ⟨ps.length - k - 1, by omega⟩
  rw [hf', rinnerGo, if_pos ⟨hq, hm⟩]
theorem rinner_step {ps : List Pt} {i k : Nat} (h : k < ps.length) (hq : (k + 1) % ps.length = i ∨ meetP (gp ps i) (gp ps ((i + 1) % ps.length)) (gp ps k) (gp ps ((k + 1) % ps.length)) = false) : rinnerGo ps i (ps.length - k) k = rinnerGo ps i (ps.length - (k + 1)) (k + 1) := by
  obtain ⟨f, hf'⟩ : ∃ f, ps.length - k = f + 1 := ⟨ps.length - k - 1, by omega⟩
  rw [hf', rinnerGo, if_neg, show ps.length - (k + 1) = f by omega]
  rintro ⟨h1, h2⟩
  rcases hq with hq | hq
  · exact h1 hq
  · rw [hq] at h2; cases h2


end Go.Proofs.Ytdhakoecjmaebaa

/- The walk of the reference's Check. -/
namespace Go.Proofs.Ytdhakoecjmaebaa
open Go.RowKit
set_option linter.unusedSimpArgs false
set_option linter.unusedVariables false

def rcheckI (ps : List Pt) : Int :=
  if 40 < ps.length then 5 else if ps.length < 3 then 11 else if ps.any (fun p => outsideB p.x p.y) then 3 else if rsimpleB ps then 0 else 11

end Go.Proofs.Ytdhakoecjmaebaa
