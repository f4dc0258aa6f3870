/-
  garmentlaw38.laid in its two cases, and the bounds of the parts of a lay.
-/
import Derived.Test.YtdhakoecjmaebaaWhoP
import Derived.Test.YtdhakoecjmaebaaSprR
namespace Go.Proofs.Ytdhakoecjmaebaa
open Go.RowKit
set_option linter.unusedSimpArgs false
set_option linter.unusedVariables false

/-- Bounds of a part. -/
def QdB (q : Qd) : Prop := 0 ≤ q.a ∧ 0 ≤ q.b ∧ q.b < q.c ∧ q.c ≤ 1048576 ∧ 0 ≤ q.d ∧ q.d ≤ 1048576
theorem laid_part {len wd : Int} {polys : List (List Pt)} {rs : List Rl} {lots plies : List Int} {ys : List Pl} (h : LaidOk len wd polys rs lots plies ys) : ∀ y ∈ ys, ∀ p ∈ y.2, QdB p ∧ endQ p ≤ len := by
  intro y hy p hp
  obtain ⟨g1, g2⟩ := h.good y hy
  obtain ⟨c1, c2, c3, c4, c5⟩ := clothB_in (g2 p hp).1
  obtain ⟨m1, m2, m3, m4⟩ := g1.mem (by have := h.len1; omega) p hp
  obtain ⟨_, r2, _⟩ := chkRolls_zero h.rolls
  have hlt : p.a.toNat < rs.length := by omega
  have := (roll_ok (r2 _ (List.getElem_mem hlt))).2.2.2.1
  rw [grl_eq hlt] at c5
  have := h.len1
  exact ⟨⟨c1, c3, c4, by omega, m1, by omega⟩, m3⟩

def zeroLay : Value := .agg #[.int .i64 0, .int .i64 0, .int .i64 0, .int .i64 0, .slice none 0 0, .slice none 0 0, .slice none 0 0]
/-- What laid returns where there is a lay. -/
def LaidYes (c : C8) (w : World) (e : Ending) (w' : World) : Prop :=
  ∃ S1 c1 S2 c2 P pc X xc ys, e = .returned (.tuple #[.agg #[.int .i64 c.len, .int .i64 c.wd, .int .i64 c.rx, .int .i64 c.ry, .slice S1 c.sz.length c1, .slice S2 c.pl.length c2, .slice P ys.length pc], .slice X (spR c).2.1.length xc, .bool true]) ∧
    ys.map Py.pl = (spR c).1 ∧ ys.length ≤ 40 ∧ ys.length ≤ pc ∧ pc ≤ maxLen ∧ (spR c).2.1.length ≤ xc ∧ xc ≤ maxLen ∧ Plys w' P ys ∧ Qds w' X (spR c).2.1 ∧ Later w w'
theorem law38_laid_no (c : C8) (w : World) (hc : C8Ok w c) (h : ¬ (few8 c = true ∧ (spR c).2.2 = 0)) :
    Calls Try.prog 5 #[c.agg] w (Ret (.tuple #[.agg #[.int .i64 0, .int .i64 0, .int .i64 0, .int .i64 0, .slice none 0 0, .slice none 0 0, .slice none 0 0], .slice none 0 0, .bool false]) w) := by
  refine (law38_laid c w hc).mono fun e w' hp => ?_
  rcases hp with ⟨h1, _⟩ | ⟨_, h2, h3⟩
  · exact absurd h1 h
  · exact ⟨h2, h3⟩
/-- The lay of a case. -/
theorem laid_ok {c : C8} (h : (spR c).2.2 = 0) : LaidOk c.len c.wd c.ps c.rs c.lots c.plies (spR c).1 ∧ lotsGo c.len c.wd c.ps c.rs c.lots c.plies 0 = some (spR c).1 ∧ (spR c).2.1 = restsFrom (allQ (spR c).1) c.rs c.lots 0 := by
  obtain ⟨_, _, ys0, h0, hLk, hSp⟩ := spread_ok h
  have e : spR c = (ys0, restsFrom (allQ ys0) c.rs c.lots 0, 0) := hSp
  rw [e]
  exact ⟨hLk, h0, rfl⟩
theorem law38_laid_yes (c : C8) (w : World) (hc : C8Ok w c) (h1 : few8 c = true) (h2 : (spR c).2.2 = 0) :
    Calls Try.prog 5 #[c.agg] w (LaidYes c w) := by
  refine (law38_laid c w hc).mono fun e w' hp => ?_
  rcases hp with ⟨_, S1, d1, S2, d2, P, pc, X, xc, ys, h1, hys, _, _, _, _, p1, p2, p3, p4, _, _, h8, hx, h9⟩ | ⟨h1', _⟩
  · have hn : ys.length = (spR c).1.length := by rw [← hys, List.length_map]
    exact ⟨S1, d1, S2, d2, P, pc, X, xc, ys, h1, hys, by rw [hn]; exact (laid_ok h2).1.num, p1, p2, p3, p4, h8, hx, h9⟩
  · exact absurd ⟨h1, h2⟩ h1'

end Go.Proofs.Ytdhakoecjmaebaa
