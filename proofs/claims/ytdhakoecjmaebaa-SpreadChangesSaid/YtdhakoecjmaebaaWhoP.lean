/-
  SpreadWhole: the plain law.
-/
import Derived.Test.YtdhakoecjmaebaaAwk8
namespace Go.Proofs.Ytdhakoecjmaebaa
open Go.RowKit
set_option linter.unusedSimpArgs false
set_option linter.unusedVariables false

/-- Each polygon lies wholly within one part of each ply. -/
theorem whole_of {len wd : Int} {polys : List (List Pt)} {rs : List Rl} {lots plies : List Int} {ys : List Pl} (h : LaidOk len wd polys rs lots plies ys) :
    ∀ y ∈ ys, ∀ p ∈ polys, checkI p = 0 ∧ 0 ≤ (loOf p).x ∧ (hiOf p).x ≤ len ∧ ∃ q ∈ y.2, q.d ≤ (loOf p).x ∧ (hiOf p).x ≤ endQ q := by
  intro y hy p hp
  obtain ⟨_, _, _, e4, e5⟩ := ext_zero h.ext
  obtain ⟨z1, z2⟩ := extGo_zero e4
  obtain ⟨c1, c2, c3⟩ := z1 p hp
  refine ⟨c1, c2, c3, ?_⟩
  have hm : (⟨(loOf p).x, (hiOf p).x⟩ : Pt) ∈ (extentsR len polys).1 := by
    rw [e5, z2, List.nil_append]
    exact List.mem_map.2 ⟨p, hp, rfl⟩
  exact (h.good y hy).1.whole _ hm c2 c3

end Go.Proofs.Ytdhakoecjmaebaa
