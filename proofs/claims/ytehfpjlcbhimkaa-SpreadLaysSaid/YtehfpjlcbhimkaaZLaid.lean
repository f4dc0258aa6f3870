/-
  garmentlaw38.laid.
-/
import Derived.Test.YtehfpjlcbhimkaaZOpen38
namespace Go.Proofs.Ytehfpjlcbhimkaa
open Go.RowKit
set_option linter.unusedSimpArgs false
set_option linter.unusedVariables false

def spR (c : C8) : List Pl × List Qd × Int := spreadR c.len c.wd c.ps c.rs c.lots c.plies
theorem few8_all {c : C8} (h : few8 c = true) : c.plies.length ≤ 6 ∧ c.ps.length ≤ 6 ∧ c.rs.length ≤ 6 ∧ c.lots.length ≤ 8 ∧ c.sz.length ≤ 7 ∧ c.pl.length ≤ 8 ∧ ∀ p ∈ c.ps, p.length ≤ 12 := by
  unfold few8 at h
  rw [Bool.and_eq_true, decide_eq_true_iff] at h
  obtain ⟨a, b, d, _, f, g, k⟩ := f38_all h.2
  exact ⟨by omega, a, b, d, f, g, k⟩
theorem law38_spread (c : C8) (w : World) (hc : C8Ok w c) (hf : few8 c = true) :
    Calls Try.prog 15 #[.agg #[.int .i64 c.len, .int .i64 c.wd, .int .i64 c.rx, .int .i64 c.ry, .slice c.s1 c.sz.length c.c1, .slice c.s2 c.pl.length c.c2], .slice c.qa c.ps.length c.qc, .slice c.ra c.rs.length c.rc, .slice c.la c.lots.length c.lc, .slice c.aa c.plies.length c.ac] w
      (SpreadPost c.len c.wd c.rx c.ry c.sz c.pl (spR c) w) := by
  obtain ⟨a1, a2, a3, a4, a5, a6, a7⟩ := few8_all hf
  refine spread_Spread c.qa c.ra c.la c.s1 c.s2 c.aa c.qc c.rc c.lc c.c1 c.c2 c.ac c.len c.wd c.rx c.ry c.sz c.pl c.ps c.rs c.lots c.plies w (fun h => ?_) hc.sz (by omega) (fun h => ?_) hc.pl (by omega) hc.ps (fun p hp => by have := a7 p hp; omega) hc.rs (by omega) hc.lots (by omega) hc.plies (by omega)
  · rcases hl : c.sz with _ | ⟨n, l⟩
    · rfl
    · obtain ⟨b, o, e, _⟩ := hc.sz (by rw [hl]; simp)
      rw [h] at e; cases e
  · rcases hl : c.pl with _ | ⟨n, l⟩
    · rfl
    · obtain ⟨b, o, e, _⟩ := hc.pl (by rw [hl]; simp)
      rw [h] at e; cases e

end Go.Proofs.Ytehfpjlcbhimkaa
