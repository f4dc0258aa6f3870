/-
  Plain facts for SpreadChanges: a ply of another lot, a ply without one of its parts, a ply twice.
-/
import Derived.Test.YtdhakoecjmaebaaSprR
namespace Go.Proofs.Ytdhakoecjmaebaa
open Go.RowKit
set_option linter.unusedSimpArgs false
set_option linter.unusedVariables false

section
variable {len wd : Int} {polys : List (List Pt)} {rs : List Rl} {lots plies : List Int} {ys : List Pl}
theorem laid_other (h : LaidOk len wd polys rs lots plies ys) {i : Nat} (hi : i < ys.length) : scheckR len wd polys rs lots (ys.set i (ys[i].1 + 1, ys[i].2)) = 16 := by
  obtain ⟨g1, g2⟩ := h.good _ (List.getElem_mem hi)
  obtain ⟨q, r, e, _⟩ := g1.ne
  refine scheck_set h.check hi (other_ply (lot := ys[i].1) (by rw [e]; simp) (by omega) (fun p hp => ?_) g2) (by decide)
  have := g1.mem (by have := h.len1; omega) p hp
  omega
theorem laid_short (h : LaidOk len wd polys rs lots plies ys) {i : Nat} (hi : i < ys.length) {j : Nat} (hj : j < ys[i].2.length) : scheckR len wd polys rs lots (ys.set i (ys[i].1, ys[i].2.take j ++ ys[i].2.drop (j + 1))) = 20 := by
  obtain ⟨g1, g2⟩ := h.good _ (List.getElem_mem hi)
  refine scheck_set h.check hi ?_ (by decide)
  rw [← List.eraseIdx_eq_take_drop_succ]
  exact short_ply (prev := none) h.ext g1 (by omega) (by have := h.len1; omega) hj g2 rfl
theorem laid_double (h : LaidOk len wd polys rs lots plies ys) (hn : ys.length < 40) {i : Nat} (hi : i < ys.length) : scheckR len wd polys rs lots (ys ++ [ys[i]]) = 14 := by
  obtain ⟨g1, g2⟩ := h.good _ (List.getElem_mem hi)
  obtain ⟨q, r, e, _⟩ := g1.ne
  exact double_lay h.check hn (List.getElem_mem hi) ⟨q, by rw [e]; exact List.mem_cons_self .., (g1.mem (by have := h.len1; omega) q (by rw [e]; exact List.mem_cons_self ..)).2.2.2⟩
end

end Go.Proofs.Ytdhakoecjmaebaa
