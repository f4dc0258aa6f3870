/-
  The walk of garmentlaw39.plain: the rolls without their flaws, in new memory.
-/
import Derived.Test.YtinjdlnikhcbfaaAppR
import Derived.Test.YtinjdlnikhcbfaaDam
namespace Go.Proofs.Ytinjdlnikhcbfaa
open Go.RowKit
set_option linter.unusedSimpArgs false
set_option linter.unusedVariables false

def bare (r : Rl) : Rl := ⟨r.id, r.wd, r.ln, r.tl, r.ta, r.tb, none, 0, []⟩
theorem rl_cells (r : Rl) : r.cells.length = 7 := rfl
def PlainPost (rs : List Rl) (w : World) (e : Ending) (w' : World) : Prop := ∃ v, e = .returned v ∧ OwnR w' w.heap.size 60 7 Rl.cells v (rs.map bare) ∧ Later w w'
theorem info_roll : (Try.prog.info? 60).map (fun i => (i.zero, i.size, i.bytes)) = some (some (.agg #[.string ⟨#[]⟩, .int .i64 0, .int .i64 0, .int .i64 0, .int .i64 0, .int .i64 0, .slice none 0 0]), 7, 80) := by kernel_rfl
theorem new_seven (w : World) (a b c d e f g : Value) (t : TypeId) : ∀ j u, ([a, b, c, d, e, f, g] : List Value)[j]? = some u → (w.alloc (.cells #[a, b, c, d, e, f, g] t)).cell? ((⟨w.heap.size, 0, none⟩ : Addr).add j) = some u := by
  intro j u hu
  have h := Blk.new w t #[a, b, c, d, e, f, g]
  have ha : (⟨w.heap.size, 0, none⟩ : Addr).add j = ⟨w.heap.size, j, none⟩ := by
    unfold Addr.add
    split
    · rename_i h; rw [h]
    · simp
  rw [ha, h.cell j, ← hu, ← List.getElem?_toArray]
theorem bare_one (r : Rl) : ∀ u ∈ (bare r).cells, u.oneCell' = true := by
  intro u hu
  simp only [bare, Rl.cells, List.mem_cons, List.not_mem_nil, or_false] at hu
  rcases hu with rfl | rfl | rfl | rfl | rfl | rfl | rfl <;> rfl

end Go.Proofs.Ytinjdlnikhcbfaa
