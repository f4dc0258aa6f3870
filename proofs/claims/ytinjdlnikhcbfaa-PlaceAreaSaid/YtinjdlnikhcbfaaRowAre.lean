/-
  PlaceArea: for every case, the polygons of a valid placement lie on the bed, do not overlap, keep their grain and their stripes, end before the bed's length, and have together at most the area of the bed, and the arguments read as before. No condition.
-/
import Derived.Test.YtinjdlnikhcbfaaLawAre
namespace Go.Proofs.Ytinjdlnikhcbfaa
open Go.ChangeShapes Go.WideShapes Go.ChangeAt Go.RowKit
set_option linter.unusedSimpArgs false
set_option linter.unusedVariables false

theorem readable_are : ∀ t ∈ (Try.f14).params.toList, Try.prog.readableRec t = true ∧ t < Try.prog.types.size := by
  rw [Try.params14]
  intro t ht
  simp only [List.mem_cons, List.not_mem_nil, or_false] at ht
  subst ht
  exact ⟨by kernel_rfl, of_decide_eq_true (by kernel_rfl)⟩

set_option maxRecDepth 100000 in
theorem placeArea_lifted (hex : ∀ W, Calls Try.prog 34 #[] W (Ret (.bool true) W)) (os : Os) (started : os.Started) (H : Type) (enc : TypeId × Value → H) :
    ReturnsInHanded {} Try.checked os 14 .any (Rows.placeAreaSpec.pre6 enc Try.prog Try.f14 Rows.placeAreaRow.domain false) (Rows.placeAreaSpec.post enc Try.prog Try.f14 false true false false) := by
  refine returnsInHanded_of_change (C := Try.checked) prog_own started (by kernel_rfl) Try.func14
    (ChangeSpec.witness6 (enc := enc) (C := Try.checked) false ⟨#[], #[.agg #[.int .i64 0, .int .i64 0, .int .i64 0, .int .i64 0, .slice none 0 0, .slice none 0 0]], []⟩ 8 (by kernel_rfl) (by kernel_rfl) (by kernel_rfl) (by kernel_rfl)) ?_
  intro W base args ds gs before hval0 hW hcnd _
  have hval : ∀ (j : Nat) t v, Try.f14.params[j]? = some t → args[j]? = some v → Value.okWide Try.prog W .any base t v := hval0
  have hW' := hW
  obtain ⟨p, q, hA0, hV, rfl, hfz, hnd⟩ := hW
  have hA : DataW.TrodAll enc Try.prog W 0 (fun _ => true) true Try.f14.params.toList args.toList ds p := hA0
  rw [Try.params14] at hA hval
  obtain ⟨v0, d0, rfl, rfl, h0⟩ := trodAll_one hA
  obtain ⟨cs0, rfl, hs0⟩ := okWide_struct Try.underlying83 (hval 0 83 v0 rfl rfl)
  obtain ⟨f0, h0⟩ := h0
  obtain ⟨c, e0, k0⟩ := case_of_trod h0
  have e0' : Value.agg cs0 = c.agg := by
    unfold Cs.agg
    try unfold Cs.cells at e0
    congr 1
    rw [← Array.toList_inj]
    exact e0
  rw [e0'] at hW' ⊢
  refine (law30_PlaceArea hex c W k0).mono fun e W' ⟨he, hg⟩ => ?_
  subst he
  exact ⟨_, rfl, law_post rfl rfl rfl readable_are hW' hg⟩

theorem placeArea_holds_of (hex : ∀ W, Calls Try.prog 34 #[] W (Ret (.bool true) W)) : Rows.PlaceAreaSaid :=
  OpenClaim.holds_of_wide 14 Try.f14 rfl rfl rfl rfl rfl rfl rfl ⟨rfl, rfl, rfl, rfl, rfl⟩ rfl rfl rfl rfl rfl (by kernel_rfl) Try.func14 (by kernel_rfl)
    (of_decide_eq_true (by kernel_rfl)) (by unfold Func.isWrapper; first | (rw [if_pos (by decide +kernel)]; kernel_rfl) | (rw [if_neg (by decide +kernel)]; exact ⟨rfl, rfl⟩))
    (fun os started H enc _ => placeArea_lifted hex os started H enc)

end Go.Proofs.Ytinjdlnikhcbfaa
