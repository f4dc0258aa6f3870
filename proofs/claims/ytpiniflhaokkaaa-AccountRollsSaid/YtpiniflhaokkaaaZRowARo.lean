/-
  AccountRolls: Rolls returns the specified lengths or error for any lay, and the arguments read as before. No condition.
-/
import Derived.Test.YtpiniflhaokkaaaZLawARo
namespace Go.Proofs.Ytpiniflhaokkaaa
open Go.ChangeShapes Go.WideShapes Go.ChangeAt Go.RowKit
set_option linter.unusedSimpArgs false
set_option linter.unusedVariables false

theorem readable_aro : ∀ t ∈ (Try.f5).params.toList, Try.prog.readableRec t = true ∧ t < Try.prog.types.size := by
  rw [Try.params5]
  intro t ht
  simp only [List.mem_cons, List.not_mem_nil, or_false] at ht
  rcases ht with rfl | rfl
  · exact ⟨by kernel_rfl, of_decide_eq_true (by kernel_rfl)⟩
  · exact ⟨by kernel_rfl, of_decide_eq_true (by kernel_rfl)⟩

set_option maxRecDepth 100000 in
theorem accountRolls_lifted (hex : ∀ W, Calls Try.prog 17 #[] W (Ret (.bool true) W)) (os : Os) (started : os.Started) (H : Type) (enc : TypeId × Value → H) :
    ReturnsInHanded {} Try.checked os 5 .any (Rows.accountRollsSpec.pre6 enc Try.prog Try.f5 Rows.accountRollsRow.domain false) (Rows.accountRollsSpec.post enc Try.prog Try.f5 false true false false) := by
  refine returnsInHanded_of_change (C := Try.checked) prog_own started (by kernel_rfl) Try.func5
    (ChangeSpec.witness6 (enc := enc) (C := Try.checked) false ⟨#[], #[.agg #[.int .i64 0, .int .i64 0, .int .i64 0, .int .i64 0, .slice none 0 0, .slice none 0 0, .slice none 0 0, .slice none 0 0, .slice none 0 0, .slice none 0 0], .slice none 0 0], []⟩ 8 (by kernel_rfl) (by kernel_rfl) (by kernel_rfl) (by kernel_rfl)) ?_
  intro W base args ds gs before hval0 hW hcnd _
  have hval : ∀ (j : Nat) t v, Try.f5.params[j]? = some t → args[j]? = some v → Value.okWide Try.prog W .any base t v := hval0
  have hW' := hW
  obtain ⟨p, q, hA0, hV, rfl, hfz, hnd⟩ := hW
  have hA : DataW.TrodAll enc Try.prog W 0 (fun _ => true) true Try.f5.params.toList args.toList ds p := hA0
  rw [Try.params5] at hA hval
  obtain ⟨v0, v1, d0, d1, p0, p1, rfl, rfl, rfl, h0, h1⟩ := trodAll_two hA
  obtain ⟨cs0, rfl, hs0⟩ := okWide_struct Try.underlying31 (hval 0 31 v0 rfl rfl)
  obtain ⟨a1, l1, c1, rfl⟩ := okWide_slice Try.underlying37 (hval 1 37 v1 rfl rfl)
  obtain ⟨f0, h0⟩ := h0
  obtain ⟨f1, h1⟩ := h1
  obtain ⟨c, e0, k0⟩ := case8_of_trod h0
  have e0' : Value.agg cs0 = c.agg := by
    unfold C8.agg
    try unfold C8.cells at e0
    congr 1
    rw [← Array.toList_inj]
    exact e0
  obtain ⟨A1, c1', plies, e1, k1⟩ := plies_of_trod h1
  have e1' : Value.slice a1 l1 c1 = .slice A1 plies.length c1' := by
    have : [Value.slice a1 l1 c1] = [.slice A1 plies.length c1'] := e1
    injection this
  rw [e0', e1'] at hW' ⊢
  refine (law40_AccountRolls hex c A1 c1' plies W k0 k1).mono fun e W' ⟨he, hg⟩ => ?_
  subst he
  exact ⟨_, rfl, law_post rfl rfl rfl readable_aro hW' hg⟩

theorem accountRolls_holds_of (hex : ∀ W, Calls Try.prog 17 #[] W (Ret (.bool true) W)) : Rows.AccountRollsSaid :=
  OpenClaim.holds_of_wide 5 Try.f5 rfl rfl rfl rfl rfl rfl rfl ⟨rfl, rfl, rfl, rfl, rfl⟩ rfl rfl rfl rfl rfl (by kernel_rfl) Try.func5 (by kernel_rfl)
    (of_decide_eq_true (by kernel_rfl)) (by unfold Func.isWrapper; first | (rw [if_pos (by decide +kernel)]; kernel_rfl) | (rw [if_neg (by decide +kernel)]; exact ⟨rfl, rfl⟩))
    (fun os started H enc _ => accountRolls_lifted hex os started H enc)

end Go.Proofs.Ytpiniflhaokkaaa
