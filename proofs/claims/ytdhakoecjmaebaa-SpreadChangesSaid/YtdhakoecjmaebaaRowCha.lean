/-
  SpreadChanges: a lay is not accepted with a ply of another lot, without a part of one of its plies, or with a ply twice, and the arguments read as before. No condition.
-/
import Derived.Test.YtdhakoecjmaebaaU8
import Derived.Test.YtdhakoecjmaebaaLawCha
namespace Go.Proofs.Ytdhakoecjmaebaa
open Go.ChangeShapes Go.WideShapes Go.ChangeAt Go.RowKit
set_option linter.unusedSimpArgs false
set_option linter.unusedVariables false

theorem readable_cha : ∀ t ∈ (Try.f4).params.toList, Try.prog.readableRec t = true ∧ t < Try.prog.types.size := by
  rw [Try.params4]
  intro t ht
  simp only [List.mem_cons, List.not_mem_nil, or_false] at ht
  rcases ht with rfl | rfl
  · exact ⟨by kernel_rfl, of_decide_eq_true (by kernel_rfl)⟩
  · exact ⟨by kernel_rfl, of_decide_eq_true (by kernel_rfl)⟩

set_option maxRecDepth 100000 in
theorem spreadChanges_lifted (hex : ∀ W, Calls Try.prog 6 #[] W (Ret (.bool true) W)) (os : Os) (started : os.Started) (H : Type) (enc : TypeId × Value → H) :
    ReturnsInHanded {} Try.checked os 4 .any (Rows.spreadChangesSpec.pre6 enc Try.prog Try.f4 Rows.spreadChangesRow.domain false) (Rows.spreadChangesSpec.post enc Try.prog Try.f4 false true false false) := by
  refine returnsInHanded_of_change (C := Try.checked) prog_own started (by kernel_rfl) Try.func4
    (ChangeSpec.witness6 (enc := enc) (C := Try.checked) false ⟨#[], #[.agg #[.int .i64 0, .int .i64 0, .int .i64 0, .int .i64 0, .slice none 0 0, .slice none 0 0, .slice none 0 0, .slice none 0 0, .slice none 0 0, .slice none 0 0], .int .u8 0], []⟩ 8 (by kernel_rfl) (by kernel_rfl) (by kernel_rfl) (by kernel_rfl)) ?_
  intro W base args ds gs before hval0 hW hcnd _
  have hval : ∀ (j : Nat) t v, Try.f4.params[j]? = some t → args[j]? = some v → Value.okWide Try.prog W .any base t v := hval0
  have hW' := hW
  obtain ⟨p, q, hA0, hV, rfl, hfz, hnd⟩ := hW
  have hA : DataW.TrodAll enc Try.prog W 0 (fun _ => true) true Try.f4.params.toList args.toList ds p := hA0
  rw [Try.params4] at hA hval
  obtain ⟨v0, v1, d0, d1, p0, p1, rfl, rfl, rfl, h0, h1⟩ := trodAll_two hA
  obtain ⟨cs0, rfl, hs0⟩ := okWide_struct Try.underlying31 (hval 0 31 v0 rfl rfl)
  obtain ⟨n1, rfl⟩ := okWide_int Try.underlying5 (hval 1 5 v1 rfl rfl)
  obtain ⟨f0, h0⟩ := h0
  obtain ⟨f1, h1⟩ := h1
  obtain ⟨c, e0, k0⟩ := case8_of_trod h0
  have e0' : Value.agg cs0 = c.agg := by
    unfold C8.agg
    try unfold C8.cells at e0
    congr 1
    rw [← Array.toList_inj]
    exact e0
  obtain ⟨n1', e1, _, hwf1⟩ := DataW.trod_int Try.underlying5 h1
  have hn1 : n1 = n1' := by
    have : [Value.int .u8 n1] = [.int .u8 n1'] := e1
    injection this with h _
    injection h
  subst hn1
  have hbd1 := u8_bd hwf1
  obtain ⟨k, rfl⟩ : ∃ m : Nat, n1 = (m : Int) := ⟨n1.toNat, by omega⟩
  rw [e0'] at hW' ⊢
  refine (law38_SpreadChanges hex c k W k0 (by omega)).mono fun e W' ⟨he, hg⟩ => ?_
  subst he
  exact ⟨_, rfl, law_post rfl rfl rfl readable_cha hW' hg⟩

theorem spreadChanges_holds_of (hex : ∀ W, Calls Try.prog 6 #[] W (Ret (.bool true) W)) : Rows.SpreadChangesSaid :=
  OpenClaim.holds_of_wide 4 Try.f4 rfl rfl rfl rfl rfl rfl rfl ⟨rfl, rfl, rfl, rfl, rfl⟩ rfl rfl rfl rfl rfl (by kernel_rfl) Try.func4 (by kernel_rfl)
    (of_decide_eq_true (by kernel_rfl)) (by unfold Func.isWrapper; first | (rw [if_pos (by decide +kernel)]; kernel_rfl) | (rw [if_neg (by decide +kernel)]; exact ⟨rfl, rfl⟩))
    (fun os started H enc _ => spreadChanges_lifted hex os started H enc)

end Go.Proofs.Ytdhakoecjmaebaa
