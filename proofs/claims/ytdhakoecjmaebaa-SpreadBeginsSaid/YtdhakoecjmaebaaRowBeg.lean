/-
  SpreadBegins: with one ply less of the last lot the lay is a beginning, and a roll that is added at the end changes nothing, and the arguments read as before. No condition.
-/
import Derived.Test.YtdhakoecjmaebaaU8
import Derived.Test.YtdhakoecjmaebaaLawBeg
namespace Go.Proofs.Ytdhakoecjmaebaa
open Go.ChangeShapes Go.WideShapes Go.ChangeAt Go.RowKit
set_option linter.unusedSimpArgs false
set_option linter.unusedVariables false

theorem readable_beg : ∀ t ∈ (Try.f3).params.toList, Try.prog.readableRec t = true ∧ t < Try.prog.types.size := by
  rw [Try.params3]
  intro t ht
  simp only [List.mem_cons, List.not_mem_nil, or_false] at ht
  rcases ht with rfl | rfl | rfl
  · exact ⟨by kernel_rfl, of_decide_eq_true (by kernel_rfl)⟩
  · exact ⟨by kernel_rfl, of_decide_eq_true (by kernel_rfl)⟩
  · exact ⟨by kernel_rfl, of_decide_eq_true (by kernel_rfl)⟩

set_option maxRecDepth 100000 in
theorem spreadBegins_lifted (hex : ∀ W, Calls Try.prog 6 #[] W (Ret (.bool true) W)) (os : Os) (started : os.Started) (H : Type) (enc : TypeId × Value → H) :
    ReturnsInHanded {} Try.checked os 3 .any (Rows.spreadBeginsSpec.pre6 enc Try.prog Try.f3 Rows.spreadBeginsRow.domain false) (Rows.spreadBeginsSpec.post enc Try.prog Try.f3 false true false false) := by
  refine returnsInHanded_of_change (C := Try.checked) prog_own started (by kernel_rfl) Try.func3
    (ChangeSpec.witness6 (enc := enc) (C := Try.checked) false ⟨#[], #[.agg #[.int .i64 0, .int .i64 0, .int .i64 0, .int .i64 0, .slice none 0 0, .slice none 0 0, .slice none 0 0, .slice none 0 0, .slice none 0 0, .slice none 0 0], .agg #[.string ⟨#[]⟩, .int .i64 0, .int .i64 0, .int .i64 0, .int .i64 0, .int .i64 0, .slice none 0 0], .int .u8 0], []⟩ 8 (by kernel_rfl) (by kernel_rfl) (by kernel_rfl) (by kernel_rfl)) ?_
  intro W base args ds gs before hval0 hW hcnd _
  have hval : ∀ (j : Nat) t v, Try.f3.params[j]? = some t → args[j]? = some v → Value.okWide Try.prog W .any base t v := hval0
  have hW' := hW
  obtain ⟨p, q, hA0, hV, rfl, hfz, hnd⟩ := hW
  have hA : DataW.TrodAll enc Try.prog W 0 (fun _ => true) true Try.f3.params.toList args.toList ds p := hA0
  rw [Try.params3] at hA hval
  obtain ⟨v0, v1, v2, d0, d1, d2, p0, p1, p2, rfl, rfl, rfl, h0, h1, h2⟩ := trodAll_three hA
  obtain ⟨cs0, rfl, hs0⟩ := okWide_struct Try.underlying31 (hval 0 31 v0 rfl rfl)
  obtain ⟨cs1, rfl, hs1⟩ := okWide_struct Try.underlying36 (hval 1 36 v1 rfl rfl)
  obtain ⟨n2, rfl⟩ := okWide_int Try.underlying5 (hval 2 5 v2 rfl rfl)
  obtain ⟨f0, h0⟩ := h0
  obtain ⟨f1, h1⟩ := h1
  obtain ⟨f2, h2⟩ := h2
  obtain ⟨c, e0, k0⟩ := case8_of_trod h0
  have e0' : Value.agg cs0 = c.agg := by
    unfold C8.agg
    try unfold C8.cells at e0
    congr 1
    rw [← Array.toList_inj]
    exact e0
  obtain ⟨x, e1, k1⟩ := roll_of_trod h1
  have e1' : Value.agg cs1 = x.agg := by
    unfold Rl.agg
    try unfold Rl.cells at e1
    congr 1
    rw [← Array.toList_inj]
    exact e1
  obtain ⟨n2', e2, _, hwf2⟩ := DataW.trod_int Try.underlying5 h2
  have hn2 : n2 = n2' := by
    have : [Value.int .u8 n2] = [.int .u8 n2'] := e2
    injection this with h _
    injection h
  subst hn2
  have hbd2 := u8_bd hwf2
  obtain ⟨n, rfl⟩ : ∃ m : Nat, n2 = (m : Int) := ⟨n2.toNat, by omega⟩
  rw [e0', e1'] at hW' ⊢
  refine (law38_SpreadBegins hex c x n W k0 k1 (by omega)).mono fun e W' ⟨he, hg⟩ => ?_
  subst he
  exact ⟨_, rfl, law_post rfl rfl rfl readable_beg hW' hg⟩

theorem spreadBegins_holds_of (hex : ∀ W, Calls Try.prog 6 #[] W (Ret (.bool true) W)) : Rows.SpreadBeginsSaid :=
  OpenClaim.holds_of_wide 3 Try.f3 rfl rfl rfl rfl rfl rfl rfl ⟨rfl, rfl, rfl, rfl, rfl⟩ rfl rfl rfl rfl rfl (by kernel_rfl) Try.func3 (by kernel_rfl)
    (of_decide_eq_true (by kernel_rfl)) (by unfold Func.isWrapper; first | (rw [if_pos (by decide +kernel)]; kernel_rfl) | (rw [if_neg (by decide +kernel)]; exact ⟨rfl, rfl⟩))
    (fun os started H enc _ => spreadBegins_lifted hex os started H enc)

end Go.Proofs.Ytdhakoecjmaebaa
