/-
  DamageClean: for every lay, rolls and polygons, without flaws nothing is damaged, and a flaw over a whole roll damages what it carries, and the arguments read as before. No condition.
-/
import Derived.Test.YtolddfapanabbaaLawCle
namespace Go.Proofs.Ytolddfapanabbaa
open Go.ChangeShapes Go.WideShapes Go.ChangeAt Go.RowKit
set_option linter.unusedSimpArgs false
set_option linter.unusedVariables false

theorem readable_cle : ∀ t ∈ (Try.f6).params.toList, Try.prog.readableRec t = true ∧ t < Try.prog.types.size := by
  rw [Try.params6]
  intro t ht
  simp only [List.mem_cons, List.not_mem_nil, or_false] at ht
  rcases ht with rfl | rfl | rfl
  · exact ⟨by kernel_rfl, of_decide_eq_true (by kernel_rfl)⟩
  · exact ⟨by kernel_rfl, of_decide_eq_true (by kernel_rfl)⟩
  · exact ⟨by kernel_rfl, of_decide_eq_true (by kernel_rfl)⟩

set_option maxRecDepth 100000 in
theorem damageClean_lifted (hex : ∀ W, Calls Try.prog 15 #[] W (Ret (.bool true) W)) (os : Os) (started : os.Started) (H : Type) (enc : TypeId × Value → H) :
    ReturnsInHanded {} Try.checked os 6 .any (Rows.damageCleanSpec.pre6 enc Try.prog Try.f6 Rows.damageCleanRow.domain false) (Rows.damageCleanSpec.post enc Try.prog Try.f6 false true false false) := by
  refine returnsInHanded_of_change (C := Try.checked) prog_own started (by kernel_rfl) Try.func6
    (ChangeSpec.witness6 (enc := enc) (C := Try.checked) false ⟨#[], #[.agg #[.int .i64 0, .int .i64 0, .int .i64 0, .int .i64 0, .slice none 0 0, .slice none 0 0, .slice none 0 0], .slice none 0 0, .slice none 0 0], []⟩ 8 (by kernel_rfl) (by kernel_rfl) (by kernel_rfl) (by kernel_rfl)) ?_
  intro W base args ds gs before hval0 hW hcnd _
  have hval : ∀ (j : Nat) t v, Try.f6.params[j]? = some t → args[j]? = some v → Value.okWide Try.prog W .any base t v := hval0
  have hW' := hW
  obtain ⟨p, q, hA0, hV, rfl, hfz, hnd⟩ := hW
  have hA : DataW.TrodAll enc Try.prog W 0 (fun _ => true) true Try.f6.params.toList args.toList ds p := hA0
  rw [Try.params6] at hA hval
  obtain ⟨v0, v1, v2, d0, d1, d2, p0, p1, p2, rfl, rfl, rfl, h0, h1, h2⟩ := trodAll_three hA
  obtain ⟨cs0, rfl, hs0⟩ := okWide_struct Try.underlying45 (hval 0 45 v0 rfl rfl)
  obtain ⟨a1, l1, c1, rfl⟩ := okWide_slice Try.underlying34 (hval 1 34 v1 rfl rfl)
  obtain ⟨a2, l2, c2, rfl⟩ := okWide_slice Try.underlying28 (hval 2 28 v2 rfl rfl)
  obtain ⟨f0, h0⟩ := h0
  obtain ⟨f1, h1⟩ := h1
  obtain ⟨f2, h2⟩ := h2
  obtain ⟨y, e0, k0⟩ := lay_of_trod h0
  have e0' : Value.agg cs0 = y.agg := by
    unfold Ly.agg
    try unfold Ly.cells at e0
    congr 1
    rw [← Array.toList_inj]
    exact e0
  obtain ⟨A1, c1', rs, e1, k1⟩ := rolls_of_trod h1
  have e1' : Value.slice a1 l1 c1 = .slice A1 rs.length c1' := by
    have : [Value.slice a1 l1 c1] = [.slice A1 rs.length c1'] := e1
    injection this
  obtain ⟨A2, c2', ps, e2, k2⟩ := polys_of_trod h2
  have e2' : Value.slice a2 l2 c2 = .slice A2 ps.length c2' := by
    have : [Value.slice a2 l2 c2] = [.slice A2 ps.length c2'] := e2
    injection this
  rw [e0', e1', e2'] at hW' ⊢
  refine (law39_DamageClean hex y A1 c1' rs A2 c2' ps W k0 k1 k2).mono fun e W' ⟨he, hg⟩ => ?_
  subst he
  exact ⟨_, rfl, law_post rfl rfl rfl readable_cle hW' hg⟩

theorem damageClean_holds_of (hex : ∀ W, Calls Try.prog 15 #[] W (Ret (.bool true) W)) : Rows.DamageCleanSaid :=
  OpenClaim.holds_of_wide 6 Try.f6 rfl rfl rfl rfl rfl rfl rfl ⟨rfl, rfl, rfl, rfl, rfl⟩ rfl rfl rfl rfl rfl (by kernel_rfl) Try.func6 (by kernel_rfl)
    (of_decide_eq_true (by kernel_rfl)) (by unfold Func.isWrapper; first | (rw [if_pos (by decide +kernel)]; kernel_rfl) | (rw [if_neg (by decide +kernel)]; exact ⟨rfl, rfl⟩))
    (fun os started H enc _ => damageClean_lifted hex os started H enc)

end Go.Proofs.Ytolddfapanabbaa
