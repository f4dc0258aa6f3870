/-
  DamageCarried: for every lay, rolls, lots and polygons, in a lay that spread.Check accepts each polygon has a carrier of the ply's lot in each ply and the table has no error, and the arguments read as before. No condition.
-/
import Derived.Test.YtinjdlnikhcbfaaLawCad
namespace Go.Proofs.Ytinjdlnikhcbfaa
open Go.ChangeShapes Go.WideShapes Go.ChangeAt Go.RowKit
set_option linter.unusedSimpArgs false
set_option linter.unusedVariables false

theorem readable_cad : ∀ t ∈ (Try.f11).params.toList, Try.prog.readableRec t = true ∧ t < Try.prog.types.size := by
  rw [Try.params11]
  intro t ht
  simp only [List.mem_cons, List.not_mem_nil, or_false] at ht
  rcases ht with rfl | rfl | rfl | rfl
  · exact ⟨by kernel_rfl, of_decide_eq_true (by kernel_rfl)⟩
  · exact ⟨by kernel_rfl, of_decide_eq_true (by kernel_rfl)⟩
  · exact ⟨by kernel_rfl, of_decide_eq_true (by kernel_rfl)⟩
  · exact ⟨by kernel_rfl, of_decide_eq_true (by kernel_rfl)⟩

set_option maxRecDepth 100000 in
theorem damageCarried_lifted (hex : ∀ W, Calls Try.prog 30 #[] W (Ret (.bool true) W)) (os : Os) (started : os.Started) (H : Type) (enc : TypeId × Value → H) :
    ReturnsInHanded {} Try.checked os 11 .any (Rows.damageCarriedSpec.pre6 enc Try.prog Try.f11 Rows.damageCarriedRow.domain false) (Rows.damageCarriedSpec.post enc Try.prog Try.f11 false true false false) := by
  refine returnsInHanded_of_change (C := Try.checked) prog_own started (by kernel_rfl) Try.func11
    (ChangeSpec.witness6 (enc := enc) (C := Try.checked) false ⟨#[], #[.agg #[.int .i64 0, .int .i64 0, .int .i64 0, .int .i64 0, .slice none 0 0, .slice none 0 0, .slice none 0 0], .slice none 0 0, .slice none 0 0, .slice none 0 0], []⟩ 8 (by kernel_rfl) (by kernel_rfl) (by kernel_rfl) (by kernel_rfl)) ?_
  intro W base args ds gs before hval0 hW hcnd _
  have hval : ∀ (j : Nat) t v, Try.f11.params[j]? = some t → args[j]? = some v → Value.okWide Try.prog W .any base t v := hval0
  have hW' := hW
  obtain ⟨p, q, hA0, hV, rfl, hfz, hnd⟩ := hW
  have hA : DataW.TrodAll enc Try.prog W 0 (fun _ => true) true Try.f11.params.toList args.toList ds p := hA0
  rw [Try.params11] at hA hval
  obtain ⟨v0, v1, v2, v3, d0, d1, d2, d3, p0, p1, p2, p3, rfl, rfl, rfl, h0, h1, h2, h3⟩ := trodAll_four hA
  obtain ⟨cs0, rfl, hs0⟩ := okWide_struct Try.underlying36 (hval 0 36 v0 rfl rfl)
  obtain ⟨a1, l1, c1, rfl⟩ := okWide_slice Try.underlying29 (hval 1 29 v1 rfl rfl)
  obtain ⟨a2, l2, c2, rfl⟩ := okWide_slice Try.underlying24 (hval 2 24 v2 rfl rfl)
  obtain ⟨a3, l3, c3, rfl⟩ := okWide_slice Try.underlying28 (hval 3 28 v3 rfl rfl)
  obtain ⟨f0, h0⟩ := h0
  obtain ⟨f1, h1⟩ := h1
  obtain ⟨f2, h2⟩ := h2
  obtain ⟨f3, h3⟩ := h3
  obtain ⟨y, e0, k0⟩ := lay_of_trod h0
  have e0' : Value.agg cs0 = y.agg := by
    unfold Ly.agg
    try unfold Ly.cells at e0
    congr 1
    rw [← Array.toList_inj]
    exact e0
  obtain ⟨A1, c1', rs, e1, k1⟩ := rolls_of_trod h1
  have e1' : Value.slice a1 l1 c1 = .slice A1 rs.length c1' := by
    have : [Value.slice a1 l1 c1] = [.slice A1 rs.length c1'] := e1
    injection this
  obtain ⟨A2, c2', lots, e2, k2⟩ := ints_of_trod h2
  have e2' : Value.slice a2 l2 c2 = .slice A2 lots.length c2' := by
    have : [Value.slice a2 l2 c2] = [.slice A2 lots.length c2'] := e2
    injection this
  obtain ⟨A3, c3', ps, e3, k3⟩ := polys_of_trod h3
  have e3' : Value.slice a3 l3 c3 = .slice A3 ps.length c3' := by
    have : [Value.slice a3 l3 c3] = [.slice A3 ps.length c3'] := e3
    injection this
  rw [e0', e1', e2', e3'] at hW' ⊢
  refine (law39_DamageCarried hex y A1 c1' rs A2 c2' lots A3 c3' ps W k0 k1 k2 k3).mono fun e W' ⟨he, hg⟩ => ?_
  subst he
  exact ⟨_, rfl, law_post rfl rfl rfl readable_cad hW' hg⟩

theorem damageCarried_holds_of (hex : ∀ W, Calls Try.prog 30 #[] W (Ret (.bool true) W)) : Rows.DamageCarriedSaid :=
  OpenClaim.holds_of_wide 11 Try.f11 rfl rfl rfl rfl rfl rfl rfl ⟨rfl, rfl, rfl, rfl, rfl⟩ rfl rfl rfl rfl rfl (by kernel_rfl) Try.func11 (by kernel_rfl)
    (of_decide_eq_true (by kernel_rfl)) (by unfold Func.isWrapper; first | (rw [if_pos (by decide +kernel)]; kernel_rfl) | (rw [if_neg (by decide +kernel)]; exact ⟨rfl, rfl⟩))
    (fun os started H enc _ => damageCarried_lifted hex os started H enc)

end Go.Proofs.Ytinjdlnikhcbfaa
