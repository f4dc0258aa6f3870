/-
  PlaceLimits: for every bed and number the call returns true (more than MaxPlaces puts are too long, no puts are valid on any bed), and the arguments read as before. No condition.
-/
import Derived.Test.YtolddfapanabbaaLawLim
import Derived.Test.YtolddfapanabbaaOpen39
namespace Go.Proofs.Ytolddfapanabbaa
open Go.ChangeShapes Go.WideShapes Go.ChangeAt Go.RowKit
set_option linter.unusedSimpArgs false
set_option linter.unusedVariables false

section
variable {H : Type} {enc : TypeId × Value → H} {w : World} {base : Nat} {spare : Nat → Bool} {held : Bool} {n : Nat} {cs : List Value} {x : DataW H × List MemPlace}
theorem repeat_of_trod (h : DataW.trod enc Try.prog w base spare held n 39 cs = some x) : ∃ a b, cs = [.int .i64 a, .int .i64 b] ∧ I64 a ∧ I64 b := by
  obtain ⟨hl, hf⟩ := open_field Try.underlying39 h
  have hF : Flds enc w base spare held _ cs := hf
  rw [show Try.prog.cellsOf 39 = 2 by kernel_rfl] at hl
  obtain ⟨a, ha, ia⟩ := hF.int 0 0 3 rfl rfl rfl cells_int Try.underlying3
  obtain ⟨b, hb, ib⟩ := hF.int 1 1 3 rfl rfl rfl cells_int Try.underlying3
  exact ⟨a, b, list2 hl ha hb, ia, ib⟩
theorem bed_of_trod (h : DataW.trod enc Try.prog w base spare held n 68 cs = some x) : ∃ b : Bd, cs = [.int .i64 b.l, .int .i64 b.w, .int .i64 b.rx, .int .i64 b.ry] ∧ I64 b.l ∧ I64 b.w ∧ I64 b.rx ∧ I64 b.ry := by
  obtain ⟨hl, hf⟩ := open_field Try.underlying68 h
  have hF : Flds enc w base spare held _ cs := hf
  rw [show Try.prog.cellsOf 68 = 4 by kernel_rfl] at hl
  obtain ⟨a, ha, ia⟩ := hF.int 0 0 3 rfl rfl rfl cells_int Try.underlying3
  obtain ⟨b, hb, ib⟩ := hF.int 1 1 3 rfl rfl rfl cells_int Try.underlying3
  obtain ⟨m, y, hm⟩ := hF.sub 2 2 2 39 rfl rfl rfl (by kernel_rfl)
  obtain ⟨c, d, e, ic, id⟩ := repeat_of_trod hm
  exact ⟨⟨a, b, c, d⟩, list4 hl ha hb (takeK (j := 0) e (by omega) rfl) (takeK (j := 1) e (by omega) rfl), ia, ib, ic, id⟩
end

theorem readable_lim : ∀ t ∈ (Try.f11).params.toList, Try.prog.readableRec t = true ∧ t < Try.prog.types.size := by
  rw [Try.params11]
  intro t ht
  simp only [List.mem_cons, List.not_mem_nil, or_false] at ht
  rcases ht with rfl | rfl
  · exact ⟨by kernel_rfl, of_decide_eq_true (by kernel_rfl)⟩
  · exact ⟨by kernel_rfl, of_decide_eq_true (by kernel_rfl)⟩

theorem u8_bd {n : Int} (h : (Lit.int .u8 n).wf = true) : 0 ≤ n ∧ n ≤ 255 := by
  simp [Lit.wf, IntKind.min, IntKind.max, IntKind.signed, IntKind.bits] at h
  omega

set_option maxRecDepth 100000 in
theorem placeLimits_lifted (hex : ∀ W, Calls Try.prog 29 #[] W (Ret (.bool true) W)) (os : Os) (started : os.Started) (H : Type) (enc : TypeId × Value → H) :
    ReturnsInHanded {} Try.checked os 11 .any (Rows.placeLimitsSpec.pre6 enc Try.prog Try.f11 Rows.placeLimitsRow.domain false) (Rows.placeLimitsSpec.post enc Try.prog Try.f11 false true false false) := by
  refine returnsInHanded_of_change (C := Try.checked) prog_own started (by kernel_rfl) Try.func11
    (ChangeSpec.witness6 (enc := enc) (C := Try.checked) false ⟨#[], #[.agg #[.int .i64 0, .int .i64 0, .int .i64 0, .int .i64 0], .int .u8 0], []⟩ 8 (by kernel_rfl) (by kernel_rfl) (by kernel_rfl) (by kernel_rfl)) ?_
  intro W base args ds gs before hval0 hW hcnd _
  have hval : ∀ (j : Nat) t v, Try.f11.params[j]? = some t → args[j]? = some v → Value.okWide Try.prog W .any base t v := hval0
  have hW' := hW
  obtain ⟨p, q, hA0, hV, rfl, hfz, hnd⟩ := hW
  have hA : DataW.TrodAll enc Try.prog W 0 (fun _ => true) true Try.f11.params.toList args.toList ds p := hA0
  rw [Try.params11] at hA hval
  obtain ⟨v0, v1, d0, d1, p0, p1, rfl, rfl, rfl, h0, h1⟩ := trodAll_two hA
  obtain ⟨cs0, rfl, hs0⟩ := okWide_struct Try.underlying68 (hval 0 68 v0 rfl rfl)
  obtain ⟨n, rfl⟩ := okWide_int Try.underlying5 (hval 1 5 v1 rfl rfl)
  obtain ⟨f0, h0⟩ := h0
  obtain ⟨f1, h1⟩ := h1
  obtain ⟨b, e0, _⟩ := bed_of_trod h0
  obtain ⟨n', e1, _, hwf⟩ := DataW.trod_int Try.underlying5 h1
  have hn : n = n' := by
    have : [Value.int .u8 n] = [.int .u8 n'] := e1
    injection this with h _
    injection h
  subst hn
  have hbd := u8_bd hwf
  obtain ⟨m, rfl⟩ : ∃ m : Nat, n = (m : Int) := ⟨n.toNat, by omega⟩
  have e0' : Value.agg cs0 = b.agg := by
    unfold Bd.agg
    congr 1
    rw [← Array.toList_inj]
    exact e0
  rw [e0'] at hW' ⊢
  refine (law30_PlaceLimits hex b m W (by omega)).mono fun e W' ⟨he, hg⟩ => ?_
  subst he
  exact ⟨_, rfl, law_post rfl rfl rfl readable_lim hW' hg⟩

theorem placeLimits_holds_of (hex : ∀ W, Calls Try.prog 29 #[] W (Ret (.bool true) W)) : Rows.PlaceLimitsSaid :=
  OpenClaim.holds_of_wide 11 Try.f11 rfl rfl rfl rfl rfl rfl rfl ⟨rfl, rfl, rfl, rfl, rfl⟩ rfl rfl rfl rfl rfl (by kernel_rfl) Try.func11 (by kernel_rfl)
    (of_decide_eq_true (by kernel_rfl)) (by unfold Func.isWrapper; first | (rw [if_pos (by decide +kernel)]; kernel_rfl) | (rw [if_neg (by decide +kernel)]; exact ⟨rfl, rfl⟩))
    (fun os started H enc _ => placeLimits_lifted hex os started H enc)

end Go.Proofs.Ytolddfapanabbaa
