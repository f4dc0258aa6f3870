/-
  DamageMoves: for every part, roll, polygon and length the call returns true (moving the cloth of a part and all flaws of its roll by the same length changes nothing), and the arguments read as before. No condition.
-/
import Derived.Test.YtolddfapanabbaaLawMovB
namespace Go.Proofs.Ytolddfapanabbaa
open Go.ChangeShapes Go.WideShapes Go.ChangeAt Go.RowKit
set_option linter.unusedSimpArgs false
set_option linter.unusedVariables false

theorem law39_DamageMoves (hex : ∀ W, Calls Try.prog 15 #[] W (Ret (.bool true) W)) (x : Qd) (r : Rl) (A : Option Addr) (c : Nat) (ps : List Pt) (n : Int) (w : World)
    (hx : QdI x) (hr : RlOk w r) (hc : ps.length ≤ c) (hm : c ≤ maxLen) (hp : Pts w A ps) :
    Calls Try.prog 8 #[x.agg, r.agg, .slice A ps.length c, .int .i64 n] w (Ret (.bool true) w) := by
  obtain ⟨xa, xb, xc, xd⟩ := x
  obtain ⟨rid, rwd, rln, rtl, rta, rtb, fa, fc, fl⟩ := r
  unfold Qd.agg Rl.agg
  simp only []
  rcases Classical.em (fewB [⟨0, none, 1, [⟨xa, xb, xc, xd⟩]⟩] [⟨rid, rwd, rln, rtl, rta, rtb, fa, fc, fl⟩] [ps] = false ∨ xa ≠ 0 ∨ n < -1048576 ∨ 1048576 < n) with h | h
  · exact law39_DamageMoves_not xa xb xc xd n rid rwd rln rtl rta rtb fa fc fl A c ps w hex hr hx hc hm hp h
  · have h1 : fewB [⟨0, none, 1, [⟨xa, xb, xc, xd⟩]⟩] [⟨rid, rwd, rln, rtl, rta, rtb, fa, fc, fl⟩] [ps] = true := by
      rcases hf : fewB [⟨0, none, 1, [⟨xa, xb, xc, xd⟩]⟩] [⟨rid, rwd, rln, rtl, rta, rtb, fa, fc, fl⟩] [ps] with _ | _
      · exact absurd (.inl hf) h
      · rfl
    have h2 : xa = 0 ∧ -1048576 ≤ n ∧ n ≤ 1048576 := by
      refine ⟨?_, ?_, ?_⟩
      · rcases Classical.em (xa = 0) with k | k
        · exact k
        · exact absurd (.inr (.inl k)) h
      · rcases Int.lt_or_le n (-1048576) with k | k
        · exact absurd (.inr (.inr (.inl k))) h
        · exact k
      · rcases Int.lt_or_le 1048576 n with k | k
        · exact absurd (.inr (.inr (.inr k))) h
        · exact k
    obtain ⟨rfl, h3, h4⟩ := h2
    rcases Classical.em ((hitR [⟨0, xb, xc, xd⟩] [⟨rid, rwd, rln, rtl, rta, rtb, fa, fc, fl⟩] ps).2 = 0) with k | k
    · exact law39_DamageMoves_in xb xc xd n rid rwd rln rtl rta rtb fa fc fl A c ps w hex hr hx hc hm hp h1 h3 h4 k
    · exact law39_DamageMoves_err xb xc xd n rid rwd rln rtl rta rtb fa fc fl A c ps w hex hr hx hc hm hp h1 h3 h4 k

theorem readable_mov : ∀ t ∈ (Try.f8).params.toList, Try.prog.readableRec t = true ∧ t < Try.prog.types.size := by
  rw [Try.params8]
  intro t ht
  simp only [List.mem_cons, List.not_mem_nil, or_false] at ht
  rcases ht with rfl | rfl | rfl | rfl
  · exact ⟨by kernel_rfl, of_decide_eq_true (by kernel_rfl)⟩
  · exact ⟨by kernel_rfl, of_decide_eq_true (by kernel_rfl)⟩
  · exact ⟨by kernel_rfl, of_decide_eq_true (by kernel_rfl)⟩
  · exact ⟨by kernel_rfl, of_decide_eq_true (by kernel_rfl)⟩

set_option maxRecDepth 100000 in
theorem damageMoves_lifted (hex : ∀ W, Calls Try.prog 15 #[] W (Ret (.bool true) W)) (os : Os) (started : os.Started) (H : Type) (enc : TypeId × Value → H) :
    ReturnsInHanded {} Try.checked os 8 .any (Rows.damageMovesSpec.pre6 enc Try.prog Try.f8 Rows.damageMovesRow.domain false) (Rows.damageMovesSpec.post enc Try.prog Try.f8 false true false false) := by
  refine returnsInHanded_of_change (C := Try.checked) prog_own started (by kernel_rfl) Try.func8
    (ChangeSpec.witness6 (enc := enc) (C := Try.checked) false ⟨#[], #[.agg #[.int .i64 0, .int .i64 0, .int .i64 0, .int .i64 0], .agg #[.string ⟨#[]⟩, .int .i64 0, .int .i64 0, .int .i64 0, .int .i64 0, .int .i64 0, .slice none 0 0], .slice none 0 0, .int .i64 0], []⟩ 8 (by kernel_rfl) (by kernel_rfl) (by kernel_rfl) (by kernel_rfl)) ?_
  intro W base args ds gs before hval0 hW hcnd _
  have hval : ∀ (j : Nat) t v, Try.f8.params[j]? = some t → args[j]? = some v → Value.okWide Try.prog W .any base t v := hval0
  have hW' := hW
  obtain ⟨p, q, hA0, hV, rfl, hfz, hnd⟩ := hW
  have hA : DataW.TrodAll enc Try.prog W 0 (fun _ => true) true Try.f8.params.toList args.toList ds p := hA0
  rw [Try.params8] at hA hval
  obtain ⟨v0, v1, v2, v3, d0, d1, d2, d3, p0, p1, p2, p3, rfl, rfl, rfl, h0, h1, h2, h3⟩ := trodAll_four hA
  obtain ⟨cs0, rfl, hs0⟩ := okWide_struct Try.underlying62 (hval 0 62 v0 rfl rfl)
  obtain ⟨cs1, rfl, hs1⟩ := okWide_struct Try.underlying56 (hval 1 56 v1 rfl rfl)
  obtain ⟨a2, l2, c2, rfl⟩ := okWide_slice Try.underlying25 (hval 2 25 v2 rfl rfl)
  obtain ⟨n, rfl⟩ := okWide_int Try.underlying3 (hval 3 3 v3 rfl rfl)
  obtain ⟨f0, h0⟩ := h0
  obtain ⟨f1, h1⟩ := h1
  obtain ⟨f2, h2⟩ := h2
  obtain ⟨x, e0, hx⟩ := part_of_trod h0
  obtain ⟨r, e1, hr⟩ := roll_of_trod h1
  obtain ⟨A, c, ps, e2, hc, hm, hp, _⟩ := pts_of_trod h2
  have e0' : Value.agg cs0 = x.agg := by
    unfold Qd.agg
    congr 1
    rw [← Array.toList_inj]
    exact e0
  have e1' : Value.agg cs1 = r.agg := by
    unfold Rl.agg
    unfold Rl.cells at e1
    congr 1
    rw [← Array.toList_inj]
    exact e1
  have e2' : Value.slice a2 l2 c2 = .slice A ps.length c := by
    have : [Value.slice a2 l2 c2] = [.slice A ps.length c] := e2
    injection this
  rw [e0', e1', e2'] at hW' ⊢
  refine (law39_DamageMoves hex x r A c ps n W hx hr hc hm hp).mono fun e W' ⟨he, hg⟩ => ?_
  subst he
  exact ⟨_, rfl, law_post rfl rfl rfl readable_mov hW' hg⟩

theorem damageMoves_holds_of (hex : ∀ W, Calls Try.prog 15 #[] W (Ret (.bool true) W)) : Rows.DamageMovesSaid :=
  OpenClaim.holds_of_wide 8 Try.f8 rfl rfl rfl rfl rfl rfl rfl ⟨rfl, rfl, rfl, rfl, rfl⟩ rfl rfl rfl rfl rfl (by kernel_rfl) Try.func8 (by kernel_rfl)
    (of_decide_eq_true (by kernel_rfl)) (by unfold Func.isWrapper; first | (rw [if_pos (by decide +kernel)]; kernel_rfl) | (rw [if_neg (by decide +kernel)]; exact ⟨rfl, rfl⟩))
    (fun os started H enc _ => damageMoves_lifted hex os started H enc)

end Go.Proofs.Ytolddfapanabbaa
