/-
 The walks of spread.checkPlies, slices.Clone (numbers), spread.remnants.
-/
import Derived.Test.YtdhakoecjmaebaaGreatZSprR
import Derived.Test.YtdhakoecjmaebaaGreatZAppR
import Derived.Test.YtdhakoecjmaebaaGreatZDam
namespace Go.Proofs.YtdhakoecjmaebaaGreat
open Go.RowKit
set_option linter.unusedSimpArgs false
set_option linter.unusedVariables false
def qd4 (q : Qd) : List Value := [.int .i64 q.a, .int .i64 q.b, .int .i64 q.c, .int .i64 q.d]
theorem qd4_len (q : Qd) : (qd4 q).length = 4 := rfl
theorem qd4_one (q : Qd) : ∀ u ∈ qd4 q, u.oneCell' = true := by
 intro u hu
 simp only [qd4, List.mem_cons, List.not_mem_nil, or_false] at hu
 rcases hu with rfl | rfl | rfl | rfl <;> rfl
theorem slt_part : SlT Tryz.prog 93 92 4 := SlT.mk (z := .agg #[.int .i64 0, .int .i64 0, .int .i64 0, .int .i64 0]) (by_ := 32) Tryz.underlying93 (by kernel_rfl) (by omega) rfl (by omega)
theorem slt_rest : SlT Tryz.prog 147 192 4 := SlT.mk (z := .agg #[.int .i64 0, .int .i64 0, .int .i64 0, .int .i64 0]) (by_ := 32) Tryz.underlying147 (by kernel_rfl) (by omega) rfl (by omega)
theorem OwnR.qds {w : World} {base : Nat} {E : TypeId} {v : Value} {l : List Qd} (h : OwnR w base E 4 qd4 v l) : ∃ A c, v = .slice A l.length c ∧ l.length ≤ c ∧ c ≤ maxLen ∧ Qds w A l := by
 obtain ⟨A, c, e, h1, h2, h3⟩ := h.form qd4_len
 refine ⟨A, c, e, h1, h2, fun hn => ?_⟩
 obtain ⟨g, rfl, _, _, _, hx⟩ := h3 hn
 exact ⟨g, 0, rfl, fun i p hp => ⟨hx i p hp 0 _ rfl, hx i p hp 1 _ rfl, hx i p hp 2 _ rfl, hx i p hp 3 _ rfl⟩⟩
end Go.Proofs.YtdhakoecjmaebaaGreat
namespace Go.Proofs.YtdhakoecjmaebaaGreat
open Go.RowKit
set_option linter.unusedSimpArgs false
set_option linter.unusedVariables false
theorem QdsAt.block {w w' : World} {g o : Nat} {l : List Qd} (h : QdsAt w g o l) (he : w'.heap[g]? = w.heap[g]?) : QdsAt w' g o l := fun i p hp => by
 have hc : ∀ j, w'.cell? ⟨g, j, none⟩ = w.cell? ⟨g, j, none⟩ := fun j => World.cell?_of_block (a := ⟨g, j, Option.none⟩) he
 rw [hc, hc, hc, hc]
 exact h i p hp
def LeftAt (w : World) (g : Nat) (A : Option Addr) (l : List Qd) : Prop := 0 < l.length → ∃ o, A = some ⟨g, o, none⟩ ∧ QdsAt w g o l
theorem LeftAt.later {w w' : World} {g : Nat} {A : Option Addr} {l : List Qd} (h : LeftAt w g A l) (k : Later w w') : LeftAt w' g A l := fun hn => let ⟨o, e, hx⟩ := h hn; ⟨o, e, hx.later k⟩
theorem QdsAt.tail {w : World} {b o : Nat} {r : Qd} {l : List Qd} (h : QdsAt w b o (r :: l)) : QdsAt w b (o + 4) l := fun i p hp => by
 have := h (i + 1) p (by simpa using hp)
 rw [show o + (i + 1) * 4 = o + 4 + i * 4 by omega] at this
 exact this
theorem LeftAt.tail {w : World} {g o c : Nat} {r : Qd} {l : List Qd} (h : QdsAt w g o (r :: l)) (hc : (r :: l).length ≤ c) : LeftAt w g (if c = 1 then some ⟨g, o, none⟩ else some ⟨g, o + 4, none⟩) l := by
 intro hn
 rw [List.length_cons] at hc
 rw [if_neg (by omega)]
 exact ⟨o + 4, rfl, h.tail⟩
end Go.Proofs.YtdhakoecjmaebaaGreat
namespace Go.Proofs.YtdhakoecjmaebaaGreat
open Go.RowKit
set_option linter.unusedSimpArgs false
set_option linter.unusedVariables false
theorem OwnR.ofBlk {α : Type} {cells : α → List Value} {sz : Nat} {w w' : World} {base : Nat} {E : TypeId} {v : Value} {l : List α} (h : OwnR w base E sz cells v l) (hb : ∀ g, v.ownBlock = some g → w'.heap[g]? = w.heap[g]?) : OwnR w' base E sz cells v l := by
 refine ⟨h.1, ?_⟩
 rcases h.2 with ⟨h1, h2⟩ | ⟨g, cap, cur, hv, hbg, hg, r⟩
 ·exact .inl ⟨h1, h2⟩
 ·exact .inr ⟨g, cap, cur, hv, hbg, (hb g (by rw [hv]; rfl)).trans hg, r⟩
section
variable {P : Program} {ops : Array Oper} {Q : Exit → Act → World → Prop} {md : Region.Mode} {S : World → Prop}
theorem ready_val' {i : Nat} {o : Oper} {v : Value} {fuel : Nat} {listed : Array Bool} {a : Act} {w w' : World} {rs : List Nat} (ho : ops[i]? = some o) (hw : Region.wanted o (yielded ops a.tmps) = true) (he : (execOp a.eval o).run P w = .ok (.value v) w') (hS : S w')
  (h : wpAnyH P md ops Q S fuel (listed.setIfInBounds i true) (a.put o.dst v) w') (hs : AllReadyH P md ops Q S fuel listed a w rs) : AllReadyH P md ops Q S fuel listed a w (i :: rs) := by
 refine AllReadyH.cons ho (fun K hK => ?_) hs
 rw [if_pos hw]
 unfold Oper.wp
 rw [he]
 exact hK.out _ _ hS (fun _ => h)
end
section
variable {α : Type} {cells : α → List Value} {sz : Nat} {P : Program} {ops : Array Oper} {Q : Exit → Act → World → Prop} {md : Region.Mode} {S : World → Prop}
theorem append_at {t e : TypeId} (hT : SlT P t e sz) (hc : ∀ a, (cells a).length = sz) (hon : ∀ a, ∀ u ∈ cells a, u.oneCell' = true) {i d : Nat} {o : Oper} {fuel : Nat} {listed : Array Bool} {a : Act} {w : World}
  (hr : Region.ready md ops listed = [i]) (ho : ops[i]? = some o) (hd : o.dst = some d) (hgd : o.guard = none) (s x : Operand)
  (hop : o.op = .call { callee := .builtin .append, args := #[s, x], argTypes := #[t, t] }) {base : Nat} {v : Value} {l : List α} (hv : a.eval s = v) (hown : OwnR w base e sz cells v l)
  {A : Option Addr} {c : Nat} (news : List α) (hx : a.eval x = .slice A news.length c) (hA : A = none → news.length = 0) (hs : SrcAt w A (news.flatMap cells)) (hn : l.length + news.length ≤ 65536) (hb : base ≤ w.heap.size)
  (h : ∀ A' c' w', OwnR w' base e sz cells (.slice A' (l ++ news).length c') (l ++ news) → w.grownBy w' v.ownBlock → S w' ∧ (S w' → wpAnyH P md ops Q S fuel (listed.setIfInBounds i true) (a.put (some d) (.slice A' (l ++ news).length c')) w')) :
  wpAnyH P md ops Q S (fuel + 1) listed a w := by
 refine wpAnyH_ready hr (by simp) (AllReadyH.cons ho (fun K hK => ?_) AllReadyH.nil)
 refine step_append_rec hT hc hon hgd s x hop hv hown news hx hA hs hn hb ?_
 intro A' c' w' h1 h2
 obtain ⟨k1, k2⟩ := h A' c' w' h1 h2
 exact hK.out _ _ k1 (fun h' => hd.symm ▸ k2 h')
theorem val_at {i d : Nat} {o : Oper} {v : Value} {fuel : Nat} {listed : Array Bool} {a : Act} {w w' : World} (hr : Region.ready md ops listed = [i]) (ho : ops[i]? = some o) (hd : o.dst = some d)
  (hw : Region.wanted o (yielded ops a.tmps) = true) (he : (execOp a.eval o).run P w = .ok (.value v) w') (hS : S w')
  (h : wpAnyH P md ops Q S fuel (listed.setIfInBounds i true) (a.put (some d) v) w') : wpAnyH P md ops Q S (fuel + 1) listed a w :=
 wpAnyH_ready hr (by simp) (ready_val' ho hw he hS (hd.symm ▸ h) AllReadyH.nil)
end
end Go.Proofs.YtdhakoecjmaebaaGreat
