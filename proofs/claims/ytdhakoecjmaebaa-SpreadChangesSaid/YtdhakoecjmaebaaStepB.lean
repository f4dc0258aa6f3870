/-
  Stores into rows of the call's own; beginnings of lists; rows of rolls.
-/
import Derived.Test.YtdhakoecjmaebaaSprH
namespace Go.Proofs.Ytdhakoecjmaebaa
open Go.RowKit
set_option linter.unusedSimpArgs false
set_option linter.unusedVariables false

theorem ints_set (l : List Int) : ∀ (k : Nat) (n : Int), (l.set k n).flatMap i1 = (l.flatMap i1).set k (.int .i64 n) := by
  induction l with
  | nil => intro k n; rfl
  | cons a l ih =>
    intro k n
    cases k with
    | zero => rfl
    | succ k =>
      rw [List.set_cons_succ, List.flatMap_cons, List.flatMap_cons, ih]
      rfl
theorem OwnR.setInt {w : World} {base g c : Nat} {E : TypeId} {l : List Int} (h : OwnR w base E 1 i1 (.slice (some ⟨g, 0, none⟩) l.length c) l) (k : Nat) (n : Int) :
    OwnR (w.setCell ⟨g, k, none⟩ (.int .i64 n)) base E 1 i1 (.slice (some ⟨g, 0, none⟩) l.length c) (l.set k n) := by
  obtain ⟨h1, _⟩ := World.ownsRow.stored (show w.ownsRow base E 1 _ l.length (l.flatMap i1) from h) k (.int .i64 n)
  unfold OwnR
  rw [ints_set, List.length_set]
  exact h1
theorem plys_set (l : List Py) : ∀ (k : Nat) (y : Py), (l.set k y).flatMap Py.cells = ((l.flatMap Py.cells).set (k * 2) (.int .i64 y.lot)).set (k * 2 + 1) (.slice y.pa y.parts.length y.pc) := by
  induction l with
  | nil => intro k y; rfl
  | cons a l ih =>
    intro k y
    cases k with
    | zero => rfl
    | succ k =>
      rw [List.set_cons_succ, List.flatMap_cons, List.flatMap_cons, ih, show (k + 1) * 2 = k * 2 + 1 + 1 by omega]
      rfl
theorem OwnR.setPly {w : World} {base g c : Nat} {E : TypeId} {l : List Py} (h : OwnR w base E 2 Py.cells (.slice (some ⟨g, 0, none⟩) l.length c) l) (k : Nat) (y : Py) :
    OwnR ((w.setCell ⟨g, k * 2, none⟩ (.int .i64 y.lot)).setCell ⟨g, k * 2 + 1, none⟩ (.slice y.pa y.parts.length y.pc)) base E 2 Py.cells (.slice (some ⟨g, 0, none⟩) l.length c) (l.set k y) := by
  obtain ⟨h1, _⟩ := World.ownsRow.stored (show w.ownsRow base E 2 _ l.length (l.flatMap Py.cells) from h) (k * 2) (.int .i64 y.lot)
  obtain ⟨h2, _⟩ := h1.stored (k * 2 + 1) (.slice y.pa y.parts.length y.pc)
  unfold OwnR
  rw [plys_set, List.length_set]
  exact h2
/-- A row of one's own with an element lies at a block. -/
theorem OwnR.blk {α : Type} {cells : α → List Value} {sz : Nat} (hc : ∀ a, (cells a).length = sz) {w : World} {base : Nat} {E : TypeId} {v : Value} {l : List α} (h : OwnR w base E sz cells v l) (hn : 0 < l.length) :
    ∃ g c, v = .slice (some ⟨g, 0, none⟩) l.length c ∧ l.length ≤ c ∧ c ≤ maxLen ∧ base ≤ g ∧ g < w.heap.size ∧ ∀ j, w.frozen? ⟨g, j, none⟩ = false := by
  obtain ⟨A, c, e, h1, h2, h3⟩ := h.form hc
  obtain ⟨g, rfl, k1, k2, k3, _⟩ := h3 hn
  exact ⟨g, c, e, h1, h2, k1, k2, k3⟩
theorem OwnR.ints2 {w : World} {base : Nat} {E : TypeId} {A : Option Addr} {n c : Nat} {l : List Int} (h : OwnR w base E 1 i1 (.slice A n c) l) : Ints w A l := by
  obtain ⟨A', c', e, _, _, h3⟩ := h.ints
  cases e
  exact h3
theorem ListAt.take {α : Type} {w : World} {sz : Nat} {cells : α → List Value} {ok : World → α → Prop} {A : Option Addr} {l : List α} (h : ListAt w sz cells ok A l) (n : Nat) : ListAt w sz cells ok A (l.take n) := fun hn => by
  obtain ⟨b, o, e, hx⟩ := h (by rw [List.length_take] at hn; omega)
  exact ⟨b, o, e, fun i a ha => hx i a (by rw [List.getElem?_take] at ha; split at ha; exact ha; cases ha)⟩
theorem rl_len (r : Rl) : r.cells.length = 7 := rfl
theorem rl_one (r : Rl) : ∀ u ∈ r.cells, u.oneCell' = true := by
  intro u hu
  simp only [Rl.cells, List.mem_cons, List.not_mem_nil, or_false] at hu
  rcases hu with rfl | rfl | rfl | rfl | rfl | rfl | rfl <;> rfl
theorem slt_rolls : SlT Try.prog 29 36 7 := SlT.mk (z := .agg #[.string ⟨#[]⟩, .int .i64 0, .int .i64 0, .int .i64 0, .int .i64 0, .int .i64 0, .slice none 0 0]) (by_ := 80) Try.underlying29 (by kernel_rfl) (by omega) rfl (by omega)

section
variable {α : Type} {cells : α → List Value} {sz : Nat} {P : Program} {ops : Array Oper} {Q : Exit → Act → World → Prop} {md : Region.Mode} {S : World → Prop}
/-- One of several operations that are ready: an append. -/
theorem ready_app' {t e : TypeId} (hT : SlT P t e sz) (hc : ∀ a, (cells a).length = sz) (hon : ∀ a, ∀ u ∈ cells a, u.oneCell' = true) {i d : Nat} {o : Oper} {fuel : Nat} {listed : Array Bool} {a : Act} {w : World} {rs : List Nat}
    (ho : ops[i]? = some o) (hd : o.dst = some d) (hgd : o.guard = none) (s x : Operand)
    (hop : o.op = .call { callee := .builtin .append, args := #[s, x], argTypes := #[t, t] }) {base : Nat} {v : Value} {l : List α} (hv : a.eval s = v) (hown : OwnR w base e sz cells v l)
    {A : Option Addr} {c : Nat} (news : List α) (hx : a.eval x = .slice A news.length c) (hA : A = none → news.length = 0) (hs : SrcAt w A (news.flatMap cells)) (hn : l.length + news.length ≤ 65536) (hb : base ≤ w.heap.size)
    (h : ∀ A' c' w', OwnR w' base e sz cells (.slice A' (l ++ news).length c') (l ++ news) → w.grownBy w' v.ownBlock → S w' ∧ (S w' → wpAnyH P md ops Q S fuel (listed.setIfInBounds i true) (a.put (some d) (.slice A' (l ++ news).length c')) w'))
    (hrs : AllReadyH P md ops Q S fuel listed a w rs) : AllReadyH P md ops Q S fuel listed a w (i :: rs) := by
  refine AllReadyH.cons ho (fun K hK => ?_) hrs
  refine step_append_rec hT hc hon hgd s x hop hv hown news hx hA hs hn hb ?_
  intro A' c' w' h1 h2
  obtain ⟨k1, k2⟩ := h A' c' w' h1 h2
  exact hK.out _ _ k1 (fun h' => hd.symm ▸ k2 h')
theorem ready_val3 {i d : Nat} {o : Oper} {v : Value} {fuel : Nat} {listed : Array Bool} {a : Act} {w w' : World} {rs : List Nat} (ho : ops[i]? = some o) (hd : o.dst = some d) (hw : Region.wanted o (yielded ops a.tmps) = true) (he : (execOp a.eval o).run P w = .ok (.value v) w') (hS : S w')
    (h : wpAnyH P md ops Q S fuel (listed.setIfInBounds i true) (a.put (some d) v) w') (hs : AllReadyH P md ops Q S fuel listed a w rs) : AllReadyH P md ops Q S fuel listed a w (i :: rs) :=
  ready_val' ho hw he hS (hd.symm ▸ h) hs
/-- The only operation that is ready: a store. -/
theorem store_at {i : Nat} {o : Oper} {fuel : Nat} {listed : Array Bool} {a : Act} {w w' : World} (hr : Region.ready md ops listed = [i]) (ho : ops[i]? = some o) (hd : o.dst = none)
    (hw : Region.wanted o (yielded ops a.tmps) = true) (he : (execOp a.eval o).run P w = .ok .skip w') (hS : S w')
    (h : wpAnyH P md ops Q S fuel (listed.setIfInBounds i true) a w') : wpAnyH P md ops Q S (fuel + 1) listed a w := by
  refine wpAnyH_ready hr (by simp) (AllReadyH.cons ho (fun K hK => ?_) AllReadyH.nil)
  rw [if_pos hw]
  unfold Oper.wp
  rw [he]
  have := hK.out a w' hS (fun _ => h)
  rw [Oper.upon_skip, hd]
  exact this
end

end Go.Proofs.Ytdhakoecjmaebaa
