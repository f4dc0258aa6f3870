/-
 The walk of garmentlaw39.plain: the rolls without their flaws, in new memory.
 append of a list of records onto a row of one's own: at a step of a region that draws, and at a plain region's list.
-/
import Derived.Test.YtdhakoecjmaebaaGreatZNorm
namespace Go.Proofs.YtdhakoecjmaebaaGreat
open Go.RowKit
set_option linter.unusedSimpArgs false
set_option linter.unusedVariables false
def ListAt {α : Type} (w : World) (sz : Nat) (cells : α → List Value) (ok : World → α → Prop) (A : Option Addr) (l : List α) : Prop :=
 0 < l.length → ∃ b o, A = some ⟨b, o, none⟩ ∧ ∀ i a, l[i]? = some a → (∀ j v, (cells a)[j]? = some v → w.cell? ⟨b, o + i * sz + j, none⟩ = some v) ∧ ok w a
theorem ListAt.later {α : Type} {w w' : World} {sz : Nat} {cells : α → List Value} {ok : World → α → Prop} {A : Option Addr} {l : List α} (h : ListAt w sz cells ok A l) (hok : ∀ a, ok w a → ok w' a) (k : Later w w') : ListAt w' sz cells ok A l :=
 fun hn => let ⟨b, o, e, hc⟩ := h hn; ⟨b, o, e, fun i a hi => ⟨fun j v hv => k.cell ((hc i a hi).1 j v hv), hok a (hc i a hi).2⟩⟩
section
variable {α : Type} {cells : α → List Value} {sz : Nat}
theorem flat_len (hc : ∀ a, (cells a).length = sz) (l : List α) : (l.flatMap cells).length = l.length * sz := by
 induction l with
 | nil => simp
 | cons a l ih => rw [List.flatMap_cons, List.length_append, ih, hc, List.length_cons, Nat.succ_mul, Nat.add_comm]
theorem flat_at (hc : ∀ a, (cells a).length = sz) {l : List α} {i : Nat} {a : α} (h : l[i]? = some a) {j : Nat} {v : Value} (hv : (cells a)[j]? = some v) : (l.flatMap cells)[i * sz + j]? = some v := by
 have hj : j < sz := by rw [← hc a]; exact (List.getElem?_eq_some_iff.1 hv).1
 induction l generalizing i with
 | nil => simp at h
 | cons b l ih =>
  rw [List.flatMap_cons]
  cases i with
  | zero =>
   simp at h
   subst h
   rw [Nat.zero_mul, Nat.zero_add, List.getElem?_append_left (by rw [hc]; exact hj)]
   exact hv
  | succ i =>
   rw [List.getElem?_append_right (by rw [hc, Nat.succ_mul]; omega), hc, show (i + 1) * sz + j - sz = i * sz + j by rw [Nat.succ_mul]; omega]
   exact ih (by simpa using h)
def OwnR (w : World) (base : Nat) (E : TypeId) (sz : Nat) (cells : α → List Value) (v : Value) (l : List α) : Prop := w.ownsRow base E sz v l.length (l.flatMap cells)
theorem OwnR.later {w w' : World} {base : Nat} {E : TypeId} {v : Value} {l : List α} (h : OwnR w base E sz cells v l) (k : Later w w') : OwnR w' base E sz cells v l := by
 refine ⟨h.1, ?_⟩
 rcases h.2 with ⟨h1, h2⟩ | ⟨g, cap, cur, hv, hb, hg, r⟩
 ·exact .inl ⟨h1, h2⟩
 ·exact .inr ⟨g, cap, cur, hv, hb, (k.block g (by
   rcases Nat.lt_or_ge g w.heap.size with hlt | hge
   ·exact hlt
   ·rw [Array.getElem?_eq_none hge] at hg; cases hg)).trans hg, r⟩
theorem OwnR.form (hc : ∀ a, (cells a).length = sz) {w : World} {base : Nat} {E : TypeId} {v : Value} {l : List α} (h : OwnR w base E sz cells v l) :
  ∃ A c, v = .slice A l.length c ∧ l.length ≤ c ∧ c ≤ maxLen ∧ (0 < l.length → ∃ g, A = some ⟨g, 0, none⟩ ∧ base ≤ g ∧ g < w.heap.size ∧ (∀ j, w.frozen? ⟨g, j, none⟩ = false) ∧
   ∀ i a, l[i]? = some a → ∀ j u, (cells a)[j]? = some u → w.cell? ⟨g, 0 + i * sz + j, none⟩ = some u) := by
 rcases h.2 with ⟨h1, h2⟩ | ⟨g, cap, cur, hv, hb, hg, hnc, hcm, hcs, htake⟩
 ·exact ⟨none, 0, by rw [h1, h2], by omega, by unfold maxLen; omega, fun hn => by omega⟩
 ·have hlt : g < w.heap.size := by
   rcases Nat.lt_or_ge g w.heap.size with hlt | hge
   ·exact hlt
   ·rw [Array.getElem?_eq_none hge] at hg; cases hg
  subst hv
  have hown : w.ownsRow base E sz (.slice (some ⟨g, 0, none⟩) l.length cap) l.length (l.flatMap cells) := h
  refine ⟨some ⟨g, 0, none⟩, cap, rfl, hnc, hcm, fun _ => ⟨g, rfl, hb, hlt, fun j => hown.frozenAt j, fun i a ha j u hu => ?_⟩⟩
  have hi : i < l.length := (List.getElem?_eq_some_iff.1 ha).1
  have hj : j < sz := by rw [← hc a]; exact (List.getElem?_eq_some_iff.1 hu).1
  have hlt2 : i * sz + j < l.length * sz := by
   have : (i + 1) * sz ≤ l.length * sz := Nat.mul_le_mul_right _ (by omega)
   rw [Nat.succ_mul] at this
   omega
  rw [Nat.zero_add, hown.cellAt _ hlt2]
  exact flat_at hc ha hu
end
end Go.Proofs.YtdhakoecjmaebaaGreat
namespace Go.Proofs.YtdhakoecjmaebaaGreat
open Go.RowKit
set_option linter.unusedSimpArgs false
set_option linter.unusedVariables false
def SlT (P : Program) (t e : TypeId) (sz : Nat) : Prop := ∃ i z, P.underlying t = some (.slice e) ∧ P.info? e = some i ∧ i.zero = some z ∧ i.size = sz ∧ i.bytes ≤ 1024 ∧ z.cells.size = sz ∧ 0 < sz
theorem SlT.mk {P : Program} {t e : TypeId} {z : Value} {sz by_ : Nat} (h1 : P.underlying t = some (.slice e)) (h2 : (P.info? e).map (fun i => (i.zero, i.size, i.bytes)) = some (some z, sz, by_)) (h3 : by_ ≤ 1024) (h4 : z.cells.size = sz) (h5 : 0 < sz) : SlT P t e sz := by
 obtain ⟨i, hi, a, b, c⟩ := info_parts h2
 exact ⟨i, z, h1, hi, a, b, by omega, h4, h5⟩
def SrcAt (w : World) (A : Option Addr) (cs : List Value) : Prop := ∀ ad, A = some ad → ∀ j u, cs[j]? = some u → w.cell? (ad.add j) = some u
theorem add_plain (b o j : Nat) : (⟨b, o, none⟩ : Addr).add j = ⟨b, o + j, none⟩ := by unfold Addr.add; split <;> simp_all
theorem SrcAt.later {w w' : World} {A : Option Addr} {cs : List Value} (h : SrcAt w A cs) (k : Later w w') : SrcAt w' A cs := fun ad had j u hu => k.cell (h ad had j u hu)
theorem SrcAt.blk {w : World} {g : Nat} {t : TypeId} {cs : Array Value} (h : Blk w g t cs) : SrcAt w (some ⟨g, 0, none⟩) cs.toList := by
 intro ad had j u hu
 cases had
 rw [add_plain, Nat.zero_add, h.cell j]
 simpa using hu
section
variable {α : Type} {cells : α → List Value} {sz : Nat} {ok : World → α → Prop}
theorem flat_split (hc : ∀ a, (cells a).length = sz) {l : List α} {j : Nat} {u : Value} (h : (l.flatMap cells)[j]? = some u) : ∃ i k a, l[i]? = some a ∧ (cells a)[k]? = some u ∧ j = i * sz + k := by
 induction l generalizing j with
 | nil => simp at h
 | cons b l ih =>
  rw [List.flatMap_cons] at h
  rcases Nat.lt_or_ge j sz with hj | hj
  ·rw [List.getElem?_append_left (by rw [hc]; exact hj)] at h
   exact ⟨0, j, b, rfl, h, by omega⟩
  ·rw [List.getElem?_append_right (by rw [hc]; exact hj), hc] at h
   obtain ⟨i, k, a, h1, h2, h3⟩ := ih h
   exact ⟨i + 1, k, a, by simpa using h1, h2, by rw [Nat.succ_mul]; omega⟩
theorem one_flat (ho : ∀ a, ∀ u ∈ cells a, u.oneCell' = true) (l : List α) : ∀ u ∈ l.flatMap cells, u.oneCell' = true := by
 intro u hu
 obtain ⟨a, _, hu⟩ := List.mem_flatMap.1 hu
 exact ho a u hu
theorem run_append_none {P : Program} (w : World) (base : Nat) (t ty e : TypeId) (i : TypeInfo) (size : Nat) (ht : P.underlying t = some (.slice e)) (hi : P.info? e = some i) (v : Value) (n c : Nat) (xs : List Value) (hown : w.ownsRow base e size v n xs) :
  (Builtin.append_ #[t, t] ty #[v, .slice none 0 c]).run P w = .ok v w := by
 rcases hown.2 with ⟨rfl, rfl⟩ | ⟨g, cap, cur, rfl, _, _, hnc, _⟩
 ·simp [Builtin.append_, run_underlying ht, sizeOf, typeInfo, hi, Builtin.lenOf, Builtin.firstCells]
 ·simp [Builtin.append_, run_underlying ht, sizeOf, typeInfo, hi, Builtin.lenOf, Builtin.firstCells, hnc, storeCells]
theorem run_append_rec {P : Program} {t e : TypeId} (hT : SlT P t e sz) (hc : ∀ a, (cells a).length = sz) (ho : ∀ a, ∀ u ∈ cells a, u.oneCell' = true) (ty : TypeId) {w : World} {base : Nat} {v : Value} {l : List α} (hown : OwnR w base e sz cells v l)
  {A : Option Addr} {c : Nat} {news : List α} (hA : A = none → news.length = 0) (hs : SrcAt w A (news.flatMap cells)) (hn : l.length + news.length ≤ 65536) (hb : base ≤ w.heap.size) :
  ∃ A' c' w', (Builtin.append_ #[t, t] ty #[v, .slice A news.length c]).run P w = .ok (.slice A' (l ++ news).length c') w' ∧ OwnR w' base e sz cells (.slice A' (l ++ news).length c') (l ++ news) ∧ w.grownBy w' v.ownBlock := by
 obtain ⟨i, z, h1, h2, h3, h4, h5, h6, h7⟩ := hT
 cases A with
 | none =>
  have h0 : news = [] := List.eq_nil_of_length_eq_zero (hA rfl)
  subst h0
  obtain ⟨A', c', rfl, _⟩ := hown.form hc
  refine ⟨A', c', w, ?_, ?_, ⟨rfl, rfl, rfl, Nat.le_refl _, fun _ _ _ => rfl⟩⟩
  ·rw [List.append_nil]
   exact run_append_none w base t ty e i sz h1 h2 _ _ c _ hown
  ·rw [List.append_nil]; exact hown
 | some ad =>
  obtain ⟨v', w', hr, hw, hg, _, _⟩ := run_append_own_at (P := P) w base t ty e i z sz i.bytes h1 h2 h3 h4 rfl h6 h7 v l.length _ hown ad news.length c (news.flatMap cells) (flat_len hc _) (hs ad rfl) (one_flat ho _) (by unfold maxLen; omega) (by
   have : (l.length + news.length) * i.bytes ≤ 65536 * 1024 := Nat.mul_le_mul hn h5
   omega) hb
  have hw2 : OwnR w' base e sz cells v' (l ++ news) := by unfold OwnR; rw [List.flatMap_append, List.length_append]; exact hw
  obtain ⟨A', c', rfl, _⟩ := hw2.form hc
  exact ⟨A', c', w', hr, hw2, hg⟩
theorem wp_append_rec {P : Program} {t e : TypeId} (hT : SlT P t e sz) (hc : ∀ a, (cells a).length = sz) (hon : ∀ a, ∀ u ∈ cells a, u.oneCell' = true) {w : World} {o : Oper} {a : Act} {K : Act → World → Prop} {Q : Exit → Act → World → Prop} (s x : Operand)
  (ho : o.op = .call { callee := .builtin .append, args := #[s, x], argTypes := #[t, t] }) {base : Nat} {v : Value} {l : List α} (hv : a.eval s = v) (hown : OwnR w base e sz cells v l)
  {A : Option Addr} {c : Nat} (news : List α) (hx : a.eval x = .slice A news.length c) (hA : A = none → news.length = 0) (hs : SrcAt w A (news.flatMap cells)) (hn : l.length + news.length ≤ 65536) (hb : base ≤ w.heap.size)
  (h : ∀ A' c' w', OwnR w' base e sz cells (.slice A' (l ++ news).length c') (l ++ news) → w.grownBy w' v.ownBlock → K (a.put o.dst (.slice A' (l ++ news).length c')) w') : o.wp P a w K Q := by
 obtain ⟨A', c', w', hr, h2, h3⟩ := run_append_rec (P := P) hT hc hon o.type hown (c := c) hA hs hn hb
 unfold Oper.wp execOp
 simp only [ho, resolve, invoke, builtin, Sem.run_bind, Sem.run_pure, Result.andThen_ok, List.map_toArray, List.map_cons, List.map_nil, hv, hx, hr]
 exact h A' c' w' h2 h3
theorem wpList_append_rec {P : Program} {t e : TypeId} (hT : SlT P t e sz) (hc : ∀ a, (cells a).length = sz) (hon : ∀ a, ∀ u ∈ cells a, u.oneCell' = true) {w : World} {ops : Array Oper} {rest : List Oper} {o : Oper} {a : Act} {Q : Exit → Act → World → Prop} (hgd : o.guard = none) (s x : Operand)
  (ho : o.op = .call { callee := .builtin .append, args := #[s, x], argTypes := #[t, t] }) {base : Nat} {v : Value} {l : List α} (hv : a.eval s = v) (hown : OwnR w base e sz cells v l)
  {A : Option Addr} {c : Nat} (news : List α) (hx : a.eval x = .slice A news.length c) (hA : A = none → news.length = 0) (hs : SrcAt w A (news.flatMap cells)) (hn : l.length + news.length ≤ 65536) (hb : base ≤ w.heap.size)
  (h : ∀ A' c' w', OwnR w' base e sz cells (.slice A' (l ++ news).length c') (l ++ news) → w.grownBy w' v.ownBlock → wpList P ops Q rest (a.put o.dst (.slice A' (l ++ news).length c')) w') : wpList P ops Q (o :: rest) a w :=
 wpList_plain hgd fun _ hK => wp_append_rec hT hc hon s x ho hv hown news hx hA hs hn hb fun A' c' w' h2 h3 => hK _ _ (h A' c' w' h2 h3)
theorem step_append_rec {P : Program} {t e : TypeId} (hT : SlT P t e sz) (hc : ∀ a, (cells a).length = sz) (hon : ∀ a, ∀ u ∈ cells a, u.oneCell' = true) {w : World} {ops : Array Oper} {o : Oper} {a : Act} {K : Act → World → Prop} {Q : Exit → Act → World → Prop} {E : Prop} (hgd : o.guard = none) (s x : Operand)
  (ho : o.op = .call { callee := .builtin .append, args := #[s, x], argTypes := #[t, t] }) {base : Nat} {v : Value} {l : List α} (hv : a.eval s = v) (hown : OwnR w base e sz cells v l)
  {A : Option Addr} {c : Nat} (news : List α) (hx : a.eval x = .slice A news.length c) (hA : A = none → news.length = 0) (hs : SrcAt w A (news.flatMap cells)) (hn : l.length + news.length ≤ 65536) (hb : base ≤ w.heap.size)
  (h : ∀ A' c' w', OwnR w' base e sz cells (.slice A' (l ++ news).length c') (l ++ news) → w.grownBy w' v.ownBlock → K (a.put o.dst (.slice A' (l ++ news).length c')) w') :
  if Region.wanted o (yielded ops a.tmps) = true then Oper.wp P o a w K Q else E := by
 have hw : Region.wanted o (yielded ops a.tmps) = true := by simp [Region.wanted, hgd]
 rw [if_pos hw]
 exact wp_append_rec hT hc hon s x ho hv hown news hx hA hs hn hb h
theorem OwnR.lit {w : World} {base : Nat} {e : TypeId} (l : List α) (cs : Array Value) (hcs : cs.toList = l.flatMap cells) (hc : ∀ a, (cells a).length = sz) (hl : l.length ≤ 65536) (hb : base ≤ w.heap.size) {n : Nat} (hn : n = l.length) {g : Nat} (hg : w.heap.size = g) :
  OwnR (w.alloc (.cells cs e)) base e sz cells (.slice (some ⟨g, 0, none⟩) n n) l := by
 subst hg hn
 have := World.ownsRow_lit (base := base) (e := e) (size := sz) w cs l.length hb (by unfold maxLen; omega) (by rw [← Array.length_toList, hcs, flat_len hc])
 rw [hcs] at this
 exact this
end
section
variable {α : Type} {cells : α → List Value} {sz : Nat}
theorem OwnR.drew {w : World} {base : Nat} {E : TypeId} {v : Value} {l : List α} (h : OwnR w base E sz cells v l) : OwnR w.drew base E sz cells v l := h
theorem OwnR.alloc {w : World} {base : Nat} {E : TypeId} {v : Value} {l : List α} (h : OwnR w base E sz cells v l) (o : Obj) : OwnR (w.alloc o) base E sz cells v l := h.later ((Later.refl _).alloc _)
end
theorem Later.grown {a w w' : World} {row : Option Nat} (h : Later a w) (hg : w.grownBy w' row) (hr : ∀ k, row = some k → a.heap.size ≤ k) : Later a w' := Below.grown h hg h.size hr
theorem Blk.grown {w w' : World} {g : Nat} {t : TypeId} {cs : Array Value} {row : Option Nat} (h : Blk w g t cs) (hg : w.grownBy w' row) (hne : some g ≠ row) : Blk w' g t cs := (hg.block g h.lt hne).trans h
end Go.Proofs.YtdhakoecjmaebaaGreat
