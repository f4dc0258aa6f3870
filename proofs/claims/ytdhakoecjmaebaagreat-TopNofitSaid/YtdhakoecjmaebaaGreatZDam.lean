/-
  The walk of garmentlaw39.plain: the rolls without their flaws, in new memory.
  append of a list of records onto a row of one's own: at a step of a region that draws, and at a plain region's list.
-/
import Derived.Test.YtdhakoecjmaebaaGreatZNorm
import Derived.Test.YtdhakoecjmaebaaGreatZHits
/- The walk of garmentlaw39.plain: the rolls without their flaws, in new memory. -/
namespace Go.Proofs.YtdhakoecjmaebaaGreat
open Go.RowKit
set_option linter.unusedSimpArgs false
set_option linter.unusedVariables false

/-- A slice of that address reads as l: the record a has the cells `cells a`, and ok holds of it. -/
def ListAt {α : Type} (w : World) (sz : Nat) (cells : α → List Value) (ok : World → α → Prop) (A : Option Addr) (l : List α) : Prop :=
  0 < l.length → ∃ b o, A = some ⟨b, o, none⟩ ∧ ∀ i a, l[i]? = some a → (∀ j v, (cells a)[j]? = some v → w.cell? ⟨b, o + i * sz + j, none⟩ = some v) ∧ ok w a
theorem ListAt.later {α : Type} {w w' : World} {sz : Nat} {cells : α → List Value} {ok : World → α → Prop} {A : Option Addr} {l : List α} (h : ListAt w sz cells ok A l) (hok : ∀ a, ok w a → ok w' a) (k : Later w w') : ListAt w' sz cells ok A l :=
  fun hn => let ⟨b, o, e, hc⟩ := h hn; ⟨b, o, e, fun i a hi => ⟨fun j v hv => k.cell ((hc i a hi).1 j v hv), hok a (hc i a hi).2⟩⟩

section
variable {α : Type} {cells : α → List Value} {sz : Nat}
theorem flat_len (hc : ∀ a, (cells a).length = sz) (l : List α) : (l.flatMap cells).length = l.length * sz := by
  induction l with
  | nil => simp
  | cons a l ih => rw [List.flatMap_cons, List.length_append, ih, hc, List.length_cons, Nat.succ_mul, Nat.add_comm]
theorem flat_at (hc : ∀ a, (cells a).length = sz) {l : List α} {i : Nat} {a : α} (h : l[i]? = some a) {j : Nat} {v : Value} (hv : (cells a)[j]? = some v) : (l.flatMap cells)[i * sz + j]? = some v := by
  have hj : j < sz := by rw [← hc a]; exact (List.getElem?_eq_some_iff.1 hv).1
  induction l generalizing i with
  | nil => simp at h
  | cons b l ih =>
    rw [List.flatMap_cons]
    cases i with
    | zero =>
      simp at h
      subst h
      rw [Nat.zero_mul, Nat.zero_add, List.getElem?_append_left (by rw [hc]; exact hj)]
      exact hv
    | succ i =>
      rw [List.getElem?_append_right (by rw [hc, Nat.succ_mul]; omega), hc, show (i + 1) * sz + j - sz = i * sz + j by rw [Nat.succ_mul]; omega]
      exact ih (by simpa using h)
/-- v is a slice of a row of records from base on that nobody else holds. -/
def OwnR (w : World) (base : Nat) (E : TypeId) (sz : Nat) (cells : α → List Value) (v : Value) (l : List α) : Prop := w.ownsRow base E sz v l.length (l.flatMap cells)
theorem OwnR.later {w w' : World} {base : Nat} {E : TypeId} {v : Value} {l : List α} (h : OwnR w base E sz cells v l) (k : Later w w') : OwnR w' base E sz cells v l := by
  refine ⟨h.1, ?_⟩
  rcases h.2 with ⟨h1, h2⟩ | ⟨g, cap, cur, hv, hb, hg, r⟩
  · exact .inl ⟨h1, h2⟩
  · exact .inr ⟨g, cap, cur, hv, hb, (k.block g (by
      rcases Nat.lt_or_ge g w.heap.size with hlt | hge
      · exact hlt
      · rw [Array.getElem?_eq_none hge] at hg; cases hg)).trans hg, r⟩
theorem OwnR.form (hc : ∀ a, (cells a).length = sz) {w : World} {base : Nat} {E : TypeId} {v : Value} {l : List α} (h : OwnR w base E sz cells v l) :
    ∃ A c, v = .slice A l.length c ∧ l.length ≤ c ∧ c ≤ maxLen ∧ (0 < l.length → ∃ g, A = some ⟨g, 0, none⟩ ∧ base ≤ g ∧ g < w.heap.size ∧ (∀ j, w.frozen? ⟨g, j, none⟩ = false) ∧
      ∀ i a, l[i]? = some a → ∀ j u, (cells a)[j]? = some u → w.cell? ⟨g, 0 + i * sz + j, none⟩ = some u) := by
  rcases h.2 with ⟨h1, h2⟩ | ⟨g, cap, cur, hv, hb, hg, hnc, hcm, hcs, htake⟩
  · exact ⟨none, 0, by rw [h1, h2], by omega, by unfold maxLen; omega, fun hn => by omega⟩
  · have hlt : g < w.heap.size := by
      rcases Nat.lt_or_ge g w.heap.size with hlt | hge
      · exact hlt
      · rw [Array.getElem?_eq_none hge] at hg; cases hg
    subst hv
    have hown : w.ownsRow base E sz (.slice (some ⟨g, 0, none⟩) l.length cap) l.length (l.flatMap cells) := h
    refine ⟨some ⟨g, 0, none⟩, cap, rfl, hnc, hcm, fun _ => ⟨g, rfl, hb, hlt, fun j => hown.frozenAt j, fun i a ha j u hu => ?_⟩⟩
    have hi : i < l.length := (List.getElem?_eq_some_iff.1 ha).1
    have hj : j < sz := by rw [← hc a]; exact (List.getElem?_eq_some_iff.1 hu).1
    have hlt2 : i * sz + j < l.length * sz := by
      have : (i + 1) * sz ≤ l.length * sz := Nat.mul_le_mul_right _ (by omega)
      rw [Nat.succ_mul] at this
      omega
    rw [Nat.zero_add, hown.cellAt _ hlt2]
    exact flat_at hc ha hu
end

end Go.Proofs.YtdhakoecjmaebaaGreat

/- append of a list of records onto a row of one's own: at a step of a region that draws, and at a plain region's list. -/
namespace Go.Proofs.YtdhakoecjmaebaaGreat
open Go.RowKit
set_option linter.unusedSimpArgs false
set_option linter.unusedVariables false

/-- A slice type t of elements e that are sz cells wide. -/
def SlT (P : Program) (t e : TypeId) (sz : Nat) : Prop := ∃ i z, P.underlying t = some (.slice e) ∧ P.info? e = some i ∧ i.zero = some z ∧ i.size = sz ∧ i.bytes ≤ 1024 ∧ z.cells.size = sz ∧ 0 < sz
theorem SlT.mk {P : Program} {t e : TypeId} {z : Value} {sz by_ : Nat} (h1 : P.underlying t = some (.slice e)) (h2 : (P.info? e).map (fun i => (i.zero, i.size, i.bytes)) = some (some z, sz, by_)) (h3 : by_ ≤ 1024) (h4 : z.cells.size = sz) (h5 : 0 < sz) : SlT P t e sz := by
  obtain ⟨i, hi, a, b, c⟩ := info_parts h2
  exact ⟨i, z, h1, hi, a, b, by omega, h4, h5⟩

/-- The cells of records in memory. -/
def SrcAt (w : World) (A : Option Addr) (cs : List Value) : Prop := ∀ ad, A = some ad → ∀ j u, cs[j]? = some u → w.cell? (ad.add j) = some u
theorem add_plain (b o j : Nat) : (⟨b, o, none⟩ : Addr).add j = ⟨b, o + j, none⟩ := by unfold Addr.add; split <;> simp_all
theorem SrcAt.later {w w' : World} {A : Option Addr} {cs : List Value} (h : SrcAt w A cs) (k : Later w w') : SrcAt w' A cs := fun ad had j u hu => k.cell (h ad had j u hu)
theorem SrcAt.blk {w : World} {g : Nat} {t : TypeId} {cs : Array Value} (h : Blk w g t cs) : SrcAt w (some ⟨g, 0, none⟩) cs.toList := by
  intro ad had j u hu
  cases had
  rw [add_plain, Nat.zero_add, h.cell j]
  simpa using hu
section
variable {α : Type} {cells : α → List Value} {sz : Nat} {ok : World → α → Prop}
theorem flat_split (hc : ∀ a, (cells a).length = sz) {l : List α} {j : Nat} {u : Value} (h : (l.flatMap cells)[j]? = some u) : ∃ i k a, l[i]? = some a ∧ (cells a)[k]? = some u ∧ j = i * sz + k := by
  induction l generalizing j with
  | nil => simp at h
  | cons b l ih =>
    rw [List.flatMap_cons] at h
    rcases Nat.lt_or_ge j sz with hj | hj
    · rw [List.getElem?_append_left (by rw [hc]; exact hj)] at h
      exact ⟨0, j, b, rfl, h, by omega⟩
    · rw [List.getElem?_append_right (by rw [hc]; exact hj), hc] at h
      obtain ⟨i, k, a, h1, h2, h3⟩ := ih h
      exact ⟨i + 1, k, a, by simpa using h1, h2, by rw [Nat.succ_mul]; omega⟩
/-- A list in memory, as cells. -/
theorem SrcAt.list (hc : ∀ a, (cells a).length = sz) {w : World} {A : Option Addr} {l : List α} (h : ListAt w sz cells ok A l) : SrcAt w A (l.flatMap cells) := by
  intro ad had j u hu
  obtain ⟨i, k, a, h1, h2, rfl⟩ := flat_split hc hu
  obtain ⟨b, o, e, hx⟩ := h (by have := (List.getElem?_eq_some_iff.1 h1).1; omega)
  rw [e] at had
  cases had
  rw [add_plain, ← Nat.add_assoc]
  exact (hx i a h1).1 k u h2
theorem one_flat (ho : ∀ a, ∀ u ∈ cells a, u.oneCell' = true) (l : List α) : ∀ u ∈ l.flatMap cells, u.oneCell' = true := by
  intro u hu
  obtain ⟨a, _, hu⟩ := List.mem_flatMap.1 hu
  exact ho a u hu

theorem run_append_none {P : Program} (w : World) (base : Nat) (t ty e : TypeId) (i : TypeInfo) (size : Nat) (ht : P.underlying t = some (.slice e)) (hi : P.info? e = some i) (v : Value) (n c : Nat) (xs : List Value) (hown : w.ownsRow base e size v n xs) :
    (Builtin.append_ #[t, t] ty #[v, .slice none 0 c]).run P w = .ok v w := by
  rcases hown.2 with ⟨rfl, rfl⟩ | ⟨g, cap, cur, rfl, _, _, hnc, _⟩
  · simp [Builtin.append_, run_underlying ht, sizeOf, typeInfo, hi, Builtin.lenOf, Builtin.firstCells]
  · simp [Builtin.append_, run_underlying ht, sizeOf, typeInfo, hi, Builtin.lenOf, Builtin.firstCells, hnc, storeCells]

theorem run_append_rec {P : Program} {t e : TypeId} (hT : SlT P t e sz) (hc : ∀ a, (cells a).length = sz) (ho : ∀ a, ∀ u ∈ cells a, u.oneCell' = true) (ty : TypeId) {w : World} {base : Nat} {v : Value} {l : List α} (hown : OwnR w base e sz cells v l)
    {A : Option Addr} {c : Nat} {news : List α} (hA : A = none → news.length = 0) (hs : SrcAt w A (news.flatMap cells)) (hn : l.length + news.length ≤ 65536) (hb : base ≤ w.heap.size) :
    ∃ A' c' w', (Builtin.append_ #[t, t] ty #[v, .slice A news.length c]).run P w = .ok (.slice A' (l ++ news).length c') w' ∧ OwnR w' base e sz cells (.slice A' (l ++ news).length c') (l ++ news) ∧ w.grownBy w' v.ownBlock := by
  obtain ⟨i, z, h1, h2, h3, h4, h5, h6, h7⟩ := hT
  cases A with
  | none =>
    have h0 : news = [] := List.eq_nil_of_length_eq_zero (hA rfl)
    subst h0
    obtain ⟨A', c', rfl, _⟩ := hown.form hc
    refine ⟨A', c', w, ?_, ?_, ⟨rfl, rfl, rfl, Nat.le_refl _, fun _ _ _ => rfl⟩⟩
    · rw [List.append_nil]
      exact run_append_none w base t ty e i sz h1 h2 _ _ c _ hown
    · rw [List.append_nil]; exact hown
  | some ad =>
    obtain ⟨v', w', hr, hw, hg, _, _⟩ := run_append_own_at (P := P) w base t ty e i z sz i.bytes h1 h2 h3 h4 rfl h6 h7 v l.length _ hown ad news.length c (news.flatMap cells) (flat_len hc _) (hs ad rfl) (one_flat ho _) (by unfold maxLen; omega) (by
      have : (l.length + news.length) * i.bytes ≤ 65536 * 1024 := Nat.mul_le_mul hn h5
      omega) hb
    have hw2 : OwnR w' base e sz cells v' (l ++ news) := by unfold OwnR; rw [List.flatMap_append, List.length_append]; exact hw
    obtain ⟨A', c', rfl, _⟩ := hw2.form hc
    exact ⟨A', c', w', hr, hw2, hg⟩

theorem wp_append_rec {P : Program} {t e : TypeId} (hT : SlT P t e sz) (hc : ∀ a, (cells a).length = sz) (hon : ∀ a, ∀ u ∈ cells a, u.oneCell' = true) {w : World} {o : Oper} {a : Act} {K : Act → World → Prop} {Q : Exit → Act → World → Prop} (s x : Operand)
    (ho : o.op = .call { callee := .builtin .append, args := #[s, x], argTypes := #[t, t] }) {base : Nat} {v : Value} {l : List α} (hv : a.eval s = v) (hown : OwnR w base e sz cells v l)
    {A : Option Addr} {c : Nat} (news : List α) (hx : a.eval x = .slice A news.length c) (hA : A = none → news.length = 0) (hs : SrcAt w A (news.flatMap cells)) (hn : l.length + news.length ≤ 65536) (hb : base ≤ w.heap.size)
    (h : ∀ A' c' w', OwnR w' base e sz cells (.slice A' (l ++ news).length c') (l ++ news) → w.grownBy w' v.ownBlock → K (a.put o.dst (.slice A' (l ++ news).length c')) w') : o.wp P a w K Q := by
  obtain ⟨A', c', w', hr, h2, h3⟩ := run_append_rec (P := P) hT hc hon o.type hown (c := c) hA hs hn hb
  unfold Oper.wp execOp
  simp only [ho, resolve, invoke, builtin, Sem.run_bind, Sem.run_pure, Result.andThen_ok, List.map_toArray, List.map_cons, List.map_nil, hv, hx, hr]
  exact h A' c' w' h2 h3

theorem wpList_append_rec {P : Program} {t e : TypeId} (hT : SlT P t e sz) (hc : ∀ a, (cells a).length = sz) (hon : ∀ a, ∀ u ∈ cells a, u.oneCell' = true) {w : World} {ops : Array Oper} {rest : List Oper} {o : Oper} {a : Act} {Q : Exit → Act → World → Prop} (hgd : o.guard = none) (s x : Operand)
    (ho : o.op = .call { callee := .builtin .append, args := #[s, x], argTypes := #[t, t] }) {base : Nat} {v : Value} {l : List α} (hv : a.eval s = v) (hown : OwnR w base e sz cells v l)
    {A : Option Addr} {c : Nat} (news : List α) (hx : a.eval x = .slice A news.length c) (hA : A = none → news.length = 0) (hs : SrcAt w A (news.flatMap cells)) (hn : l.length + news.length ≤ 65536) (hb : base ≤ w.heap.size)
    (h : ∀ A' c' w', OwnR w' base e sz cells (.slice A' (l ++ news).length c') (l ++ news) → w.grownBy w' v.ownBlock → wpList P ops Q rest (a.put o.dst (.slice A' (l ++ news).length c')) w') : wpList P ops Q (o :: rest) a w :=
  wpList_plain hgd fun _ hK => wp_append_rec hT hc hon s x ho hv hown news hx hA hs hn hb fun A' c' w' h2 h3 => hK _ _ (h A' c' w' h2 h3)

/-- A new row. -/
theorem OwnR.lit {w : World} {base : Nat} {e : TypeId} (l : List α) (cs : Array Value) (hcs : cs.toList = l.flatMap cells) (hc : ∀ a, (cells a).length = sz) (hl : l.length ≤ 65536) (hb : base ≤ w.heap.size) {n : Nat} (hn : n = l.length) {g : Nat} (hg : w.heap.size = g) :
    OwnR (w.alloc (.cells cs e)) base e sz cells (.slice (some ⟨g, 0, none⟩) n n) l := by
  subst hg hn
  have := World.ownsRow_lit (base := base) (e := e) (size := sz) w cs l.length hb (by unfold maxLen; omega) (by rw [← Array.length_toList, hcs, flat_len hc])
  rw [hcs] at this
  exact this
theorem OwnR.list (hc : ∀ a, (cells a).length = sz) {w : World} {base : Nat} {E : TypeId} {A : Option Addr} {n c : Nat} {l : List α} (h : OwnR w base E sz cells (.slice A n c) l) (hok : ∀ a ∈ l, ok w a) : n = l.length ∧ n ≤ c ∧ c ≤ maxLen ∧ ListAt w sz cells ok A l := by
  obtain ⟨A', c', e, h1, h2, h3⟩ := h.form hc
  cases e
  refine ⟨rfl, h1, h2, fun hn => ?_⟩
  obtain ⟨g, rfl, _, _, _, hx⟩ := h3 hn
  exact ⟨g, 0, rfl, fun i a ha => ⟨fun j u hu => hx i a ha j u hu, hok a (List.mem_of_getElem? ha)⟩⟩
end

section
variable {α : Type} {cells : α → List Value} {sz : Nat}
theorem OwnR.drew {w : World} {base : Nat} {E : TypeId} {v : Value} {l : List α} (h : OwnR w base E sz cells v l) : OwnR w.drew base E sz cells v l := h
theorem OwnR.alloc {w : World} {base : Nat} {E : TypeId} {v : Value} {l : List α} (h : OwnR w base E sz cells v l) (o : Obj) : OwnR (w.alloc o) base E sz cells v l := h.later ((Later.refl _).alloc _)
end
theorem Later.grown {a w w' : World} {row : Option Nat} (h : Later a w) (hg : w.grownBy w' row) (hr : ∀ k, row = some k → a.heap.size ≤ k) : Later a w' := Below.grown h hg h.size hr
theorem Blk.grown {w w' : World} {g : Nat} {t : TypeId} {cs : Array Value} {row : Option Nat} (h : Blk w g t cs) (hg : w.grownBy w' row) (hne : some g ≠ row) : Blk w' g t cs := (hg.block g h.lt hne).trans h

theorem slt_put : SlT Tryz.prog 36 44 5 := SlT.mk (z := .agg #[.int .i64 0, .bool false, .int .i64 0, .int .i64 0, .int .i64 0]) (by_ := 40) Tryz.underlying36 (by kernel_rfl) (by omega) rfl (by omega)
end Go.Proofs.YtdhakoecjmaebaaGreat
/-
  The walks of damage.isCoord and damage.carries, and of the reference's twins.
  Records in memory: slices of records of any number of cells; rolls and plies.
  A new block at an address that is known by an equation.
-/
/- The walks of damage.isCoord and damage.carries, and of the reference's twins. -/
namespace Go.Proofs.YtdhakoecjmaebaaGreat
open Go.RowKit
set_option linter.unusedSimpArgs false
set_option linter.unusedVariables false

/-- Four numbers: a part (roll, from, to, at) or a rectangle (x, y, w, h). -/
structure Qd where
  a : Int
  b : Int
  c : Int
  d : Int
def Qd.agg (p : Qd) : Value := .agg #[.int .i64 p.a, .int .i64 p.b, .int .i64 p.c, .int .i64 p.d]
/-- From offset o on block b holds the rows of four. -/
def QdsAt (w : World) (b o : Nat) (ps : List Qd) : Prop :=
  ∀ i (p : Qd), ps[i]? = some p → w.cell? ⟨b, o + i * 4, none⟩ = some (.int .i64 p.a) ∧ w.cell? ⟨b, o + i * 4 + 1, none⟩ = some (.int .i64 p.b) ∧
    w.cell? ⟨b, o + i * 4 + 2, none⟩ = some (.int .i64 p.c) ∧ w.cell? ⟨b, o + i * 4 + 3, none⟩ = some (.int .i64 p.d)
def Qds (w : World) (A : Option Addr) (ps : List Qd) : Prop := 0 < ps.length → ∃ b o, A = some ⟨b, o, none⟩ ∧ QdsAt w b o ps
theorem QdsAt.later {w w' : World} {b o : Nat} {ps : List Qd} (h : QdsAt w b o ps) (k : Later w w') : QdsAt w' b o ps :=
  fun i p hp => ⟨k.cell (h i p hp).1, k.cell (h i p hp).2.1, k.cell (h i p hp).2.2.1, k.cell (h i p hp).2.2.2⟩
theorem Qds.later {w w' : World} {A : Option Addr} {ps : List Qd} (h : Qds w A ps) (k : Later w w') : Qds w' A ps :=
  fun hn => let ⟨b, o, e, hc⟩ := h hn; ⟨b, o, e, hc.later k⟩
theorem QdsAt.get {w : World} {b o : Nat} {ps : List Qd} (h : QdsAt w b o ps) {k : Nat} (hk : k < ps.length) :
    w.cell? ⟨b, o + k * 4, none⟩ = some (.int .i64 ps[k].a) ∧ w.cell? ⟨b, o + k * 4 + 1, none⟩ = some (.int .i64 ps[k].b) ∧
    w.cell? ⟨b, o + k * 4 + 2, none⟩ = some (.int .i64 ps[k].c) ∧ w.cell? ⟨b, o + k * 4 + 3, none⟩ = some (.int .i64 ps[k].d) :=
  h k _ (List.getElem?_eq_getElem hk)
def coordB (n : Int) : Bool := decide (n ≥ 0) && decide (n ≤ 1048576)
def carriesB (p : Qd) (lo hi : Int) : Bool :=
  coordB p.d && (coordB p.b && (coordB p.c && (decide (p.d ≤ lo) && decide (hi ≤ p.d + p.c - p.b))))
/-- The first part that carries from lo to hi: its number and the error. -/
def carrierGo (lo hi : Int) : List Qd → Nat → Int × Int
  | [], _ => (0, 20)
  | p :: l, k => if carriesB p lo hi = true then ((k : Int), 0) else carrierGo lo hi l (k + 1)
def carrierR (parts : List Qd) (ps : List Pt) : Int × Int :=
  if checkI ps = 0 then carrierGo (loOf ps).x (hiOf ps).x parts 0 else (0, checkI ps)
end Go.Proofs.YtdhakoecjmaebaaGreat

/- Records in memory: slices of records of any number of cells; rolls and plies. -/
namespace Go.Proofs.YtdhakoecjmaebaaGreat
open Go.RowKit
set_option linter.unusedSimpArgs false
set_option linter.unusedVariables false

def QdI (q : Qd) : Prop := I64 q.a ∧ I64 q.b ∧ I64 q.c ∧ I64 q.d
/-- A ply: its lot and its parts. -/
structure Py where
  lot : Int
  pa : Option Addr
  pc : Nat
  parts : List Qd
def Py.cells (p : Py) : List Value := [.int .i64 p.lot, .slice p.pa p.parts.length p.pc]
def Py.agg (p : Py) : Value := .agg #[.int .i64 p.lot, .slice p.pa p.parts.length p.pc]
def PyOk (w : World) (p : Py) : Prop := p.parts.length ≤ p.pc ∧ p.pc ≤ maxLen ∧ Qds w p.pa p.parts ∧ ∀ q ∈ p.parts, QdI q
theorem PyOk.later {w w' : World} {p : Py} (h : PyOk w p) (k : Later w w') : PyOk w' p := ⟨h.1, h.2.1, h.2.2.1.later k, h.2.2.2⟩
/-- A roll. -/
structure Rl where
  id : ByteArray
  wd : Int
  ln : Int
  tl : Int
  ta : Int
  tb : Int
  fa : Option Addr
  fc : Nat
  fl : List Qd
def Rl.cells (r : Rl) : List Value := [.string r.id, .int .i64 r.wd, .int .i64 r.ln, .int .i64 r.tl, .int .i64 r.ta, .int .i64 r.tb, .slice r.fa r.fl.length r.fc]
def Rl.agg (r : Rl) : Value := .agg #[.string r.id, .int .i64 r.wd, .int .i64 r.ln, .int .i64 r.tl, .int .i64 r.ta, .int .i64 r.tb, .slice r.fa r.fl.length r.fc]
def RlOk (w : World) (r : Rl) : Prop := r.id.size ≤ maxLen ∧ r.fl.length ≤ r.fc ∧ r.fc ≤ maxLen ∧ Qds w r.fa r.fl ∧ (∀ q ∈ r.fl, QdI q) ∧ I64 r.wd ∧ I64 r.ln ∧ I64 r.tl ∧ I64 r.ta ∧ I64 r.tb
theorem RlOk.later {w w' : World} {r : Rl} (h : RlOk w r) (k : Later w w') : RlOk w' r := ⟨h.1, h.2.1, h.2.2.1, h.2.2.2.1.later k, h.2.2.2.2⟩

def Plys (w : World) (A : Option Addr) (l : List Py) : Prop := ListAt w 2 Py.cells PyOk A l
theorem Plys.later {w w' : World} {A : Option Addr} {l : List Py} (h : Plys w A l) (k : Later w w') : Plys w' A l := ListAt.later h (fun _ ho => ho.later k) k
def Rolls (w : World) (A : Option Addr) (l : List Rl) : Prop := ListAt w 7 Rl.cells RlOk A l
theorem Rolls.later {w w' : World} {A : Option Addr} {l : List Rl} (h : Rolls w A l) (k : Later w w') : Rolls w' A l := ListAt.later h (fun _ ho => ho.later k) k
theorem Rolls.at_ {w : World} {A : Option Addr} {l : List Rl} (h : Rolls w A l) {k : Nat} (hk : k < l.length) :
    ∃ b o, A = some ⟨b, o, none⟩ ∧ w.cell? ⟨b, o + k * 7, none⟩ = some (.string (l[k]).id) ∧ w.cell? ⟨b, o + k * 7 + 1, none⟩ = some (.int .i64 (l[k]).wd) ∧ w.cell? ⟨b, o + k * 7 + 2, none⟩ = some (.int .i64 (l[k]).ln) ∧
      w.cell? ⟨b, o + k * 7 + 3, none⟩ = some (.int .i64 (l[k]).tl) ∧ w.cell? ⟨b, o + k * 7 + 4, none⟩ = some (.int .i64 (l[k]).ta) ∧ w.cell? ⟨b, o + k * 7 + 5, none⟩ = some (.int .i64 (l[k]).tb) ∧
      w.cell? ⟨b, o + k * 7 + 6, none⟩ = some (.slice (l[k]).fa (l[k]).fl.length (l[k]).fc) ∧ RlOk w (l[k]) := by
  obtain ⟨b, o, e, hc⟩ := h (by omega)
  obtain ⟨h1, h2⟩ := hc k _ (List.getElem?_eq_getElem hk)
  exact ⟨b, o, e, h1 0 _ rfl, h1 1 _ rfl, h1 2 _ rfl, h1 3 _ rfl, h1 4 _ rfl, h1 5 _ rfl, h1 6 _ rfl, h2⟩
theorem Plys.at_ {w : World} {A : Option Addr} {l : List Py} (h : Plys w A l) {k : Nat} (hk : k < l.length) :
    ∃ b o, A = some ⟨b, o, none⟩ ∧ w.cell? ⟨b, o + k * 2, none⟩ = some (.int .i64 (l[k]).lot) ∧ w.cell? ⟨b, o + k * 2 + 1, none⟩ = some (.slice (l[k]).pa (l[k]).parts.length (l[k]).pc) ∧ PyOk w (l[k]) := by
  obtain ⟨b, o, e, hc⟩ := h (by omega)
  obtain ⟨h1, h2⟩ := hc k _ (List.getElem?_eq_getElem hk)
  exact ⟨b, o, e, h1 0 _ rfl, h1 1 _ rfl, h2⟩

/- The form of an Id. -/
def capB (c : UInt8) : Bool := decide (65 ≤ (c.toNat : Int)) && decide ((c.toNat : Int) ≤ 90)
def othB (c : UInt8) : Bool := (decide (97 ≤ (c.toNat : Int)) && decide ((c.toNat : Int) ≤ 122)) || (decide (48 ≤ (c.toNat : Int)) && decide ((c.toNat : Int) ≤ 57))
def chBad (c : UInt8) (k : Nat) : Bool := !capB c && (decide (k = 0) || !othB c)
def idGo : List UInt8 → Nat → Bool
  | [], _ => true
  | c :: l, k => if chBad c k = true then false else idGo l (k + 1)
def idB (s : ByteArray) : Bool := idGo s.data.toList 0 && (decide (1 ≤ s.size) && decide ((s.size : Int) ≤ 8))
end Go.Proofs.YtdhakoecjmaebaaGreat

/- A new block at an address that is known by an equation. -/
namespace Go.Proofs.YtdhakoecjmaebaaGreat
open Go.RowKit
theorem Blk.newAt {w : World} {t : TypeId} {cs : Array Value} {g : Nat} (h : w.heap.size = g) : Blk (w.alloc (.cells cs t)) g t cs := by subst h; exact Blk.new w t cs
end Go.Proofs.YtdhakoecjmaebaaGreat
