/-
  Maps that the call makes and that serve as sets: a block whose entries' keys are the elements of a list, in the order in which they were added; asked, filled, ranged over.
-/
import Derived.Test.YtdhakoecjmaebaaGreatZPoly
import Derived.Maps.RangeWalk
import Derived.DeepKeys4
import Derived.Test.YtdhakoecjmaebaaGreatZNofP
namespace Go.Proofs.YtdhakoecjmaebaaGreat
open Go.RowKit Go.ChangeMaps Go.MapKept Go.WideShapes
open Go.Maps (Keyed)
set_option linter.unusedSimpArgs false
set_option linter.unusedVariables false

section
variable {α : Type} {P : Program} {k e t : TypeId} {enc : α → Value} {ok : α → Prop}
/-- Each value that is allowed reads as a key, and no two as one. -/
structure KeyEnc (P : Program) (k : TypeId) (enc : α → Value) (ok : α → Prop) : Prop where
  keyed : Keyed P k
  key : ∀ {a}, ok a → ∃ kl, keyOf P k (enc a) = some kl
  inj : ∀ {a b}, enc a = enc b → a = b
/-- Block b is a map whose keys are l, in that order, and whose values are all true. -/
def SetM (enc : α → Value) (ok : α → Prop) (w : World) (b : Nat) (l : List α) : Prop :=
  ∃ es clock, w.heap[b]? = some (.map es clock) ∧ es.toList.map MapEntry.key = l.map enc ∧ (∀ x ∈ es.toList, x.val = .bool true) ∧ (∀ x ∈ es.toList, x.born < clock) ∧ (es.toList.map MapEntry.born).Nodup ∧ (∀ a ∈ l, ok a) ∧ l.Nodup
theorem SetM.made (w : World) : SetM enc ok (w.alloc (.map #[] 0)) w.heap.size [] :=
  ⟨#[], 0, (MapKept.heap_alloc w _).1, rfl, by simp, by simp, by simp, by simp, List.nodup_nil⟩
theorem SetM.lt {w : World} {b : Nat} {l : List α} (h : SetM enc ok w b l) : b < w.heap.size := by
  obtain ⟨es, clock, hb, _⟩ := h
  exact (Array.getElem?_eq_some_iff.1 hb).1
theorem SetM.of {w w' : World} {b : Nat} {l : List α} (h : SetM enc ok w b l) (he : w'.heap[b]? = w.heap[b]?) : SetM enc ok w' b l := by
  obtain ⟨es, clock, hb, r⟩ := h
  exact ⟨es, clock, he.trans hb, r⟩
theorem SetM.keep {w w' : World} {b : Nat} {l : List α} {row : Option Nat} (h : SetM enc ok w b l) (hg : w.grownBy w' row) (hne : some b ≠ row) : SetM enc ok w' b l := h.of (hg.block b h.lt hne)
theorem SetM.later {w w' : World} {b : Nat} {l : List α} (h : SetM enc ok w b l) (hg : Later w w') : SetM enc ok w' b l := h.of (hg.block b h.lt)
theorem SetM.alloc {w : World} {b : Nat} {l : List α} (h : SetM enc ok w b l) (o : Obj) : SetM enc ok (w.alloc o) b l := h.of ((MapKept.heap_alloc w o).2 b h.lt)
theorem SetM.drew {w : World} {b : Nat} {l : List α} (h : SetM enc ok w b l) : SetM enc ok w.drew b l := h
theorem SetM.past {w : World} {b g o : Nat} {l : List α} {v : Value} (h : SetM enc ok w b l) (hne : b ≠ g) : SetM enc ok (w.setCell ⟨g, o, none⟩ v) b l := h.of (Below.heap_setCell w ⟨g, o, none⟩ v b hne)
theorem SetM.len {w : World} {b : Nat} {l : List α} (h : SetM enc ok w b l) : ∃ es clock, w.heap[b]? = some (.map es clock) ∧ es.size = l.length := by
  obtain ⟨es, clock, hb, hk, _⟩ := h
  refine ⟨es, clock, hb, ?_⟩
  have := congrArg List.length hk
  simpa using this

theorem SetM.entry {w : World} {b : Nat} {l : List α} {es : Array MapEntry} (hk : es.toList.map MapEntry.key = l.map enc) {x : MapEntry} (hx : x ∈ es.toList) : ∃ a ∈ l, x.key = enc a := by
  have h : x.key ∈ es.toList.map MapEntry.key := List.mem_map_of_mem hx
  rw [hk] at h
  obtain ⟨a, ha, e⟩ := List.mem_map.1 h
  exact ⟨a, ha, e.symm⟩
theorem SetM.has {w : World} {b : Nat} {l : List α} {es : Array MapEntry} (hk : es.toList.map MapEntry.key = l.map enc) {a : α} (ha : a ∈ l) : ∃ x ∈ es.toList, x.key = enc a := by
  have h : enc a ∈ l.map enc := List.mem_map_of_mem ha
  rw [← hk] at h
  obtain ⟨x, hx, e⟩ := List.mem_map.1 h
  exact ⟨x, hx, e⟩

/-- 'm[k]'. -/
theorem SetM.look [DecidableEq α] (K : KeyEnc P k enc ok) (ht : P.underlying t = some (.map k e)) {w : World} {b : Nat} {l : List α} (hz : (zeroValue e).run P w = .ok (.bool false) w) (h : SetM enc ok w b l) {a : α} (ha : ok a) :
    (Instr.lookup t (.map (some b)) (enc a) false).run P w = .ok (.bool (decide (a ∈ l))) w := by
  obtain ⟨es, clock, hb, hk, hv, _, _, hok, _⟩ := h
  obtain ⟨kl, hkl⟩ := K.key ha
  have hall : ∀ x ∈ es.toList, ∃ l, keyOf P k x.key = some l := fun x hx => by
    obtain ⟨c, hc, e⟩ := SetM.entry (w := w) (b := b) hk hx
    rw [e]
    exact K.key (hok c hc)
  rcases K.keyed.find w hkl es.toList hall with ⟨h1, h2⟩ | ⟨j, x, h1, h2, h3⟩
  · have hn : a ∉ l := fun hm => by
      obtain ⟨x, hx, e⟩ := SetM.has (w := w) (b := b) hk hm
      exact h2 x hx e
    rw [decide_eq_false hn]
    simp [Instr.lookup, run_underlying ht, MapKept.run_getObj_map hb, K.keyed.check w _ hkl, h1, hz, Result.andThen]
  · have hx : x ∈ es.toList := List.mem_of_getElem? h2
    obtain ⟨c, hc, e⟩ := SetM.entry (w := w) (b := b) hk hx
    have hca : a = c := K.inj (h3.symm.trans e)
    rw [decide_eq_true (hca ▸ hc)]
    simp [Instr.lookup, run_underlying ht, MapKept.run_getObj_map hb, K.keyed.check w _ hkl, h1, Result.andThen, hv x hx]

/-- 'm[k] = true' at a new key. -/
theorem SetM.put (K : KeyEnc P k enc ok) (ht : P.underlying t = some (.map k e)) {w : World} {b : Nat} {l : List α} (h : SetM enc ok w b l) {a : α} (ha : ok a) (hn : a ∉ l) :
    ∃ w', (Instr.mapUpdate t (.map (some b)) (enc a) (.bool true)).run P w = .ok () w' ∧ SetM enc ok w' b (l ++ [a]) ∧ w.grownBy w' (some b) ∧ w'.heap.size = w.heap.size := by
  obtain ⟨es, clock, hb, hk, hv, hborn, hnd, hok, hln⟩ := h
  obtain ⟨kl, hkl⟩ := K.key ha
  have hall : ∀ x ∈ es.toList, ∃ l, keyOf P k x.key = some l := fun x hx => by
    obtain ⟨c, hc, e⟩ := SetM.entry (w := w) (b := b) hk hx
    rw [e]
    exact K.key (hok c hc)
  rcases K.keyed.find w hkl es.toList hall with ⟨h1, h2⟩ | ⟨j, x, h1, h2, h3⟩
  · refine ⟨setBlock w b (.map (es.push ⟨enc a, .bool true, clock⟩) (clock + 1)), ?_, ⟨_, _, heap_setBlock_same hb _, ?_, ?_, ?_, ?_, ?_, ?_⟩, ⟨rfl, rfl, rfl, by simp [setBlock], fun i _ hi => heap_setBlock_other hb _ (fun e => hi (by rw [e]))⟩, by simp [setBlock]⟩
    · simp [Instr.mapUpdate, run_underlying ht, MapKept.run_getObj_map hb, K.keyed.check w false hkl, h1, MapKept.run_setObj_map _ hb, Result.andThen, setBlock]
    · simp [hk]
    · intro x hx
      rw [Array.toList_push] at hx
      rcases List.mem_append.1 hx with hx | hx
      · exact hv x hx
      · rw [List.mem_singleton.1 hx]
    · intro x hx
      rw [Array.toList_push] at hx
      rcases List.mem_append.1 hx with hx | hx
      · have := hborn x hx; omega
      · rw [List.mem_singleton.1 hx]; exact Nat.lt_succ_self _
    · rw [Array.toList_push, List.map_append, List.nodup_append]
      refine ⟨hnd, by simp, fun x hx y hy => ?_⟩
      obtain ⟨z, hz, rfl⟩ := List.mem_map.1 hx
      have := hborn z hz
      simp only [List.map_cons, List.map_nil, List.mem_singleton] at hy
      omega
    · intro c hc
      rcases List.mem_append.1 hc with hc | hc
      · exact hok c hc
      · rw [List.mem_singleton.1 hc]; exact ha
    · rw [List.nodup_append]
      exact ⟨hln, by simp, fun x hx y hy => by rw [List.mem_singleton] at hy; subst hy; exact fun e => hn (e ▸ hx)⟩
  · have hx : x ∈ es.toList := List.mem_of_getElem? h2
    obtain ⟨c, hc, e⟩ := SetM.entry (w := w) (b := b) hk hx
    exact absurd (K.inj (h3.symm.trans e) ▸ hc) hn
/-- 'm[k] = true' at a key that is there. -/
theorem SetM.again (K : KeyEnc P k enc ok) (ht : P.underlying t = some (.map k e)) {w : World} {b : Nat} {l : List α} (h : SetM enc ok w b l) {a : α} (ha : ok a) (hm : a ∈ l) :
    ∃ w', (Instr.mapUpdate t (.map (some b)) (enc a) (.bool true)).run P w = .ok () w' ∧ SetM enc ok w' b l ∧ w.grownBy w' (some b) ∧ w'.heap.size = w.heap.size := by
  obtain ⟨es, clock, hb, hk, hv, hborn, hnd, hok, hln⟩ := h
  obtain ⟨kl, hkl⟩ := K.key ha
  have hall : ∀ x ∈ es.toList, ∃ l, keyOf P k x.key = some l := fun x hx => by
    obtain ⟨c, hc, e⟩ := SetM.entry (w := w) (b := b) hk hx
    rw [e]
    exact K.key (hok c hc)
  rcases K.keyed.find w hkl es.toList hall with ⟨h1, h2⟩ | ⟨j, x, h1, h2, h3⟩
  · obtain ⟨x, hx, e⟩ := SetM.has (w := w) (b := b) hk hm
    exact absurd e (h2 x hx)
  · have hx : x ∈ es.toList := List.mem_of_getElem? h2
    have hj : es[j]? = some x := by simpa using h2
    have hsame : ({ x with key := enc a, val := .bool true } : MapEntry) = x := by
      have hvx := hv x hx
      cases x
      simp only at h3 hvx
      rw [h3, hvx]
    have hlist : (es.modify j (fun e' => { e' with key := enc a, val := .bool true })).toList = es.toList := by
      rw [Array.toList_modify]
      refine List.ext_getElem? fun i => ?_
      rw [List.getElem?_modify]
      by_cases e : j = i
      · subst e
        rw [h2]
        simp [hsame]
      · cases es.toList[i]? <;> simp [e]
    have harr : es.modify j (fun e' => { e' with key := enc a, val := .bool true }) = es := Array.toList_inj.1 hlist
    refine ⟨setBlock w b (.map es clock), ?_, ⟨es, clock, heap_setBlock_same hb _, hk, hv, hborn, hnd, hok, hln⟩, ⟨rfl, rfl, rfl, by simp [setBlock], fun i _ hi => heap_setBlock_other hb _ (fun e => hi (by rw [e]))⟩, by simp [setBlock]⟩
    simp [Instr.mapUpdate, run_underlying ht, MapKept.run_getObj_map hb, K.keyed.check w false hkl, h1, hj, h3, K.keyed.stays w hkl, harr, MapKept.run_setObj_map _ hb, Result.andThen, setBlock]

/-- A loop over the map is under way: the keys in done have come. -/
def IterM (enc : α → Value) (ok : α → Prop) (w : World) (b r : Nat) (l done : List α) : Prop :=
  ∃ es clock since seen c0, w.heap[b]? = some (.map es clock) ∧ es.toList.map MapEntry.key = l.map enc ∧ (∀ x ∈ es.toList, x.val = .bool true) ∧ (∀ x ∈ es.toList, x.born < clock) ∧ (es.toList.map MapEntry.born).Nodup ∧ (∀ a ∈ l, ok a) ∧ l.Nodup ∧
    w.heap[r]? = some (.mapIter (some b) since seen c0) ∧ (∀ x ∈ es.toList, x.born < since) ∧ since ≤ c0 ∧ since ≤ clock ∧ done.Nodup ∧ (∀ a ∈ done, a ∈ l) ∧ ∀ x ∈ es.toList, ∀ a, x.key = enc a → (seen.contains x.born = true ↔ a ∈ done)
theorem IterM.set {w : World} {b r : Nat} {l done : List α} (h : IterM enc ok w b r l done) : SetM enc ok w b l := by
  obtain ⟨es, clock, since, seen, c0, h1, h2, h3, h4, h5, h6, h7, _⟩ := h
  exact ⟨es, clock, h1, h2, h3, h4, h5, h6, h7⟩
theorem IterM.lt {w : World} {b r : Nat} {l done : List α} (h : IterM enc ok w b r l done) : b < w.heap.size ∧ r < w.heap.size ∧ r ≠ b := by
  obtain ⟨es, clock, since, seen, c0, h1, h2, h3, h4, h5, h6, h7, h8, _⟩ := h
  refine ⟨(Array.getElem?_eq_some_iff.1 h1).1, (Array.getElem?_eq_some_iff.1 h8).1, fun e => ?_⟩
  rw [e, h1] at h8
  cases h8
theorem IterM.of {w w' : World} {b r : Nat} {l done : List α} (h : IterM enc ok w b r l done) (hb : w'.heap[b]? = w.heap[b]?) (hr : w'.heap[r]? = w.heap[r]?) : IterM enc ok w' b r l done := by
  obtain ⟨es, clock, since, seen, c0, h1, h2, h3, h4, h5, h6, h7, h8, q⟩ := h
  exact ⟨es, clock, since, seen, c0, hb.trans h1, h2, h3, h4, h5, h6, h7, hr.trans h8, q⟩
theorem IterM.later {w w' : World} {b r : Nat} {l done : List α} (h : IterM enc ok w b r l done) (hg : Later w w') : IterM enc ok w' b r l done := h.of (hg.block b h.lt.1) (hg.block r h.lt.2.1)
theorem IterM.keep {w w' : World} {b r : Nat} {l done : List α} {row : Option Nat} (h : IterM enc ok w b r l done) (hg : w.grownBy w' row) (h1 : some b ≠ row) (h2 : some r ≠ row) : IterM enc ok w' b r l done := h.of (hg.block b h.lt.1 h1) (hg.block r h.lt.2.1 h2)
/-- 'range m'. -/
theorem SetM.range (ht : P.underlying t = some (.map k e)) {w : World} {b : Nat} {l : List α} (h : SetM enc ok w b l) :
    ∃ w', (Instr.range t (.map (some b))).run P w = .ok (.pointer (some ⟨w.heap.size, 0, none⟩)) w' ∧ IterM enc ok w' b w.heap.size l [] ∧ w.grownBy w' none ∧ w'.heap.size = w.heap.size + 1 := by
  have hlt := h.lt
  obtain ⟨es, clock, hb, hk, hv, hborn, hnd, hok, hln⟩ := h
  refine ⟨_, run_range_map w t k e b es clock ht hb, ⟨es, clock, clock, #[], clock, ((MapKept.heap_alloc w _).2 b hlt).trans hb, hk, hv, hborn, hnd, hok, hln, (MapKept.heap_alloc w _).1, hborn, Nat.le_refl _, Nat.le_refl _, List.nodup_nil, by simp, by simp⟩, World.grownBy_alloc w _ none, by simp⟩
/-- The step. -/
theorem IterM.next (K : KeyEnc P k enc ok) {w : World} {b r : Nat} {l done : List α} (h : IterM enc ok w b r l done) (ty : TypeId) :
    (done.Perm l ∧ (Instr.next (.pointer (some ⟨r, 0, none⟩)) false ty).run P w = .ok (.tuple #[.bool false]) w) ∨
    ∃ a w', a ∈ l ∧ a ∉ done ∧ (Instr.next (.pointer (some ⟨r, 0, none⟩)) false ty).run P w = .ok (.tuple #[.bool true, enc a, .bool true]) w' ∧ IterM enc ok w' b r l (done ++ [a]) ∧ w'.rangeLeft b r < w.rangeLeft b r ∧
      w.grownBy w' (some r) ∧ w'.heap.size = w.heap.size ∧ (Instr.entry (.pointer (some ⟨r, 0, none⟩))).run P w' = .ok (.tuple #[enc a, .bool true]) w' := by
  have hne := h.lt.2.2
  obtain ⟨es, clock, since, seen, c0, hb, hk, hv, hborn, hnd, hok, hln, hr, hold, hsc, hsk, hdn, hdl, hseen⟩ := h
  rcases run_next_at (P := P) w ty r b since c0 seen es clock hr hb hold hsc with ⟨h0, hrun⟩ | ⟨x, hx, w1, hal, hrun⟩
  · refine .inl ⟨(List.perm_ext_iff_of_nodup hdn hln).2 fun a => ⟨hdl a, fun ha => ?_⟩, hrun⟩
    obtain ⟨x, hx, e⟩ := SetM.has (w := w) (b := b) hk ha
    exact (hseen x hx a e).1 (all_seen es seen h0 x hx)
  · obtain ⟨hem, hes⟩ := mem_left hx
    obtain ⟨a, ha, hxa⟩ := SetM.entry (w := w) (b := b) hk hem
    have hvx := hv x hem
    have hnd' : a ∉ done := fun hm => by
      have := (hseen x hem a hxa).2 hm
      rw [hes] at this
      cases this
    have hr1 : w1.heap[r]? = some (.mapIter (some b) since seen c0) := by rcases hal with rfl | rfl <;> exact hr
    have hb1 : w1.heap[b]? = some (.map es clock) := by rcases hal with rfl | rfl <;> exact hb
    have hset := heap_set (o' := .mapIter (some b) since (seen.push x.born) clock) hr1
    have hb' : (setBlock w1 r (.mapIter (some b) since (seen.push x.born) clock)).heap[b]? = some (.map es clock) := (hset.2 b (fun e1 => hne e1.symm)).trans hb1
    refine .inr ⟨a, setBlock w1 r (.mapIter (some b) since (seen.push x.born) clock), ha, hnd', by rw [hrun, hxa, hvx], ⟨es, clock, since, seen.push x.born, clock, hb', hk, hv, hborn, hnd, hok, hln, hset.1, hold, hsk, hsk, ?_, ?_, ?_⟩, ?_, ?_, ?_, ?_⟩
    · rw [List.nodup_append]
      exact ⟨hdn, by simp, fun y hy z hz => by rw [List.mem_singleton] at hz; subst hz; exact fun e => hnd' (e ▸ hy)⟩
    · intro c hc
      rcases List.mem_append.1 hc with hc | hc
      · exact hdl c hc
      · rw [List.mem_singleton.1 hc]; exact ha
    · intro y hy c hyc
      rw [contains_push, Bool.or_eq_true, List.mem_append, List.mem_singleton, hseen y hy c hyc]
      refine or_congr_right ?_
      rw [beq_iff_eq]
      constructor
      · intro e
        have : y = x := born_inj hnd hy hem e
        subst this
        exact K.inj (hyc.symm.trans hxa)
      · rintro rfl
        have hp : (es.toList.map MapEntry.key).Nodup := by
          rw [hk]
          exact List.pairwise_map.2 (hln.imp fun h e => h (K.inj e))
        have : y = x := entry_eq_of_key (by
          have := List.pairwise_map.1 hp
          exact this) hy hem (hyc.trans hxa.symm)
        rw [this]
    · have e1 : (setBlock w1 r (.mapIter (some b) since (seen.push x.born) clock)).rangeLeft b r = (leftOf es (seen.push x.born)).size := by
        unfold World.rangeLeft
        rw [hb', show (setBlock w1 r (.mapIter (some b) since (seen.push x.born) clock)).heap[r]? = some (.mapIter (some b) since (seen.push x.born) clock) from hset.1]
      have e2 : w.rangeLeft b r = (leftOf es seen).size := by
        unfold World.rangeLeft
        rw [hb, hr]
      rw [e1, e2]
      exact left_shrinks es seen x hx
    · rcases hal with rfl | rfl <;> exact ⟨rfl, rfl, rfl, by simp [setBlock], fun i _ hi => hset.2 i (fun e1 => hi (by rw [e1]))⟩
    · rcases hal with rfl | rfl <;> simp [setBlock]
    · have := run_entry_at (P := P) _ r b since seen es clock x hset.1 hb' hem hnd
      rw [hxa, hvx] at this
      exact this
end

end Go.Proofs.YtdhakoecjmaebaaGreat
/-
  Spots and endings as keys of maps.
-/
namespace Go.Proofs.YtdhakoecjmaebaaGreat
open Go.RowKit Go.ChangeMaps Go.MapKept Go.WideShapes
open Go.Maps (Keyed)
set_option linter.unusedSimpArgs false
set_option linter.unusedVariables false

theorem laid_out : laidOutB Tryz.prog = true := by kernel_rfl
theorem spot_keyed : Keyed Tryz.prog 29 := Keyed.of_law (deep_law_laid laid_out (m := 2) (by omega) (of_decide_eq_true (by kernel_rfl)) (by kernel_rfl) (by rw [Tryz.underlying29]))
/-- Within the range of int. -/
def I64P (p : Pt) : Prop := (-9223372036854775808 ≤ p.x ∧ p.x ≤ 9223372036854775807) ∧ -9223372036854775808 ≤ p.y ∧ p.y ≤ 9223372036854775807
def encP (p : Pt) : Value := .agg #[.int .i64 p.x, .int .i64 p.y]
theorem wf_int {n : Int} (h : -9223372036854775808 ≤ n ∧ n ≤ 9223372036854775807) : (Lit.int .i64 n).wf = true := by
  simp only [Lit.wf, Bool.and_eq_true, decide_eq_true_eq]
  exact ⟨h.1, h.2⟩
theorem lits_int {d : Nat} {n : Int} (h : -9223372036854775808 ≤ n ∧ n ≤ 9223372036854775807) : Tryz.prog.keyLits (d + 1) 3 [.int .i64 n] = some [.int .i64 n] := by
  unfold Program.keyLits
  rw [Tryz.underlying3]
  simp [wf_int h]
theorem spot_key {p : Pt} (h : I64P p) : ∃ kl, keyOf Tryz.prog 29 (encP p) = some kl := by
  refine ⟨.string (keyBytes [.int .i64 p.x, .int .i64 p.y]), ?_⟩
  have hkt : Tryz.prog.keyType 29 = true := by kernel_rfl
  have hc : Tryz.prog.cellsOf 29 = 2 := by kernel_rfl
  have hc1 : Tryz.prog.cellsOf 3 = 1 := by kernel_rfl
  have hfm : (encP p).formed Tryz.prog 29 = true := by simp [encP, Value.formed, Tryz.underlying29, hc]
  have hl : ∀ d, Tryz.prog.keyLits (d + 1 + 1) 29 [.int .i64 p.x, .int .i64 p.y] = some [.int .i64 p.x, .int .i64 p.y] := by
    intro d
    unfold Program.keyLits
    rw [Tryz.underlying29]
    simp [hc, hc1, lits_int h.1, lits_int h.2]
  unfold keyOf
  rw [Tryz.underlying29]
  simp only [hkt, hfm, Bool.and_true, if_true]
  obtain ⟨d, hd⟩ : ∃ d, Tryz.prog.types.size + 1 = d + 1 + 1 := ⟨Tryz.prog.types.size - 1, by
    have h0 : 0 < Tryz.prog.types.size := of_decide_eq_true (by kernel_rfl)
    omega⟩
  rw [hd]
  show Option.map _ (Tryz.prog.keyLits (d + 1 + 1) 29 [.int .i64 p.x, .int .i64 p.y]) = _
  rw [hl]
  rfl
theorem spot_enc : KeyEnc Tryz.prog 29 encP I64P where
  keyed := spot_keyed
  key := spot_key
  inj := by
    intro a b e
    obtain ⟨ax, ay⟩ := a
    obtain ⟨bx, b_⟩ := b
    unfold encP at e
    injection e with e
    simp at e
    rw [e.1, e.2]
end Go.Proofs.YtdhakoecjmaebaaGreat
