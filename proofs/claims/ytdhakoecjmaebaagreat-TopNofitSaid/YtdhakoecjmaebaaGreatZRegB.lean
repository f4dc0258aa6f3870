/-
  slices.SortFunc and slices.CompactFunc at rows of spots: the same rows stay.
-/
import Derived.Test.YtdhakoecjmaebaaGreatZRegA
namespace Go.Proofs.YtdhakoecjmaebaaGreat
open Go.RowKit Go.Shelf Go.Lib Go.Sort
set_option linter.unusedSimpArgs false
set_option linter.unusedVariables false

/- Sorting a row of one-cell elements. -/
section
variable {α : Type} [Inhabited α]
theorem heap_put1 (enc : α → Value) (w : World) (blk off : Nat) (d : Array α) (k : Nat) : (putRow enc w blk off d).heap[k]? = if blk = k then (w.heap[k]?).map (onCells (putCells enc off d)) else w.heap[k]? := by
  unfold putRow mapBlock
  simp only [Array.getElem?_modify]
theorem size_put1 (enc : α → Value) (w : World) (blk off : Nat) (d : Array α) : (putRow enc w blk off d).heap.size = w.heap.size := by
  unfold putRow mapBlock
  simp
theorem sort_grown1 (enc : α → Value) (w : World) (g n : Nat) (d : Array α) (os : Array Obj) (hg : g < w.heap.size) : w.grownBy (sortWorld enc w g 0 n d os) (some g) := by
  refine ⟨rfl, rfl, rfl, ?_, fun k hk hne => ?_⟩
  · have : (putRow enc (Sort.ahead w n) g 0 d).heap.size = w.heap.size := size_put1 _ _ _ _ _
    show w.heap.size ≤ ((putRow enc (Sort.ahead w n) g 0 d).heap ++ os).size
    rw [Array.size_append, this]
    omega
  · have hs : k < (putRow enc (Sort.ahead w n) g 0 d).heap.size := by rw [size_put1]; exact hk
    show (grow (putRow enc (Sort.ahead w n) g 0 d) os).heap[k]? = _
    rw [heap_grow_old _ _ hs, heap_put1, if_neg (fun e => hne (by rw [e]))]
    rfl
omit [Inhabited α] in
theorem flat_enc (enc : α → Value) (l : List α) : l.flatMap (fun a => [enc a]) = l.map enc := by
  induction l with
  | nil => rfl
  | cons a l ih => rw [List.flatMap_cons, ih]; rfl
theorem own_holds1 {enc : α → Value} {w : World} {base g cap : Nat} {E : TypeId} {l : List α} (h : OwnR w base E 1 (fun a => [enc a]) (.slice (some ⟨g, 0, none⟩) l.length cap) l) : Holds enc w g 0 l.toArray := by
  intro j hj
  have hj' : j < l.length := by simpa using hj
  have hown : w.ownsRow base E 1 (.slice (some ⟨g, 0, none⟩) l.length cap) l.length (l.flatMap fun a => [enc a]) := h
  refine ⟨?_, by rw [Nat.zero_add]; exact hown.frozenAt j⟩
  rw [Nat.zero_add, hown.cellAt j (by omega), flat_enc, List.getElem?_map, List.getElem?_eq_getElem hj']
  simp [hj']
theorem sort_own1 {enc : α → Value} {w : World} {base g cap n : Nat} {E : TypeId} {l m : List α} (os : Array Obj) (h : OwnR w base E 1 (fun a => [enc a]) (.slice (some ⟨g, 0, none⟩) l.length cap) l) (hm : m.length = l.length) :
    OwnR (sortWorld enc w g 0 n m.toArray os) base E 1 (fun a => [enc a]) (.slice (some ⟨g, 0, none⟩) l.length cap) m := by
  rcases h.2 with ⟨h1, _⟩ | ⟨g', cap', cur, hv, hb, hg, hnc, hcm, hcs, htake⟩
  · cases h1
  cases hv
  have hlt : g < w.heap.size := by
    rcases Nat.lt_or_ge g w.heap.size with k | k
    · exact k
    · rw [Array.getElem?_eq_none k] at hg; cases hg
  refine ⟨by rw [flat_len (sz := 1) (fun _ => rfl)], .inr ⟨g, cap, putCells enc 0 m.toArray cur, by rw [hm], hb, ?_, by omega, hcm, by unfold putCells; rw [Array.size_mapIdx]; exact hcs, ?_⟩⟩
  · have hs : g < (putRow enc (Sort.ahead w n) g 0 m.toArray).heap.size := by rw [size_put1]; exact hlt
    show (grow (putRow enc (Sort.ahead w n) g 0 m.toArray) os).heap[g]? = _
    rw [heap_grow_old _ _ hs, heap_put1, if_pos rfl]
    show (w.heap[g]?).map _ = _
    rw [hg]
    rfl
  · rw [flat_enc]
    refine List.ext_getElem? fun t => ?_
    rw [List.getElem?_take]
    split
    · rename_i ht
      have ht1 : t < m.length := by omega
      have ht2 : t < cur.size := by rw [hcs]; omega
      rw [Array.getElem?_toList, List.getElem?_map, List.getElem?_eq_getElem ht1]
      unfold putCells
      rw [Array.getElem?_mapIdx, Array.getElem?_eq_getElem ht2]
      simp [ht1]
    · rename_i ht
      rw [List.getElem?_eq_none]
      rw [List.length_map]
      omega
end

/-- What a row's element must bear while the row is sorted. -/
def RowEl (w : World) (g : Nat) (v : PV) : Prop := Pts w v.A v.ps ∧ v.ps.length ≤ 65536 ∧ Fence (some g) w.heap.size v.A
theorem cmpRow_swo {α : Type} (f : α → List Pt) : SWO (ltOf fun x y : α => cmpRow (f x) (f y)) where
  irrefl x := by
    show decide (cmpRow (f x) (f x) < 0) = false
    rw [cmpRow_self]
    rfl
  trans x y z h1 h2 := by
    unfold ltOf at *
    rw [decide_eq_true_iff] at *
    exact cmpRow_trans h1 h2
  ntrans x y z h1 h2 := by
    unfold ltOf at *
    rw [decide_eq_false_iff_not] at *
    exact cmpRow_ntrans h1 h2
theorem eg_rows : ∀ args w, (callFunc 68 args).run Tryz.prog w = .ok (.enter 68 args) w := enters_of Tryz.func68 (by kernel_rfl) rfl
theorem sort_rows (base g cap : Nat) (l : List PV) (w : World) (h : OwnR w base 28 1 PV.cells (.slice (some ⟨g, 0, none⟩) l.length cap) l) (hl : l.length ≤ 65536) (hne : l ≠ []) (hok : ∀ v ∈ l, RowEl w g v) :
    Calls Tryz.prog 67 #[.slice (some ⟨g, 0, none⟩) l.length cap, .func (.func 68) #[] #[]] w fun e w' => e = .returned (.tuple #[]) ∧ ∃ m : List PV, m.Perm l ∧ OwnR w' base 28 1 PV.cells (.slice (some ⟨g, 0, none⟩) l.length cap) m ∧ w.grownBy w' (some g) := by
  have hlt : g < w.heap.size := (World.ownsRow.lt h g rfl).2
  let α := {v : PV // RowEl w g v}
  let enc : α → Value := fun v => .slice v.1.A v.1.ps.length v.1.c
  obtain ⟨l', hl'⟩ : ∃ l' : List α, l'.map Subtype.val = l := ⟨l.attachWith _ hok, by simp⟩
  obtain ⟨a0, _⟩ : ∃ a : α, True := by
    obtain _ | ⟨a, _⟩ := l'
    · exact absurd hl'.symm (by simpa using hne)
    · exact ⟨a, trivial⟩
  haveI : Inhabited α := ⟨a0⟩
  have hlen : l'.length = l.length := by rw [← hl', List.length_map]
  have key : ∀ m : List α, (m.map Subtype.val).flatMap PV.cells = m.flatMap fun a => [enc a] := by
    intro m
    rw [List.flatMap_map]
    rfl
  have hown : OwnR w base 28 1 (fun a => [enc a]) (.slice (some ⟨g, 0, none⟩) l'.length cap) l' := by
    unfold OwnR at h ⊢
    rw [← key, hl', hlen]
    exact h
  have hcmp : CmpLays1 Tryz.prog 68 #[] enc (fun x y : α => cmpRow x.1.ps y.1.ps) g 0 l'.toArray.size w := by
    intro m os dk _ x y
    have hgr := sort_grown1 enc w g m dk os hlt
    obtain ⟨x, x1, x2, x3⟩ := x
    obtain ⟨y, y1, y2, y3⟩ := y
    exact regions_cmp x.A y.A x.c y.c x.ps y.ps _ x2 y2 (x1.grown hgr x3) (y1.grown hgr y3)
  have hcon := Any.slices_SortFunc sortRw enc (fun _ => rfl) (fun x y : α => cmpRow x.1.ps y.1.ps) (cmpRow_swo fun x : α => x.1.ps) 68 #[] g 0 cap l'.toArray w eg_rows hcmp (own_holds1 hown) hlt (by simp; omega)
  change Calls Tryz.prog 67 _ _ _ at hcon
  rw [List.size_toArray, hlen] at hcon
  refine hcon.mono ?_
  rintro e w' ⟨rfl, d', n, os, hp, _, rfl⟩
  obtain ⟨p1, p2, p3⟩ := hp
  have hsz : d'.size = l'.length := by simpa using p1
  refine ⟨rfl, d'.toList.map Subtype.val, ?_, ?_, sort_grown1 enc w g n d' os hlt⟩
  · have hperm : d'.toList.Perm l' := by
      rw [← hlen] at p3
      rw [show d'.extract 0 l'.length = d' by rw [← hsz]; exact Array.extract_size, show l'.toArray.extract 0 l'.length = l'.toArray by rw [show l'.length = l'.toArray.size from List.size_toArray.symm]; exact Array.extract_size] at p3
      exact p3
    have := hperm.map Subtype.val
    rwa [hl'] at this
  · have := sort_own1 (n := n) (m := d'.toList) os hown (by simpa using hsz)
    unfold OwnR at this ⊢
    rw [key, List.length_map, ← hlen]
    exact this

/- slices.CompactFunc. -/
structure CInv (l : List PV) (m k : Nat) (dk : List PV) : Prop where
  low : ∀ i u, i < k → dk[i]? = some u → u ∈ l
  cov : ∀ j v, j < m → l[j]? = some v → ∃ i u, i < k ∧ dk[i]? = some u ∧ u.ps = v.ps
  high : ∀ j, k ≤ j → dk[j]? = l[j]?
theorem CInv.start {l : List PV} {q : Nat} {x y : PV} (hx : l[q + 1]? = some x) (hy : l[q]? = some y) (h : x.ps = y.ps) : CInv l (q + 1 + 1) (q + 1) l where
  low i u _ hu := List.mem_of_getElem? hu
  cov j v hj hv := by
    by_cases e : j = q + 1
    · subst e
      rw [hx] at hv
      cases hv
      exact ⟨q, y, by omega, hy, h.symm⟩
    · exact ⟨j, v, by omega, hv, rfl⟩
  high _ _ := rfl
theorem CInv.keep {l dk : List PV} {m k : Nat} {u : PV} (h : CInv l m k dk) (hu : l[m]? = some u) (hk : k < dk.length) (hkm : k ≤ m) : CInv l (m + 1) (k + 1) (dk.set k u) where
  low i v hi hv := by
    by_cases e : i = k
    · subst e
      rw [List.getElem?_set_self hk] at hv
      cases hv
      exact List.mem_of_getElem? hu
    · rw [List.getElem?_set_ne (by omega)] at hv
      exact h.low i v (by omega) hv
  cov j v hj hv := by
    by_cases e : j = m
    · subst e
      rw [hu] at hv
      cases hv
      exact ⟨k, u, by omega, by rw [List.getElem?_set_self hk], rfl⟩
    · obtain ⟨i, t, h1, h2, h3⟩ := h.cov j v (by omega) hv
      exact ⟨i, t, by omega, by rw [List.getElem?_set_ne (by omega)]; exact h2, h3⟩
  high j hj := by rw [List.getElem?_set_ne (by omega)]; exact h.high j (by omega)
theorem CInv.skip {l dk : List PV} {m k : Nat} {u v : PV} (h : CInv l (m + 1) k dk) (hu : l[m + 1]? = some u) (hv : l[m]? = some v) (e : u.ps = v.ps) : CInv l (m + 1 + 1) k dk where
  low := h.low
  cov j t hj ht := by
    by_cases hjm : j = m + 1
    · subst hjm
      rw [hu] at ht
      cases ht
      obtain ⟨i, t, h1, h2, h3⟩ := h.cov m v (by omega) hv
      exact ⟨i, t, h1, h2, h3.trans e.symm⟩
    · exact h.cov j t (by omega) ht
  high := h.high
theorem CInv.done {l dk : List PV} {k : Nat} (h : CInv l l.length k dk) (hk : k ≤ dk.length) : (∀ v ∈ dk.take k, v ∈ l) ∧ ∀ v ∈ l, ∃ u ∈ dk.take k, u.ps = v.ps := by
  constructor
  · intro v hv
    obtain ⟨i, hi⟩ := List.mem_iff_getElem?.1 hv
    rw [List.getElem?_take] at hi
    split at hi
    · exact h.low i v (by assumption) hi
    · cases hi
  · intro v hv
    obtain ⟨j, hj⟩ := List.mem_iff_getElem?.1 hv
    obtain ⟨i, u, h1, h2, h3⟩ := h.cov j v (List.getElem?_eq_some_iff.1 hj).1 hj
    exact ⟨u, List.mem_of_getElem? (i := i) (by rw [List.getElem?_take, if_pos h1]; exact h2), h3⟩
theorem OwnR.setRow {w : World} {base g c : Nat} {E : TypeId} {l : List PV} (h : OwnR w base E 1 PV.cells (.slice (some ⟨g, 0, none⟩) l.length c) l) (k : Nat) (y : PV) :
    OwnR (w.setCell ⟨g, k, none⟩ (.slice y.A y.ps.length y.c)) base E 1 PV.cells (.slice (some ⟨g, 0, none⟩) l.length c) (l.set k y) ∧ w.grownBy (w.setCell ⟨g, k, none⟩ (.slice y.A y.ps.length y.c)) (some g) := by
  obtain ⟨h1, g1⟩ := World.ownsRow.stored (show w.ownsRow base E 1 _ l.length (l.flatMap PV.cells) from h) k (.slice y.A y.ps.length y.c)
  have key : ∀ (l : List PV) (k : Nat), (l.set k y).flatMap PV.cells = (l.flatMap PV.cells).set k (.slice y.A y.ps.length y.c) := by
    intro l
    induction l with
    | nil => intro k; rfl
    | cons a l ih =>
      intro k
      cases k with
      | zero => rfl
      | succ k =>
        rw [List.set_cons_succ, List.flatMap_cons, List.flatMap_cons, ih]
        rfl
  refine ⟨?_, g1⟩
  unfold OwnR
  rw [key, List.length_set]
  exact h1
theorem own_row {w : World} {base g cap n : Nat} {d : List PV} (h : OwnR w base 28 1 PV.cells (.slice (some ⟨g, 0, none⟩) n cap) d) {i : Nat} {u : PV} (hi : d[i]? = some u) :
    w.cell? ⟨g, i, none⟩ = some (.slice u.A u.ps.length u.c) ∧ (∀ j, w.frozen? ⟨g, j, none⟩ = false) ∧ g < w.heap.size := by
  obtain ⟨A, c, e, _, _, hx⟩ := h.form pv_len
  cases e
  obtain ⟨g', e, _, h2, h3, h4⟩ := hx (by have := (List.getElem?_eq_some_iff.1 hi).1; omega)
  cases e
  have := h4 i u hi 0 _ rfl
  rw [Nat.zero_add, Nat.mul_one, Nat.add_zero] at this
  exact ⟨this, h3, h2⟩
theorem RowEl.grown {w w' : World} {g : Nat} {v : PV} (h : RowEl w g v) (hg : w.grownBy w' (some g)) : Pts w' v.A v.ps := h.1.grown hg h.2.2
def CompRows (base g cap : Nat) (l : List PV) (w : World) (e : Ending) (w' : World) : Prop :=
  ∃ m : List PV, e = .returned (.slice (some ⟨g, 0, none⟩) m.length cap) ∧ OwnR w' base 28 1 PV.cells (.slice (some ⟨g, 0, none⟩) m.length cap) m ∧ w.grownBy w' (some g) ∧ m.length ≤ l.length ∧ (∀ v ∈ m, v ∈ l) ∧ ∀ v ∈ l, ∃ u ∈ m, u.ps = v.ps
set_option maxHeartbeats 4000000 in
set_option maxRecDepth 100000 in
theorem compact_rows (base g cap : Nat) (l : List PV) (w : World) (h : OwnR w base 28 1 PV.cells (.slice (some ⟨g, 0, none⟩) l.length cap) l) (hl : l.length ≤ 65536) (hcap : l.length ≤ cap) (hok : ∀ v ∈ l, RowEl w g v) :
    Calls Tryz.prog 71 #[.slice (some ⟨g, 0, none⟩) l.length cap, .func (.func 72) #[] #[]] w (CompRows base g cap l w) := by
  have HP := Lib.hid (fun (m : List PV) (n : Nat) (w' : World) (hn : m.length = n) (hle : n ≤ l.length) (ho : OwnR w' base 28 1 PV.cells (.slice (some ⟨g, 0, none⟩) n cap) m) (hg : w.grownBy w' (some g)) (h1 : ∀ v ∈ m, v ∈ l) (h2 : ∀ v ∈ l, ∃ u ∈ m, u.ps = v.ps) => (by subst hn; exact ⟨m, rfl, ho, hg, hle, h1, h2⟩ : CompRows base g cap l w (.returned (.slice (some ⟨g, 0, none⟩) n cap)) w'))
  have HH := Lib.hid h
  have HE := Lib.hid (fun (x y : PV) (hx : x ∈ l) (hy : y ∈ l) W (hW : w.grownBy W (some g)) => regions_eq x.A y.A x.c y.c x.ps y.ps W (hok x hx).2.1 (hok y hy).2.1 ((hok x hx).grown hW) ((hok y hy).grown hW))
  clear hok
  clear h
  by_cases h2 : l.length < 2
  · go_enter Tryz.func71, Tryz.ntmps71
    go_wp2
    go_ret
    exact HP.out l _ w rfl (Nat.le_refl _) HH.out (World.grownBy.refl _ _) (fun _ h => h) (fun v h => ⟨v, h, rfl⟩)
  · go_enter Tryz.func71, Tryz.ntmps71
    go_wp2
    go_loopg [5] l.length (fun gg s3 wr => ∃ q : Nat, q + 1 ≤ l.length ∧ l.length - (q + 1) ≤ gg ∧ s3 = .int .i64 ((q : Int) + 1) ∧ OwnR wr base 28 1 PV.cells (.slice (some ⟨g, 0, none⟩) l.length cap) l ∧ w.grownBy wr (some g))
    case atStart => exact ⟨0, by omega, by omega, rfl, HH.out, World.grownBy.refl _ _⟩
    case round =>
      obtain ⟨q, hk, hg, rfl, ho, hgr⟩ := hrel
      have z2 : IntKind.i64.wrap ((q : Int) + 1 + 1) = (q : Int) + 1 + 1 := IntWalk.i64_in _ (by omega)
      have Ho := Lib.hid ho
      have Hg := Lib.hid hgr
      by_cases hlt : q + 1 < l.length
      · obtain ⟨x, hx⟩ : ∃ x, l[q + 1]? = some x := ⟨_, List.getElem?_eq_getElem hlt⟩
        obtain ⟨y, hy⟩ : ∃ y, l[q]? = some y := ⟨_, List.getElem?_eq_getElem (by omega)⟩
        obtain ⟨c1, f1, zg⟩ := own_row ho hx
        obtain ⟨c3, _, _⟩ := own_row ho hy
        clear ho hgr
        have HC := Lib.hid (fun n => HE.out x y (List.mem_of_getElem? hx) (List.mem_of_getElem? hy) _ (grown_drewN Hg.out n))
        have Hx := Lib.hid hx
        have Hy := Lib.hid hy
        clear hx hy
        have z1 : IntKind.i64.wrap ((q : Int) + 1 - 1) = (q : Int) := by rw [show (q : Int) + 1 - 1 = q by omega]; exact IntWalk.i64_in _ (by omega)
        have z3 : IntKind.i64.wrap (q : Int) = (q : Int) := IntWalk.i64_in _ (by omega)
        have i0 : (0 : Int) ≤ (q : Int) := by omega
        have i1 : (q : Int) < (l.length : Int) := by omega
        have i2 : (0 : Int) ≤ (q : Int) + 1 := by omega
        have i3 : (q : Int) + 1 < (l.length : Int) := by omega
        have i4 : ((q : Int) + 1).toNat = q + 1 := by omega
        have i5 : (q : Int) + 1 ≤ (l.length : Int) := by omega
        have i6 : (q : Int) + 1 ≤ (cap : Int) := by omega
        by_cases hdup : x.ps = y.ps
        · have HC2 := HC
          rw [decide_eq_true hdup] at HC2
          have Hdup := Lib.hid hdup
          clear HC hdup
          go_wp2_with fail
          go_quiet (first | (go_at_call 72; refine Calls.quiet_of (HC2.out _)))
          go_wp2
          clear c1 c3 f1 HC2
          go_loopg [5, 7] l.length (fun gg s3 s5 wr2 => ∃ (kk p : Nat) (dk : List PV), s3 = .int .i64 kk ∧ s5 = .int .i64 ((p : Int) + 1) ∧ q + 1 + (p + 1) ≤ l.length ∧ kk < q + 1 + (p + 1) ∧ Hid (dk.length = l.length) ∧ l.length - (q + 1 + (p + 1)) ≤ gg ∧ OwnR wr2 base 28 1 PV.cells (.slice (some ⟨g, 0, none⟩) l.length cap) dk ∧ w.grownBy wr2 (some g) ∧ CInv l (q + 1 + (p + 1)) kk dk)
          case atStart => exact ⟨q + 1, 0, l, by go_num, rfl, by omega, by omega, Lib.hid rfl, by omega, Ho.out.drewN _, grown_drewN Hg.out _, CInv.start Hx.out Hy.out Hdup.out⟩
          case round =>
            obtain ⟨kk, p, dk, rfl, rfl, hle, hkk, Hds, hg2, ho2, hgr2, hI⟩ := hrel
            have I2 := Lib.hid hI
            have Ho2 := Lib.hid ho2
            have Hg2 := Lib.hid hgr2
            have y2 : IntKind.i64.wrap ((p : Int) + 1 + 1) = (p : Int) + 1 + 1 := IntWalk.i64_in _ (by omega)
            by_cases hlt2 : q + 1 + (p + 1) < l.length
            · obtain ⟨u, hu⟩ : ∃ u, l[q + 1 + (p + 1)]? = some u := ⟨_, List.getElem?_eq_getElem hlt2⟩
              obtain ⟨v, hv⟩ : ∃ v, l[q + 1 + p]? = some v := ⟨_, List.getElem?_eq_getElem (by omega)⟩
              obtain ⟨old, hold⟩ : ∃ old, dk[kk]? = some old := ⟨_, List.getElem?_eq_getElem (by have := Hds.out; omega)⟩
              obtain ⟨m1, f2, zg2⟩ := own_row ho2 (i := q + 1 + (p + 1)) (by rw [hI.high _ (by omega)]; exact hu)
              obtain ⟨m3, _, _⟩ := own_row ho2 (i := q + 1 + p) (by rw [hI.high _ (by omega)]; exact hv)
              obtain ⟨m5, _, _⟩ := own_row ho2 hold
              clear ho2 hgr2 hI
              have HC3 := Lib.hid (fun n => HE.out u v (List.mem_of_getElem? hu) (List.mem_of_getElem? hv) _ (grown_drewN Hg2.out n))
              have Hu := Lib.hid hu
              have Hv := Lib.hid hv
              clear hu hv hold
              have y1 : IntKind.i64.wrap ((p : Int) + 1 - 1) = (p : Int) := by rw [show (p : Int) + 1 - 1 = p by omega]; exact IntWalk.i64_in _ (by omega)
              have y3 : IntKind.i64.wrap (p : Int) = (p : Int) := IntWalk.i64_in _ (by omega)
              have y4 : IntKind.i64.wrap ((kk : Int) + 1) = (kk : Int) + 1 := IntWalk.i64_in _ (by omega)
              have j0 : (0 : Int) ≤ (p : Int) := by omega
              have j1 : (p : Int) < ((l.length - (q + 1) : Nat) : Int) := by omega
              have j2 : (0 : Int) ≤ (p : Int) + 1 := by omega
              have j3 : (p : Int) + 1 < ((l.length - (q + 1) : Nat) : Int) := by omega
              have j4 : (0 : Int) ≤ (kk : Int) := by omega
              have j5 : (kk : Int) < (l.length : Int) := by omega
              have j6 : ((p : Int) + 1).toNat = p + 1 := by omega
              by_cases huv : u.ps = v.ps
              · rw [decide_eq_true huv] at HC3
                have Huv := Lib.hid huv
                clear huv
                go_wp2_with fail
                go_quiet (first | (go_at_call 72; refine Calls.quiet_of (HC3.out _)))
                go_wp2
                go_roundg (l.length - (q + 1 + (p + 1 + 1)))
                case measure => omega
                case rel => exact ⟨kk, p + 1, dk, rfl, by go_num, by omega, by omega, Hds, by omega, Ho2.out.drewN _, grown_drewN Hg2.out _, I2.out.skip Hu.out Hv.out Huv.out⟩
              · rw [decide_eq_false huv] at HC3
                go_wp2_with fail
                go_quiet (first | (go_at_call 72; refine Calls.quiet_of (HC3.out _)))
                go_wp2
                go_roundg (l.length - (q + 1 + (p + 1 + 1)))
                case measure => omega
                case rel =>
                  have hds := Hds.out
                  refine ⟨kk + 1, p + 1, dk.set kk u, by go_num, by go_num, by omega, by omega, Lib.hid (by rw [List.length_set]; exact hds), by omega, ?_, ?_, I2.out.keep Hu.out (by omega) (by omega)⟩
                  · rw [← hds]
                    exact (OwnR.setRow (by rw [hds]; exact Ho2.out.drewN _) kk u).1
                  · exact (grown_drewN Hg2.out _).trans (OwnR.setRow (base := base) (E := 28) (c := cap) (l := dk) (by rw [hds]; exact Ho2.out.drewN _) kk u).2
            · have hend : q + 1 + (p + 1) = l.length := by omega
              rw [hend] at I2
              have hds := Hds.out
              have hkd : kk < dk.length := by omega
              obtain ⟨w5, hcl, q1, q2⟩ := run_clear_own (P := Tryz.prog) (sz := 1) (z := .slice none 0 0) Tryz.underlying63 (fun w => by go_simp) rfl (by omega) (by simp [Value.cells, Value.oneCell']) pv_len (base := base) (c := cap) (l := dk) (by rw [hds]; exact Ho2.out) hkd (cap - kk) (o := kk) (by omega)
              rw [hds] at hcl
              have k0 : (0 : Int) ≤ (kk : Int) := by omega
              have k1 : (kk : Int) ≤ (l.length : Int) := by omega
              have k2 : (kk : Int) ≤ (cap : Int) := by omega
              have Q1 := Lib.hid q1
              have Q2 := Lib.hid (Hg2.out.trans q2)
              obtain ⟨r1, r2⟩ := I2.out.done (by omega)
              have R1 := Lib.hid r1
              have R2 := Lib.hid r2
              have Ht := Lib.hid (show (dk.take kk).length = kk by rw [List.length_take]; omega)
              clear ho2 hI q1 q2 r1 r2 hds hgr2
              go_wp2
              go_ret
              exact HP.out (dk.take kk) kk w5 Ht.out (by omega) Q1.out Q2.out R1.out R2.out
        · have HC2 := HC
          rw [decide_eq_false hdup] at HC2
          clear HC
          go_wp2_with fail
          go_quiet (first | (go_at_call 72; refine Calls.quiet_of (HC2.out _)))
          go_wp2
          go_roundg (l.length - (q + 1 + 1))
          case measure => omega
          case rel => exact ⟨q + 1, by omega, Nat.le_refl _, by go_num, Ho.out.drewN _, grown_drewN Hg.out _⟩
      · have i9 : (q : Int) + 1 = (l.length : Int) := by omega
        clear ho hgr
        go_wp2
        go_ret
        exact HP.out l _ _ rfl (Nat.le_refl _) Ho.out Hg.out (fun _ h => h) (fun v h => ⟨v, h, rfl⟩)
end Go.Proofs.YtdhakoecjmaebaaGreat
