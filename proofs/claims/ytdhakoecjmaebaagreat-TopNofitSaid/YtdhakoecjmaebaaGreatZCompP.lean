/-
  slices.Compact at spots: each run of equal spots becomes one. clear at a row of one's own.
-/
import Derived.Test.YtdhakoecjmaebaaGreatZConvB
import Derived.Lib.SlicesCompact
import Derived.Lib.SliceRun
import Derived.Deep.LoopGhost
namespace Go.Proofs.YtdhakoecjmaebaaGreat
open Go.RowKit Go.Lib
set_option linter.unusedSimpArgs false
set_option linter.unusedVariables false

section
variable {α : Type} {cells : α → List Value} {sz : Nat}
theorem OwnR.beyond (hc : ∀ a, (cells a).length = sz) {w : World} {base g c n : Nat} {E : TypeId} {l : List α} (h : OwnR w base E sz cells (.slice (some ⟨g, 0, none⟩) n c) l) (hn : n = l.length) {o : Nat} (ho : l.length * sz ≤ o) (v : Value) :
    OwnR (w.setCell ⟨g, o, none⟩ v) base E sz cells (.slice (some ⟨g, 0, none⟩) n c) l ∧ w.grownBy (w.setCell ⟨g, o, none⟩ v) (some g) := by
  subst hn
  obtain ⟨h1, h2⟩ := World.ownsRow.stored (show w.ownsRow base E sz _ l.length (l.flatMap cells) from h) o v
  rw [List.set_eq_of_length_le (by rw [flat_len hc]; exact ho)] at h1
  exact ⟨h1, h2⟩
theorem OwnR.setCells (hc : ∀ a, (cells a).length = sz) {base g c n : Nat} {E : TypeId} {l : List α} (hn : n = l.length) : ∀ (vs : List Value) {w : World} {o : Nat}, OwnR w base E sz cells (.slice (some ⟨g, 0, none⟩) n c) l → l.length * sz ≤ o →
    OwnR (w.setCells g o vs) base E sz cells (.slice (some ⟨g, 0, none⟩) n c) l ∧ w.grownBy (w.setCells g o vs) (some g)
  | [], w, o, h, _ => ⟨h, World.grownBy.refl _ _⟩
  | v :: vs, w, o, h, ho => by
    obtain ⟨h1, h2⟩ := h.beyond hc hn ho v
    obtain ⟨h3, h4⟩ := OwnR.setCells hc hn vs h1 (o := o + 1) (by omega)
    exact ⟨h3, h2.trans h4⟩
/-- clear(s[k:]) at a row of one's own: its first k records are as they were. -/
theorem run_clear_own {P : Program} {t e : TypeId} {z : Value} (ht : P.underlying t = some (.slice e)) (hv : ∀ w, (zeroValue e).run P w = .ok z w) (hz : z.cells.size = sz) (h0 : 0 < sz) (h1 : ∀ u ∈ z.cells.toList, u.oneCell' = true) (hc : ∀ a, (cells a).length = sz)
    {w : World} {base g c : Nat} {E : TypeId} {l : List α} (h : OwnR w base E sz cells (.slice (some ⟨g, 0, none⟩) l.length c) l) {k : Nat} (hk : k < l.length) (c' : Nat) {o : Nat} (ho : o = k * sz) :
    ∃ w', (∀ ty, (Builtin.clear_ #[t] ty #[.slice (some ⟨g, o, none⟩) (l.length - k) c']).run P w = .ok (.tuple #[]) w') ∧ OwnR w' base E sz cells (.slice (some ⟨g, 0, none⟩) k c) (l.take k) ∧ w.grownBy w' (some g) := by
  subst ho
  have hzl : (Builtin.zeroCells z.cells (l.length - k)).toList.length = (l.length - k) * sz := by simp [Builtin.zeroCells, hz]
  have hz1 : ∀ u ∈ (Builtin.zeroCells z.cells (l.length - k)).toList, u.oneCell' = true := by
    intro u hu
    simp only [Builtin.zeroCells, Array.toList_map, List.mem_map] at hu
    obtain ⟨i, _, rfl⟩ := hu
    have hi : i % z.cells.size < z.cells.size := Nat.mod_lt _ (by omega)
    rw [getElem!_pos z.cells _ hi]
    exact h1 _ (by simp)
  have hown : w.ownsRow base E sz (.slice (some ⟨g, 0, none⟩) l.length c) l.length (l.flatMap cells) := h
  have hcell : ∀ j, j < (l.length - k) * sz → (w.cell? ⟨g, k * sz + j, none⟩).isSome = true := by
    intro j hj
    have hlt : k * sz + j < l.length * sz := by
      have : l.length * sz = k * sz + (l.length - k) * sz := by rw [← Nat.add_mul]; congr 1; omega
      omega
    rw [hown.cellAt _ hlt, List.getElem?_eq_getElem (by rw [flat_len hc]; exact hlt)]
    rfl
  have hst := run_storeCells_cells (P := P) g (k * sz) (Builtin.zeroCells z.cells (l.length - k)).toList 0 w (fun j hj => by rw [hzl] at hj; simpa using hcell j hj) (fun j _ => by simpa using hown.frozenAt _) hz1
  obtain ⟨m, hm⟩ : ∃ m, l.length - k = m + 1 := ⟨l.length - k - 1, by omega⟩
  have hcut := OwnR.cut hc h (n := k) (by omega)
  have hkl : (l.take k).length = k := by rw [List.length_take]; omega
  obtain ⟨q1, q2⟩ := OwnR.setCells hc hkl.symm (Builtin.zeroCells z.cells (l.length - k)).toList hcut (o := k * sz) (by rw [hkl]; omega)
  refine ⟨_, fun ty => ?_, q1, q2⟩
  rw [hm] at hst ⊢
  rw [Nat.add_zero] at hst
  simp [Builtin.clear_, run_underlying ht, hv, hst]
end

theorem OwnR.setPt {w : World} {base g c : Nat} {E : TypeId} {l : List Pt} (h : OwnR w base E 2 pt2 (.slice (some ⟨g, 0, none⟩) l.length c) l) (k : Nat) (y : Pt) :
    OwnR ((w.setCell ⟨g, k * 2, none⟩ (.int .i64 y.x)).setCell ⟨g, k * 2 + 1, none⟩ (.int .i64 y.y)) base E 2 pt2 (.slice (some ⟨g, 0, none⟩) l.length c) (l.set k y) ∧
    w.grownBy ((w.setCell ⟨g, k * 2, none⟩ (.int .i64 y.x)).setCell ⟨g, k * 2 + 1, none⟩ (.int .i64 y.y)) (some g) := by
  obtain ⟨h1, g1⟩ := World.ownsRow.stored (show w.ownsRow base E 2 _ l.length (l.flatMap pt2) from h) (k * 2) (.int .i64 y.x)
  obtain ⟨h2, g2⟩ := h1.stored (k * 2 + 1) (.int .i64 y.y)
  have key : ∀ (l : List Pt) (k : Nat), (l.set k y).flatMap pt2 = ((l.flatMap pt2).set (k * 2) (.int .i64 y.x)).set (k * 2 + 1) (.int .i64 y.y) := by
    intro l
    induction l with
    | nil => intro k; rfl
    | cons a l ih =>
      intro k
      cases k with
      | zero => rfl
      | succ k =>
        rw [List.set_cons_succ, List.flatMap_cons, List.flatMap_cons, ih, show (k + 1) * 2 = k * 2 + 1 + 1 by omega]
        rfl
  refine ⟨?_, g1.trans g2⟩
  unfold OwnR
  rw [key, List.length_set]
  exact h2

/- The plain compact is the kit's. -/
theorem comp_snoc : ∀ (l : List Pt) (a x : Pt), compGo a (l ++ [x]) = compGo a l ++ if x = (a :: l).getLast (by simp) then [] else [x]
  | [], a, x => by
    by_cases e : x = a <;> simp [compGo, e]
  | b :: l, a, x => by
    rw [List.cons_append, compGo, compGo]
    have e : (a :: b :: l).getLast (by simp) = (b :: l).getLast (by simp) := List.getLast_cons (by simp)
    rw [e]
    by_cases hb : b = a
    · subst hb
      rw [if_pos rfl, if_pos rfl, comp_snoc l b x]
    · rw [if_neg hb, if_neg hb, comp_snoc l b x, List.cons_append]
theorem compP_snoc (l : List Pt) (x : Pt) (h : l ≠ []) : compP (l ++ [x]) = compP l ++ if x = l.getLast h then [] else [x] := by
  obtain _ | ⟨a, l⟩ := l
  · exact absurd rfl h
  · rw [List.cons_append, compP, compP, comp_snoc, List.cons_append]
theorem compP_upTo (l : List Pt) : ∀ n, n ≤ l.length → compP (l.take n) = compactUpTo l.toArray n
  | 0, _ => by simp [compP, compactUpTo]
  | n + 1, h => by
    have hn : n < l.length := by omega
    rw [compactUpTo_succ, ← compP_upTo l n (by omega), List.take_add_one, List.getElem?_eq_getElem hn]
    have e1 : l.toArray[n]! = l[n] := by simp [hn]
    rcases n with _ | n
    · simp [compP, compGo, keeps, e1]
    · have hne : l.take (n + 1) ≠ [] := by
        intro e
        have := congrArg List.length e
        simp at this
        rw [this] at hn
        simp at hn
      have e2 : (l.take (n + 1)).getLast hne = l[n] := by
        rw [List.getLast_eq_getElem]
        simp
        congr 1
        omega
      have e3 : l.toArray[n]! = l[n] := by simp [show n < l.length by omega]
      show compP (l.take (n + 1) ++ [l[n + 1]]) = _
      rw [compP_snoc _ _ hne, e2, e1]
      congr 1
      unfold keeps
      rw [e1, Nat.add_sub_cancel, e3]
      by_cases hx : l[n + 1] = l[n]
      · simp [hx]
      · simp [hx]
theorem compP_eq (l : List Pt) : compP l = compactUpTo l.toArray l.length := by rw [← compP_upTo l _ (Nat.le_refl _), List.take_length]
theorem comp_dk {d dk : Array Pt} {k : Nat} (h : CompInv d d.size k dk) : dk.toList.take k = compactUpTo d d.size := by
  have h1 := h.len
  have h2 := h.lt
  have h3 := h.size
  refine List.ext_getElem? fun j => ?_
  by_cases hj : j < k
  · rw [h.low j hj, List.getElem?_take, if_pos hj, Array.getElem?_toList, Array.getElem?_eq_getElem (by omega), getElem!_pos dk j (by omega)]
  · rw [List.getElem?_eq_none (by rw [List.length_take]; omega), List.getElem?_eq_none (by omega)]

def CompPost (base g cap : Nat) (r : List Pt) (w : World) (e : Ending) (w' : World) : Prop :=
  e = .returned (.slice (some ⟨g, 0, none⟩) r.length cap) ∧ OwnR w' base 29 2 pt2 (.slice (some ⟨g, 0, none⟩) r.length cap) r ∧ w.grownBy w' (some g)
theorem grown_drewN {w w' : World} {r : Option Nat} (h : w.grownBy w' r) (n : Nat) : w.grownBy (w'.drewN n) r := ⟨h.os, h.tape, h.output, h.size, h.block⟩
theorem OwnR.drewN {α : Type} {cells : α → List Value} {sz : Nat} {w : World} {base : Nat} {E : TypeId} {v : Value} {l : List α} (h : OwnR w base E sz cells v l) (n : Nat) : OwnR (w.drewN n) base E sz cells v l := h
theorem spot_ne {u v : Pt} (h : u ≠ v) : (u.x == v.x && u.y == v.y) = false := by
  obtain ⟨a, b⟩ := u
  obtain ⟨c, d⟩ := v
  simpa using h
theorem own_cell {w : World} {base g cap : Nat} {d : Array Pt} (h : OwnR w base 29 2 pt2 (.slice (some ⟨g, 0, none⟩) d.size cap) d.toList) {i : Nat} (hi : i < d.size) :
    w.cell? ⟨g, 0 + i * 2, none⟩ = some (.int .i64 d[i]!.x) ∧ w.cell? ⟨g, 0 + i * 2 + 1, none⟩ = some (.int .i64 d[i]!.y) ∧ (∀ j, w.frozen? ⟨g, j, none⟩ = false) ∧ g < w.heap.size := by
  obtain ⟨A, c, e, _, _, hx⟩ := h.form pt2_len
  cases e
  obtain ⟨g', e, _, h2, h3, h4⟩ := hx (by rw [Array.length_toList]; omega)
  cases e
  have hg : d.toList[i]? = some d[i]! := by rw [Array.getElem?_toList, getElem!_pos d i hi, Array.getElem?_eq_getElem]
  exact ⟨h4 i _ hg 0 _ rfl, h4 i _ hg 1 _ rfl, h3, h2⟩
theorem clear_spots {w : World} {base g cap : Nat} {d : Array Pt} (h : OwnR w base 29 2 pt2 (.slice (some ⟨g, 0, none⟩) d.size cap) d.toList) {k : Nat} (hk : k < d.size) (c' : Nat) {o : Nat} (ho : o = k * 2) :
    ∃ w', (∀ ty, (Builtin.clear_ #[28] ty #[.slice (some ⟨g, o, none⟩) (d.size - k) c']).run Tryz.prog w = .ok (.tuple #[]) w') ∧ OwnR w' base 29 2 pt2 (.slice (some ⟨g, 0, none⟩) k cap) (d.toList.take k) ∧ w.grownBy w' (some g) := by
  have e : d.toList.length = d.size := Array.length_toList
  have := run_clear_own (P := Tryz.prog) (sz := 2) (z := .agg #[.int .i64 0, .int .i64 0]) Tryz.underlying28 (fun w => by go_simp) rfl (by omega) (by simp [Value.cells, Value.oneCell']) pt2_len (l := d.toList) (by rw [e]; exact h) (by rw [e]; exact hk) c' ho
  rw [e] at this
  exact this
set_option maxHeartbeats 4000000 in
set_option maxRecDepth 100000 in
theorem compact_arr (base g cap : Nat) (d : Array Pt) (w : World) (h : OwnR w base 29 2 pt2 (.slice (some ⟨g, 0, none⟩) d.size cap) d.toList) (hl : d.size ≤ 65536) (hcap : d.size ≤ cap) :
    Calls Tryz.prog 152 #[.slice (some ⟨g, 0, none⟩) d.size cap] w (CompPost base g cap (compactUpTo d d.size) w) := by
  have HP := Lib.hid (fun (r : List Pt) (n : Nat) (w' : World) (hr : compactUpTo d d.size = r) (hn : r.length = n) (ho : OwnR w' base 29 2 pt2 (.slice (some ⟨g, 0, none⟩) n cap) r) (hg : w.grownBy w' (some g)) => (by subst hr; subst hn; exact ⟨rfl, ho, hg⟩ : CompPost base g cap (compactUpTo d d.size) w (.returned (.slice (some ⟨g, 0, none⟩) n cap)) w'))
  have HS := Lib.hid (fun (hall : ∀ j, j < d.size → keeps d j = true) => (show compactUpTo d d.size = d.toList by rw [compactUpTo_all d _ hall, range_map_get]))
  have HK := Lib.hid (fun (k : Nat) (dk : Array Pt) (hI : CompInv d d.size k dk) => comp_dk hI)
  have HL := Lib.hid (fun (k : Nat) (dk : Array Pt) (hI : CompInv d d.size k dk) => hI.len)
  generalize compactUpTo d d.size = R at *
  have HH := Lib.hid h
  by_cases h2 : d.size < 2
  · clear h
    go_enter Tryz.func152, Tryz.ntmps152
    go_wp2
    go_ret
    exact HP.out d.toList _ w (HS.out (fun j hj => keeps_lt_one d j (by omega))) Array.length_toList HH.out (World.grownBy.refl _ _)
  · clear h
    go_enter Tryz.func152, Tryz.ntmps152
    go_wp2
    go_loopg [3] d.size (fun gg s3 wr => ∃ q : Nat, q + 1 ≤ d.size ∧ d.size - (q + 1) ≤ gg ∧ s3 = .int .i64 ((q : Int) + 1) ∧ OwnR wr base 29 2 pt2 (.slice (some ⟨g, 0, none⟩) d.size cap) d.toList ∧ w.grownBy wr (some g) ∧ ∀ j, j < q + 1 → keeps d j = true)
    case atStart => exact ⟨0, by omega, by omega, rfl, HH.out, World.grownBy.refl _ _, keeps_lt_one d⟩
    case round =>
      obtain ⟨q, hk, hg, rfl, ho, hgr, hall⟩ := hrel
      have z2 : IntKind.i64.wrap ((q : Int) + 1 + 1) = (q : Int) + 1 + 1 := IntWalk.i64_in _ (by omega)
      by_cases hlt : q + 1 < d.size
      · obtain ⟨c1, c2, f1, zg⟩ := own_cell ho hlt
        obtain ⟨c3, c4, _, _⟩ := own_cell ho (i := q) (by omega)
        have A := Lib.hid hall
        have Ho := Lib.hid ho
        have Hg := Lib.hid hgr
        clear hall ho hgr
        rw [Nat.zero_add] at c1 c2 c3 c4
        generalize hx : d[q + 1]! = x at c1 c2
        generalize hy : d[q]! = y at c3 c4
        have B := Lib.hid (show d[q + 1]! = x ∧ d[q]! = y from ⟨hx, hy⟩)
        clear hx hy
        have z1 : IntKind.i64.wrap ((q : Int) + 1 - 1) = (q : Int) := by rw [show (q : Int) + 1 - 1 = q by omega]; exact IntWalk.i64_in _ (by omega)
        have z3 : IntKind.i64.wrap (q : Int) = (q : Int) := IntWalk.i64_in _ (by omega)
        have i0 : (0 : Int) ≤ (q : Int) := by omega
        have i1 : (q : Int) < (d.size : Int) := by omega
        have i2 : (0 : Int) ≤ (q : Int) + 1 := by omega
        have i3 : (q : Int) + 1 < (d.size : Int) := by omega
        have i4 : ((q : Int) + 1).toNat = q + 1 := by omega
        have i5 : (q : Int) + 1 ≤ (d.size : Int) := by omega
        have i6 : (q : Int) + 1 ≤ (cap : Int) := by omega
        by_cases hdup : x = y
        · subst hdup
          have hq := fun W => (eql_spot x.x x.y x.x x.y W)
          go_wp2_with fail
          go_quiet (fail)
          go_wp2
          clear c1 c2 c3 c4 f1
          go_loopg [3, 5] d.size (fun gg s3 s5 wr2 => ∃ (kk p : Nat) (dk : Array Pt), s3 = .int .i64 kk ∧ s5 = .int .i64 ((p : Int) + 1) ∧ q + 1 + (p + 1) ≤ d.size ∧ d.size - (q + 1 + (p + 1)) ≤ gg ∧ OwnR wr2 base 29 2 pt2 (.slice (some ⟨g, 0, none⟩) dk.size cap) dk.toList ∧ w.grownBy wr2 (some g) ∧ CompInv d (q + 1 + (p + 1)) kk dk)
          case atStart => exact ⟨q + 1, 0, d, by go_num, rfl, by omega, by omega, Ho.out, grown_drewN Hg.out _, CompInv.start A.out (keeps_neg (by omega) (by rw [B.out.1, Nat.add_sub_cancel, B.out.2]))⟩
          case round =>
            obtain ⟨kk, p, dk, rfl, rfl, hle, hg2, ho2, hgr2, hI⟩ := hrel
            have hkk := hI.lt
            have hds := hI.size
            have I2 := Lib.hid hI
            have Ho2 := Lib.hid ho2
            have Hg2 := Lib.hid hgr2
            have y2 : IntKind.i64.wrap ((p : Int) + 1 + 1) = (p : Int) + 1 + 1 := IntWalk.i64_in _ (by omega)
            by_cases hlt2 : q + 1 + (p + 1) < d.size
            · obtain ⟨m1, m2, _, zg2⟩ := own_cell ho2 (i := q + 1 + (p + 1)) (by omega)
              obtain ⟨m3, m4, _, _⟩ := own_cell ho2 (i := q + 1 + p) (by omega)
              obtain ⟨m5, m6, f2, _⟩ := own_cell ho2 (i := kk) (by omega)
              rw [hI.high (q + 1 + (p + 1)) (by omega), show 0 + (q + 1 + (p + 1)) * 2 = (q + 1) * 2 + (p + 1) * 2 by omega] at m1 m2
              rw [hI.high (q + 1 + p) (by omega), show 0 + (q + 1 + p) * 2 = (q + 1) * 2 + p * 2 by omega] at m3 m4
              rw [Nat.zero_add] at m5 m6
              clear ho2 hgr2 hI
              generalize hu : d[q + 1 + (p + 1)]! = u at m1 m2
              generalize hv : d[q + 1 + p]! = v at m3 m4
              generalize dk[kk]! = old at m5 m6
              have C := Lib.hid (show d[q + 1 + (p + 1)]! = u ∧ d[q + 1 + p]! = v from ⟨hu, hv⟩)
              clear hu hv
              have y1 : IntKind.i64.wrap ((p : Int) + 1 - 1) = (p : Int) := by rw [show (p : Int) + 1 - 1 = p by omega]; exact IntWalk.i64_in _ (by omega)
              have y3 : IntKind.i64.wrap (p : Int) = (p : Int) := IntWalk.i64_in _ (by omega)
              have y4 : IntKind.i64.wrap ((kk : Int) + 1) = (kk : Int) + 1 := IntWalk.i64_in _ (by omega)
              have j0 : (0 : Int) ≤ (p : Int) := by omega
              have j1 : (p : Int) < ((d.size - (q + 1) : Nat) : Int) := by omega
              have j2 : (0 : Int) ≤ (p : Int) + 1 := by omega
              have j3 : (p : Int) + 1 < ((d.size - (q + 1) : Nat) : Int) := by omega
              have j4 : (0 : Int) ≤ (kk : Int) := by omega
              have j5 : (kk : Int) < (d.size : Int) := by omega
              have j6 : ((p : Int) + 1).toNat = p + 1 := by omega
              by_cases huv : u = v
              · subst huv
                have hq := fun W => (neq_spot u.x u.y u.x u.y W)
                go_wp2_with fail
                go_quiet (fail)
                go_wp2
                go_roundg (d.size - (q + 1 + (p + 1 + 1)))
                case measure => omega
                case rel => exact ⟨kk, p + 1, dk, rfl, by go_num, by omega, by omega, Ho2.out, grown_drewN Hg2.out _, I2.out.skip (keeps_neg (by omega) (by rw [C.out.1, show q + 1 + (p + 1) - 1 = q + 1 + p by omega, C.out.2]))⟩
              · have hq := fun W => (neq_spot u.x u.y v.x v.y W)
                simp only [spot_ne huv, Bool.not_false] at hq
                go_wp2_with fail
                go_quiet (fail)
                go_wp2
                go_roundg (d.size - (q + 1 + (p + 1 + 1)))
                case measure => omega
                case rel =>
                  have hl2 : (dk.setIfInBounds kk u).toList = dk.toList.set kk u := by simp
                  refine ⟨kk + 1, p + 1, dk.setIfInBounds kk u, by go_num, by go_num, by omega, by omega, ?_, ?_, by have := I2.out.keep hlt2 (keeps_pos (by rw [C.out.1, show q + 1 + (p + 1) - 1 = q + 1 + p by omega, C.out.2]; exact huv)); rwa [C.out.1] at this⟩
                  · rw [hl2, Array.size_setIfInBounds, ← Array.length_toList]
                    exact (OwnR.setPt (by rw [Array.length_toList]; exact Ho2.out.drewN _) kk u).1
                  · exact (grown_drewN Hg2.out _).trans (OwnR.setPt (base := base) (E := 29) (c := cap) (l := dk.toList) (by rw [Array.length_toList]; exact Ho2.out.drewN _) kk u).2
            · have hend : q + 1 + (p + 1) = d.size := by omega
              rw [hend] at I2
              have hkd : kk < dk.size := by omega
              obtain ⟨w5, hcl, q1, q2⟩ := clear_spots (base := base) (cap := cap) Ho2.out hkd (cap - kk) (o := kk * 2) rfl
              rw [hds] at hcl
              have hRk := HL.out kk dk I2.out
              have hRt := HK.out kk dk I2.out
              have k0 : (0 : Int) ≤ (kk : Int) := by omega
              have k1 : (kk : Int) ≤ (d.size : Int) := by omega
              have k2 : (kk : Int) ≤ (cap : Int) := by omega
              have q1 := Lib.hid q1
              have q2 := Lib.hid (Hg2.out.trans q2)
              clear ho2 hI
              rw [hRt] at q1
              go_wp2
              go_ret
              exact HP.out R kk w5 rfl hRk q1.out q2.out
        · have hq := fun W => (eql_spot x.x x.y y.x y.y W)
          simp only [spot_ne hdup] at hq
          go_wp2_with fail
          go_quiet (fail)
          go_wp2
          go_roundg (d.size - (q + 1 + 1))
          case measure => omega
          case rel =>
            refine ⟨q + 1, by omega, Nat.le_refl _, by go_num, Ho.out.drewN _, grown_drewN Hg.out _, fun j hj => ?_⟩
            by_cases e : j = q + 1
            · subst e
              exact keeps_pos (by rw [B.out.1, Nat.add_sub_cancel, B.out.2]; exact hdup)
            · exact A.out j (by omega)
      · have hqe : q + 1 = d.size := by omega
        have Ho := Lib.hid ho
        clear ho
        have h0 := HS.out (fun j hj => hall j (by omega))
        have i9 : (q : Int) + 1 = (d.size : Int) := by omega
        go_wp2
        go_ret
        exact HP.out d.toList _ _ h0 Array.length_toList Ho.out hgr
theorem compact_own (base g cap : Nat) (l : List Pt) (w : World) (h : OwnR w base 29 2 pt2 (.slice (some ⟨g, 0, none⟩) l.length cap) l) (hl : l.length ≤ 65536) (hcap : l.length ≤ cap) :
    Calls Tryz.prog 152 #[.slice (some ⟨g, 0, none⟩) l.length cap] w (CompPost base g cap (compP l) w) := by
  have := compact_arr base g cap l.toArray w (by simpa using h) (by simpa using hl) (by simpa using hcap)
  rw [List.size_toArray, ← compP_eq] at this
  exact this
end Go.Proofs.YtdhakoecjmaebaaGreat
