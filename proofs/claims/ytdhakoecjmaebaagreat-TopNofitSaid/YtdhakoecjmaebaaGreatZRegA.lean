/-
  Rows of rows: the comparison of two rows of spots, slices.CompareFunc, slices.Equal, the two closures of nofit.Regions; slices.SortFunc at rows.
-/
import Derived.Test.YtdhakoecjmaebaaGreatZHullA
import Derived.Test.YtdhakoecjmaebaaGreatZRefT
namespace Go.Proofs.YtdhakoecjmaebaaGreat
open Go.RowKit Go.Shelf Go.Lib Go.Sort
set_option linter.unusedSimpArgs false
set_option linter.unusedVariables false

/-- Grown by new blocks and draws alone. -/
def Grew (w w' : World) : Prop := ∃ q os, w' = grow (w.drewN q) os
theorem Grew.refl (w : World) : Grew w w := ⟨0, #[], by rw [grow_empty]; rfl⟩
theorem Grew.trans {a b c : World} (h1 : Grew a b) (h2 : Grew b c) : Grew a c := by
  obtain ⟨q, os, rfl⟩ := h1
  obtain ⟨q', os', rfl⟩ := h2
  refine ⟨q + q', os ++ os', ?_⟩
  rw [← grow_grow]
  unfold grow World.drewN
  simp only [Nat.add_assoc]
theorem Grew.alloc {a b : World} (h : Grew a b) (o : Obj) : Grew a (b.alloc o) := h.trans ⟨0, #[o], by rw [alloc_eq_grow]; rfl⟩
theorem Grew.drew {a b : World} (h : Grew a b) : Grew a b.drew := h.trans ⟨1, #[], by rw [grow_empty]; rfl⟩
theorem Grew.drewN {a b : World} (h : Grew a b) (n : Nat) : Grew a (b.drewN n) := h.trans ⟨n, #[], by rw [grow_empty]⟩
theorem Grew.later {a b : World} (h : Grew a b) : Later a b := by
  obtain ⟨q, os, rfl⟩ := h
  have h1 : ∀ (os : List Obj) (w : World), Later a w → Later a (grow w os.toArray) := by
    intro os
    induction os with
    | nil => intro w h; rw [show ([] : List Obj).toArray = #[] from rfl, grow_empty]; exact h
    | cons o os ih =>
      intro w h
      have := ih (w.alloc o) (h.alloc o)
      rw [alloc_eq_grow, grow_grow] at this
      rw [show (o :: os).toArray = #[o] ++ os.toArray by simp]
      exact this
  have := h1 os.toList (a.drewN q) ((Later.refl _).drewN q)
  simpa using this

/-- Rows compared spot by spot; a row that begins another one comes first. -/
def cmpRow : List Pt → List Pt → Int
  | [], [] => 0
  | [], _ :: _ => -1
  | _ :: _, [] => 1
  | a :: x, b :: y => if cmpP a b = 0 then cmpRow x y else cmpP a b
theorem cmpP_cases (a b : Pt) : (lessP a b = true ∧ cmpP a b < 0) ∨ (a = b ∧ cmpP a b = 0) ∨ (lessP b a = true ∧ 0 < cmpP a b) := by
  obtain ⟨ax, ay⟩ := a
  obtain ⟨bx, b_⟩ := b
  unfold cmpP orI orI orI
  simp only [less_iff, Pt.mk.injEq]
  rcases compareInt_cases ax bx with ⟨h, e⟩ | ⟨h, e⟩ | ⟨h, e⟩ <;> rcases compareInt_cases ay b_ with ⟨h', e'⟩ | ⟨h', e'⟩ | ⟨h', e'⟩ <;> rw [e, e'] <;> simp <;> omega
theorem less_trans {a b c : Pt} (h1 : lessP a b = true) (h2 : lessP b c = true) : lessP a c = true := by rw [less_iff] at *; omega
theorem less_irr {a : Pt} (h : lessP a a = true) : False := by rw [less_iff] at h; omega
theorem cmpP_self (a : Pt) : cmpP a a = 0 := by
  rcases cmpP_cases a a with ⟨h, _⟩ | ⟨_, h⟩ | ⟨h, _⟩
  · exact (less_irr h).elim
  · exact h
  · exact (less_irr h).elim
theorem cmpRow_self : ∀ x : List Pt, cmpRow x x = 0
  | [] => rfl
  | a :: x => by rw [cmpRow, if_pos (cmpP_self a), cmpRow_self x]
theorem cmpRow_lt {a b : Pt} {x y : List Pt} : cmpRow (a :: x) (b :: y) < 0 ↔ lessP a b = true ∨ (a = b ∧ cmpRow x y < 0) := by
  rw [cmpRow]
  rcases cmpP_cases a b with ⟨h, e⟩ | ⟨h, e⟩ | ⟨h, e⟩
  · rw [if_neg (by omega)]
    exact ⟨fun _ => .inl h, fun _ => e⟩
  · subst h
    rw [if_pos e]
    exact ⟨fun k => .inr ⟨rfl, k⟩, fun k => k.elim (fun k => (less_irr k).elim) (fun k => k.2)⟩
  · rw [if_neg (by omega)]
    exact ⟨fun k => by omega, fun k => k.elim (fun k => (less_irr (less_trans h k)).elim) (fun k => by rw [k.1] at h; exact (less_irr h).elim)⟩
theorem cmpRow_trans : ∀ {x y z : List Pt}, cmpRow x y < 0 → cmpRow y z < 0 → cmpRow x z < 0
  | [], [], z, h1, h2 => h2
  | [], b :: y, [], h1, h2 => by simp [cmpRow] at h2
  | [], b :: y, c :: z, h1, h2 => by simp [cmpRow]
  | a :: x, [], z, h1, h2 => by simp [cmpRow] at h1
  | a :: x, b :: y, [], h1, h2 => by simp [cmpRow] at h2
  | a :: x, b :: y, c :: z, h1, h2 => by
    rw [cmpRow_lt] at *
    rcases h1 with h1 | ⟨rfl, h1⟩
    · rcases h2 with h2 | ⟨rfl, h2⟩
      · exact .inl (less_trans h1 h2)
      · exact .inl h1
    · rcases h2 with h2 | ⟨rfl, h2⟩
      · exact .inl h2
      · exact .inr ⟨rfl, cmpRow_trans h1 h2⟩
theorem cmpRow_ntrans : ∀ {x y z : List Pt}, ¬ cmpRow x y < 0 → ¬ cmpRow y z < 0 → ¬ cmpRow x z < 0
  | [], [], z, h1, h2 => h2
  | [], b :: y, z, h1, h2 => by simp [cmpRow] at h1
  | a :: x, y, [], h1, h2 => by simp [cmpRow]
  | a :: x, [], c :: z, h1, h2 => by simp [cmpRow] at h2
  | a :: x, b :: y, c :: z, h1, h2 => by
    rw [cmpRow_lt] at *
    rintro (h | ⟨rfl, h⟩)
    · rcases cmpP_cases a b with ⟨k, _⟩ | ⟨k, _⟩ | ⟨k, _⟩
      · exact h1 (.inl k)
      · subst k; exact h2 (.inl h)
      · exact h2 (.inl (less_trans k h))
    · rcases cmpP_cases a b with ⟨k, _⟩ | ⟨k, _⟩ | ⟨k, _⟩
      · exact h1 (.inl k)
      · subst k; exact cmpRow_ntrans (fun k => h1 (.inr ⟨rfl, k⟩)) (fun k => h2 (.inr ⟨rfl, k⟩)) h
      · exact h2 (.inl k)

theorem rows_next {x y : List Pt} {k : Nat} (hx : k < x.length) (hy : k < y.length) : cmpRow (x.drop k) (y.drop k) = if cmpP x[k] y[k] = 0 then cmpRow (x.drop (k + 1)) (y.drop (k + 1)) else cmpP x[k] y[k] := by
  rw [List.drop_eq_getElem_cons hx, List.drop_eq_getElem_cons hy, cmpRow]
theorem rows_long {x y : List Pt} {k : Nat} (hx : k < x.length) (hy : y.length ≤ k) : cmpRow (x.drop k) (y.drop k) = 1 := by
  rw [List.drop_eq_getElem_cons hx, List.drop_eq_nil_of_le hy, cmpRow]
theorem rows_end {x y : List Pt} {k : Nat} (hx : x.length ≤ k) (hk : k ≤ x.length) : cmpRow (x.drop k) (y.drop k) = if x.length < y.length then -1 else 0 := by
  rw [List.drop_eq_nil_of_le hx]
  split
  · rw [List.drop_eq_getElem_cons (show k < y.length by omega), cmpRow]
  · rw [List.drop_eq_nil_of_le (by omega), cmpRow]
set_option maxHeartbeats 4000000 in
set_option maxRecDepth 100000 in
theorem rows_cmp (A B : Option Addr) (c d : Nat) (x y : List Pt) (w : World) (hx : x.length ≤ 65536) (hy : y.length ≤ 65536) (px : Pts w A x) (py : Pts w B y) :
    Calls Tryz.prog 69 #[.slice A x.length c, .slice B y.length d, .func (.func 70) #[] #[]] w fun e w' => e = .returned (.int .i64 (cmpRow x y)) ∧ Grew w w' := by
  obtain ⟨v, hv⟩ : ∃ v, v = cmpRow x y := ⟨_, rfl⟩
  have Hv := Lib.hid hv
  rw [← hv]
  clear hv
  have HN := Lib.hid nofit_cmp
  go_enter Tryz.func69, Tryz.ntmps69
  go_upto_region 2 with fail
  go_loopw [13] (fun iv wr => ∃ k : Nat, k ≤ x.length ∧ iv = .int .i64 k ∧ Hid (v = cmpRow (x.drop k) (y.drop k)) ∧ Grew w wr) (fun iv _ => x.length - (intOf iv).toNat)
  case atStart => exact ⟨0, by omega, rfl, Lib.hid Hv.out, Grew.refl _⟩
  case round =>
    obtain ⟨k, hk, rfl, He, hg⟩ := hrel
    have hb := hg.later
    by_cases hlt : k < x.length
    · obtain ⟨b1, o1, rfl, e1, e2⟩ := (px.later hb).at_ hlt
      have zb1 := World.block_lt_of_cell? _ _ e1
      by_cases hlt2 : k < y.length
      · obtain ⟨b2, o2, rfl, f1, f2⟩ := (py.later hb).at_ hlt2
        have zb2 := World.block_lt_of_cell? _ _ f1
        have Hn := Lib.hid (rows_next hlt hlt2)
        have HC := Lib.hid (fun W => HN.out x[k] y[k] W)
        generalize x[k] = p at *
        generalize y[k] = q at *
        obtain ⟨p0, p1⟩ := p
        obtain ⟨q0, q1⟩ := q
        simp only [] at e1 e2 f1 f2 HC
        generalize cmpP ⟨p0, p1⟩ ⟨q0, q1⟩ = n at *
        by_cases h0 : n = 0
        · have Hy := Lib.hid (show v = cmpRow (x.drop (k + 1)) (y.drop (k + 1)) by rw [He.out, Hn.out, if_pos h0])
          subst h0
          clear Hn He
          go_wp2_with (go_at_call 70; (with_reducible refine (HC.out _).mono ?_); rintro e w1 ⟨rfl, hg1⟩)
          have hg1' : Grew _ w1 := hg1
          go_roundw
          case rel => exact ⟨k + 1, by omega, by go_num, Hy, ((hg.alloc _).alloc _).trans hg1'⟩
          case measure => simp [intOf]; omega
        · have Hy := Lib.hid (show v = n by rw [He.out, Hn.out, if_neg h0])
          have d0 : (n != 0) = true := by simpa using h0
          clear Hn He
          go_wp2_with (go_at_call 70; (with_reducible refine (HC.out _).mono ?_); rintro e w1 ⟨rfl, hg1⟩)
          have hg1' : Grew _ w1 := hg1
          go_ret
          exact ⟨ret_int Hy.out.symm, ((hg.alloc _).alloc _).trans hg1'⟩
      · have Hy := Lib.hid (show v = 1 by rw [He.out, rows_long hlt (by omega)])
        go_wp2
        go_ret
        exact ⟨ret_int Hy.out.symm, hg.alloc _⟩
    · have Hn := Lib.hid (rows_end (y := y) (show x.length ≤ k by omega) hk)
      by_cases hl : x.length < y.length
      · have Hy := Lib.hid (show v = -1 by rw [He.out, Hn.out, if_pos hl])
        go_wp2
        go_ret
        exact ⟨ret_int Hy.out.symm, hg⟩
      · have Hy := Lib.hid (show v = 0 by rw [He.out, Hn.out, if_neg hl])
        go_wp2
        go_ret
        exact ⟨ret_int Hy.out.symm, hg⟩
set_option maxHeartbeats 1000000 in
theorem regions_cmp (A B : Option Addr) (c d : Nat) (x y : List Pt) (w : World) (hx : x.length ≤ 65536) (hy : y.length ≤ 65536) (px : Pts w A x) (py : Pts w B y) :
    Calls Tryz.prog 68 #[.slice A x.length c, .slice B y.length d] w fun e w' => e = .returned (.int .i64 (cmpRow x y)) ∧ Grew w w' := by
  have HC := Lib.hid (rows_cmp A B c d x y w hx hy px py)
  generalize cmpRow x y = n at *
  go_enter Tryz.func68, Tryz.ntmps68
  go_wp2_with (go_at_call 69; (with_reducible refine HC.out.mono ?_); rintro e w1 ⟨rfl, hg1⟩)
  go_ret
  exact ⟨rfl, hg1⟩

/- Equal rows. -/
theorem drewN_add (w : World) (a b : Nat) : (w.drewN a).drewN b = w.drewN (a + b) := by unfold World.drewN; simp only [Nat.add_assoc]
theorem drewN_more {w w' : World} (h : ∃ q, w' = w.drewN q) (n : Nat) : ∃ q, w'.drewN n = w.drewN q := by
  obtain ⟨q, rfl⟩ := h
  exact ⟨q + n, drewN_add _ _ _⟩
theorem eq_next {x y : List Pt} {k : Nat} (hx : k < x.length) (hy : k < y.length) : (x.drop k = y.drop k) ↔ (x[k] = y[k] ∧ x.drop (k + 1) = y.drop (k + 1)) := by
  rw [List.drop_eq_getElem_cons hx, List.drop_eq_getElem_cons hy, List.cons.injEq]
set_option maxHeartbeats 2000000 in
theorem rows_eq (A B : Option Addr) (c d : Nat) (x y : List Pt) (w : World) (hx : x.length ≤ 65536) (hy : y.length ≤ 65536) (px : Pts w A x) (py : Pts w B y) :
    Calls Tryz.prog 73 #[.slice A x.length c, .slice B y.length d] w (fun e w' => e = .returned (.bool (decide (x = y))) ∧ ∃ q, w' = w.drewN q) := by
  obtain ⟨v, hv⟩ : ∃ v, v = decide (x = y) := ⟨_, rfl⟩
  have Hv := Lib.hid hv
  rw [← hv]
  clear hv
  by_cases hl : x.length = y.length
  · go_enter Tryz.func73, Tryz.ntmps73
    rw [← hl]
    go_upto_region 4 with fail
    go_loopw [13] (fun iv wr => ∃ k : Nat, k ≤ x.length ∧ iv = .int .i64 k ∧ Hid (v = decide (x.drop k = y.drop k)) ∧ Hid (∃ q, wr = w.drewN q)) (fun iv _ => x.length - (intOf iv).toNat)
    case atStart => exact ⟨0, by omega, rfl, Lib.hid Hv.out, Lib.hid ⟨0, rfl⟩⟩
    case round =>
      obtain ⟨k, hk, rfl, He, Hq⟩ := hrel
      have hb : Later w wr := by
        obtain ⟨q0, hq0⟩ := Hq.out
        rw [hq0]; exact (Later.refl _).drewN _
      by_cases hlt : k < x.length
      · obtain ⟨b1, o1, rfl, e1, e2⟩ := (px.later hb).at_ hlt
        have zb1 := World.block_lt_of_cell? _ _ e1
        have hlt2 : k < y.length := by omega
        obtain ⟨b2, o2, rfl, f1, f2⟩ := (py.later hb).at_ hlt2
        have zb2 := World.block_lt_of_cell? _ _ f1
        have Hn := Lib.hid (eq_next hlt hlt2)
        generalize x[k] = p at *
        generalize y[k] = q at *
        have hk0 : (0 : Int) ≤ (k : Int) := by omega
        have hk1 : (k : Int) < (x.length : Int) := by omega
        have hq := fun W => neq_spot p.x p.y q.x q.y W
        by_cases h0 : p = q
        · have Hy := Lib.hid (show v = decide (x.drop (k + 1) = y.drop (k + 1)) by rw [He.out]; simp only [Hn.out, h0, true_and])
          subst h0
          have hb0 : (!(p.x == p.x && p.y == p.y)) = false := by simp
          simp only [hb0] at hq
          clear Hn He hb0
          go_upto_region 6 with fail
          go_quiet (fail)
          go_wp2
          go_roundw
          case rel => exact ⟨k + 1, by omega, by go_num, Hy, Lib.hid (drewN_more Hq.out _)⟩
          case measure => simp [intOf]; omega
        · have Hy := Lib.hid (show v = false by rw [He.out]; simp only [Hn.out, h0, false_and, decide_false])
          have hb0 : (!(p.x == q.x && p.y == q.y)) = true := by rw [spot_ne h0]; rfl
          simp only [hb0] at hq
          clear Hn He hb0
          go_upto_region 6 with fail
          go_quiet (fail)
          go_wp2
          go_ret
          exact ⟨ret_bool Hy.out.symm, drewN_more Hq.out _⟩
      · have Hy := Lib.hid (show v = true by rw [He.out, List.drop_eq_nil_of_le (by omega), List.drop_eq_nil_of_le (by omega)]; simp)
        go_wp2
        go_ret
        exact ⟨ret_bool Hy.out.symm, Hq.out⟩
  · have Hy := Lib.hid (show v = false by rw [Hv.out]; simp only [decide_eq_false_iff_not]; intro e; exact hl (by rw [e]))
    have dn : ((x.length : Int) != (y.length : Int)) = true := by simp only [bne_iff_ne, ne_eq]; omega
    go_enter Tryz.func73, Tryz.ntmps73
    go_wp2
    go_ret
    exact ⟨ret_bool Hy.out.symm, 0, rfl⟩
set_option maxHeartbeats 1000000 in
theorem regions_eq (A B : Option Addr) (c d : Nat) (x y : List Pt) (w : World) (hx : x.length ≤ 65536) (hy : y.length ≤ 65536) (px : Pts w A x) (py : Pts w B y) :
    Calls Tryz.prog 72 #[.slice A x.length c, .slice B y.length d] w (fun e w' => e = .returned (.bool (decide (x = y))) ∧ ∃ q, w' = w.drewN q) := by
  have HC := Lib.hid (rows_eq A B c d x y w hx hy px py)
  generalize decide (x = y) = n at *
  go_enter Tryz.func72, Tryz.ntmps72
  go_wp2_with (go_at_call 73; (with_reducible refine HC.out.mono ?_); rintro e w1 ⟨rfl, hg1⟩)
  go_ret
  exact ⟨rfl, hg1⟩
end Go.Proofs.YtdhakoecjmaebaaGreat
