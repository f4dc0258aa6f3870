/-
  Shapes and puts in memory; the walk of place.Poly.
-/
import Derived.Test.YtolddfapanabbaaPlC
namespace Go.Proofs.Ytolddfapanabbaa
open Go.RowKit
set_option linter.unusedSimpArgs false
set_option linter.unusedVariables false

/-- A shape. -/
structure Sh where
  pa : Option Addr
  pc : Nat
  ps : List Pt
  gr : Int
  mt : Bool
  ax : Int
  ay : Int
def Sh.cells (s : Sh) : List Value := [.slice s.pa s.ps.length s.pc, .int .i64 s.gr, .bool s.mt, .int .i64 s.ax, .int .i64 s.ay]
def ShOk (w : World) (s : Sh) : Prop := s.ps.length ≤ s.pc ∧ s.pc ≤ maxLen ∧ Pts w s.pa s.ps ∧ I64 s.gr ∧ I64 s.ax ∧ I64 s.ay
theorem ShOk.later {w w' : World} {s : Sh} (h : ShOk w s) (k : Later w w') : ShOk w' s := ⟨h.1, h.2.1, h.2.2.1.later k, h.2.2.2⟩
/-- A put. -/
structure Pu where
  sh : Int
  fl : Bool
  q : Int
  x : Int
  y : Int
def Pu.cells (p : Pu) : List Value := [.int .i64 p.sh, .bool p.fl, .int .i64 p.q, .int .i64 p.x, .int .i64 p.y]
def Pu.agg (p : Pu) : Value := .agg #[.int .i64 p.sh, .bool p.fl, .int .i64 p.q, .int .i64 p.x, .int .i64 p.y]
def PuOk (w : World) (p : Pu) : Prop := I64 p.sh ∧ I64 p.q ∧ I64 p.x ∧ I64 p.y
def Shapes (w : World) (A : Option Addr) (l : List Sh) : Prop := ListAt w 5 Sh.cells ShOk A l
theorem Shapes.later {w w' : World} {A : Option Addr} {l : List Sh} (h : Shapes w A l) (k : Later w w') : Shapes w' A l := ListAt.later h (fun _ ho => ho.later k) k
def Puts (w : World) (A : Option Addr) (l : List Pu) : Prop := ListAt w 5 Pu.cells PuOk A l
theorem Puts.later {w w' : World} {A : Option Addr} {l : List Pu} (h : Puts w A l) (k : Later w w') : Puts w' A l := ListAt.later h (fun _ ho => ho) k
theorem Shapes.at_ {w : World} {A : Option Addr} {l : List Sh} (h : Shapes w A l) {k : Nat} (hk : k < l.length) :
    ∃ b o, A = some ⟨b, o, none⟩ ∧ w.cell? ⟨b, o + k * 5, none⟩ = some (.slice (l[k]).pa (l[k]).ps.length (l[k]).pc) ∧ w.cell? ⟨b, o + k * 5 + 1, none⟩ = some (.int .i64 (l[k]).gr) ∧ w.cell? ⟨b, o + k * 5 + 2, none⟩ = some (.bool (l[k]).mt) ∧
      w.cell? ⟨b, o + k * 5 + 3, none⟩ = some (.int .i64 (l[k]).ax) ∧ w.cell? ⟨b, o + k * 5 + 4, none⟩ = some (.int .i64 (l[k]).ay) ∧ ShOk w (l[k]) := by
  obtain ⟨b, o, e, hc⟩ := h (by omega)
  obtain ⟨h1, h2⟩ := hc k _ (List.getElem?_eq_getElem hk)
  exact ⟨b, o, e, h1 0 _ rfl, h1 1 _ rfl, h1 2 _ rfl, h1 3 _ rfl, h1 4 _ rfl, h2⟩
theorem Puts.at_ {w : World} {A : Option Addr} {l : List Pu} (h : Puts w A l) {k : Nat} (hk : k < l.length) :
    ∃ b o, A = some ⟨b, o, none⟩ ∧ w.cell? ⟨b, o + k * 5, none⟩ = some (.int .i64 (l[k]).sh) ∧ w.cell? ⟨b, o + k * 5 + 1, none⟩ = some (.bool (l[k]).fl) ∧ w.cell? ⟨b, o + k * 5 + 2, none⟩ = some (.int .i64 (l[k]).q) ∧
      w.cell? ⟨b, o + k * 5 + 3, none⟩ = some (.int .i64 (l[k]).x) ∧ w.cell? ⟨b, o + k * 5 + 4, none⟩ = some (.int .i64 (l[k]).y) ∧ PuOk w (l[k]) := by
  obtain ⟨b, o, e, hc⟩ := h (by omega)
  obtain ⟨h1, h2⟩ := hc k _ (List.getElem?_eq_getElem hk)
  exact ⟨b, o, e, h1 0 _ rfl, h1 1 _ rfl, h1 2 _ rfl, h1 3 _ rfl, h1 4 _ rfl, h2⟩

def gs (l : List Sh) (k : Nat) : Sh := l.getD k ⟨none, 0, [], 0, false, 0, 0⟩
/-- The placed polygon, before it is checked. -/
def placedPs (p : Pu) (s : List Pt) : List Pt := (turnPs p.fl p.q s).map (mvP ⟨p.x, p.y⟩)
/-- What place.Poly returns. -/
def polyR (l : List Sh) (p : Pu) : List Pt × Int :=
  if p.sh < 0 ∨ (l.length : Int) ≤ p.sh ∨ outsideB p.x p.y = true then ([], 3)
  else if checkI (gs l p.sh.toNat).ps ≠ 0 then ([], checkI (gs l p.sh.toNat).ps)
  else if checkI (placedPs p (gs l p.sh.toNat).ps) ≠ 0 then ([], checkI (placedPs p (gs l p.sh.toNat).ps))
  else (placedPs p (gs l p.sh.toNat).ps, 0)
def PolyPost (r : List Pt × Int) (w : World) (e : Ending) (w' : World) : Prop :=
  (r.2 = 0 ∧ ∃ A c, e = .returned (.tuple #[.slice A r.1.length c, .int .i64 0]) ∧ r.1.length ≤ c ∧ c ≤ maxLen ∧ Pts w' A r.1 ∧ Later w w') ∨
  (r.2 ≠ 0 ∧ e = .returned (.tuple #[.slice none 0 0, .int .i64 r.2]) ∧ Later w w')

theorem near_of_check {ps : List Pt} (h : checkI ps = 0) : ∀ p ∈ ps, NearP 1048576 p := by
  unfold checkI at h
  split at h
  · cases h
  · split at h
    · cases h
    · split at h
      · cases h
      · rename_i h'
        intro p hp
        have : outsideB p.x p.y = false := by
          rw [Bool.not_eq_true, List.any_eq_false] at h'
          simpa using h' p hp
        simp only [outsideB, Bool.or_eq_false_iff, decide_eq_false_iff_not] at this
        unfold NearP
        omega
theorem len_of_check {ps : List Pt} (h : checkI ps = 0) : ps.length ≤ 40 := by
  unfold checkI at h
  split at h
  · cases h
  · omega
theorem turnPs_len (f : Bool) (q : Int) (ps : List Pt) : (turnPs f q ps).length = ps.length := by unfold turnPs; split <;> simp
theorem turnPs_near {n : Int} {f : Bool} {q : Int} {ps : List Pt} (h : ∀ p ∈ ps, NearP n p) : ∀ p ∈ turnPs f q ps, NearP n p := by
  intro p hp
  unfold turnPs at hp
  split at hp
  · rw [List.mem_reverse] at hp
    obtain ⟨r, hr, rfl⟩ := List.mem_map.1 hp
    exact apply_near (h r hr)
  · obtain ⟨r, hr, rfl⟩ := List.mem_map.1 hp
    exact apply_near (h r hr)
theorem outside_near {x y : Int} (h : outsideB x y = false) : NearP 1048576 ⟨x, y⟩ := by
  simp only [outsideB, Bool.or_eq_false_iff, decide_eq_false_iff_not] at h
  unfold NearP
  simp only []
  omega

section
variable (C : Option Addr) (cc : Nat) (l : List Sh) (p : Pu) (w : World)
set_option maxHeartbeats 2000000 in
theorem place_Poly_range (hl : l.length ≤ 65536) (h : p.sh < 0 ∨ (l.length : Int) ≤ p.sh ∨ outsideB p.x p.y = true) :
    Calls Try.prog 30 #[.slice C l.length cc, p.agg] w (Ret (.tuple #[.slice none 0 0, .int .i64 3]) w) := by
  unfold Pu.agg
  obtain ⟨sh, fl, q, x, y⟩ := p
  simp only [] at h
  by_cases h1 : sh < 0
  · have d1 : decide (sh < 0) = true := by simpa using h1
    go_enter Try.func30, Try.ntmps30
    go_wp2
    go_ret2
    exact ⟨rfl, (by repeat' (with_reducible first | exact Later.refl _ | assumption | refine Later.drew ?_ | refine Later.drewN ?_ _ | refine Later.alloc ?_ _ | refine Later.put ?_ (by omega) _ | refine Later.trans ?_ (by assumption)))⟩
  · have d1 : decide (sh < 0) = false := by simpa using h1
    by_cases h2 : (l.length : Int) ≤ sh
    · have d2 : decide ((l.length : Int) ≤ sh) = true := by simpa using h2
      go_enter Try.func30, Try.ntmps30
      go_wp2
      go_ret2
      exact ⟨rfl, (by repeat' (with_reducible first | exact Later.refl _ | assumption | refine Later.drew ?_ | refine Later.drewN ?_ _ | refine Later.alloc ?_ _ | refine Later.put ?_ (by omega) _ | refine Later.trans ?_ (by assumption)))⟩
    · have d2 : decide ((l.length : Int) ≤ sh) = false := by simpa using h2
      have h3 : outsideB x y = true := by
        rcases h with h | h | h
        · exact absurd h h1
        · exact absurd h h2
        · exact h
      have HB := Lib.hid (fun W => place_beyond x y W)
      rw [h3] at HB
      clear h h3
      go_enter Try.func30, Try.ntmps30
      go_wp2_with (first | (go_at_call 52; (with_reducible refine (HB.out _).mono ?_); rintro e w1 ⟨rfl, hb1⟩))
      go_ret2
      exact ⟨rfl, (by repeat' (with_reducible first | exact Later.refl _ | assumption | refine Later.drew ?_ | refine Later.drewN ?_ _ | refine Later.alloc ?_ _ | refine Later.put ?_ (by omega) _ | refine Later.trans ?_ (by assumption)))⟩

set_option maxHeartbeats 4000000 in
theorem place_Poly_in (hs : Shapes w C l) (hl : l.length ≤ 65536) (k : Nat) (hk : k < l.length) (hsh : p.sh = (k : Int)) (ho : outsideB p.x p.y = false) (hlen : (l[k]).ps.length ≤ 1099511627776) :
    Calls Try.prog 30 #[.slice C l.length cc, p.agg] w (PolyPost (if checkI (l[k]).ps ≠ 0 then ([], checkI (l[k]).ps) else if checkI (placedPs p (l[k]).ps) ≠ 0 then ([], checkI (placedPs p (l[k]).ps)) else (placedPs p (l[k]).ps, 0)) w) := by
  have HB := Lib.hid (fun W => place_beyond p.x p.y W)
  rw [ho] at HB
  have hnr := outside_near ho
  unfold Pu.agg
  obtain ⟨sh, fl, q, x, y⟩ := p
  simp only [] at hsh HB hnr
  subst hsh
  obtain ⟨b, o, rfl, e0, _, _, _, _, hok⟩ := hs.at_ hk
  obtain ⟨h1, h2, h3, _⟩ := hok
  generalize l[k] = s at *
  obtain ⟨pa, pc, ps, gr, mt, ax, ay⟩ := s
  simp only [] at e0 h1 h2 h3 hlen
  have d1 : decide ((k : Int) < 0) = false := by simp
  have d2 : decide (l.length ≤ k) = false := by simp; omega
  have hk0 : (0 : Int) ≤ (k : Int) := by omega
  have hk1 : (k : Int) < (l.length : Int) := by omega
  have hbz0 : b < w.heap.size := World.block_lt_of_cell? _ _ e0
  have HC := Lib.hid (fun W (hW : Pts W pa ps) => polygon_Check pa pc ps W hlen h1 hW)
  show Calls _ _ _ _ (PolyPost (if checkI ps ≠ 0 then ([], checkI ps) else if checkI (placedPs ⟨(k : Int), fl, q, x, y⟩ ps) ≠ 0 then ([], checkI (placedPs ⟨(k : Int), fl, q, x, y⟩ ps)) else (placedPs ⟨(k : Int), fl, q, x, y⟩ ps, 0)) w)
  rcases Classical.em (checkI ps = 0) with hc | hc
  · have hps := near_of_check hc
    have h40 := len_of_check hc
    rw [if_neg (by simpa using hc)]
    rw [hc] at HC
    have HT := Lib.hid (fun W (hW : Pts W pa ps) => turn_Poly fl q pa pc ps W (by omega) hW hps)
    have htn := turnPs_near (f := fl) (q := q) hps
    have htl := turnPs_len fl q ps
    have HM := Lib.hid (fun A1 c1 W (hW : Pts W A1 (turnPs fl q ps)) => polygon_Move A1 c1 (turnPs fl q ps) x y W (by rw [htl]; omega) hW htn hnr)
    have hpl : (placedPs ⟨(k : Int), fl, q, x, y⟩ ps).length ≤ 40 := by unfold placedPs; rw [List.length_map, htl]; exact h40
    have HM' : ∀ A1 c1 W, Pts W A1 (turnPs fl q ps) → Calls Try.prog 53 #[.slice A1 (turnPs fl q ps).length c1, .agg #[.int .i64 x, .int .i64 y]] W (RetPts (placedPs ⟨(k : Int), fl, q, x, y⟩ ps) W) := fun A1 c1 W h => HM.out A1 c1 W h
    have HM2 := Lib.hid HM'
    clear HM HM' hc htn htl
    generalize placedPs ⟨(k : Int), fl, q, x, y⟩ ps = r at *
    generalize turnPs fl q ps = t at *
    have HC2 := Lib.hid (fun A1 c1 W (h1 : r.length ≤ c1) (hW : Pts W A1 r) => polygon_Check A1 c1 r W (by omega) h1 hW)
    rcases Classical.em (checkI r = 0) with hc2 | hc2
    · rw [if_neg (by simpa using hc2)]
      rw [hc2] at HC2
      clear hc2
      go_enter Try.func30, Try.ntmps30
      go_upto_region 7 with (first | (go_at_call 52; (with_reducible refine (HB.out _).mono ?_); rintro e w1 ⟨rfl, hb1⟩; have e1 : w1.cell? ⟨b, o + k * 5, none⟩ = some (.slice pa ps.length pc) := hb1.cell (Later.cell ((Later.refl w).alloc _) e0); have c0 : w1.cell? ⟨w.heap.size, 0, none⟩ = some (.int .i64 k) := hb1.cell (by simp [go_sem]); have c1 : w1.cell? ⟨w.heap.size, 1, none⟩ = some (.bool fl) := hb1.cell (by simp [go_sem]); have c2 : w1.cell? ⟨w.heap.size, 2, none⟩ = some (.int .i64 q) := hb1.cell (by simp [go_sem]); have c3 : w1.cell? ⟨w.heap.size, 3, none⟩ = some (.int .i64 x) := hb1.cell (by simp [go_sem]); have c4 : w1.cell? ⟨w.heap.size, 4, none⟩ = some (.int .i64 y) := hb1.cell (by simp [go_sem]); have hbz : b < w1.heap.size := World.block_lt_of_cell? _ _ e1) | (go_at_call 46; (with_reducible refine (HC.out _ (h3.later (by repeat' (with_reducible first | exact Later.refl _ | assumption | refine Later.drew ?_ | refine Later.drewN ?_ _ | refine Later.alloc ?_ _ | refine Later.put ?_ (by omega) _ | refine Later.trans ?_ (by assumption))))).mono ?_); rintro e w2 ⟨rfl, hb2⟩))
      have hl2 : Later w w2 := (by repeat' (with_reducible first | exact Later.refl _ | assumption | refine Later.drew ?_ | refine Later.drewN ?_ _ | refine Later.alloc ?_ _ | refine Later.put ?_ (by omega) _ | refine Later.trans ?_ (by assumption)))
      have m1 := hb2.cell c1
      have m2 := hb2.cell c2
      have m3 := hb2.cell c3
      have m4 := hb2.cell c4
      have hp2 := h3.later hl2
      clear e1 c0 c1 c2 c3 c4 hb1 hb2
      go_region_held3 (fun w' : World => (∀ a : Addr, (w2.cell? a).isSome = true → w'.cell? a = w2.cell? a) ∧ Later w2 w') (first | assumption | exact keep_call (by assumption) (by assumption) | exact keep_call (by assumption) ((Later.refl _).alloc _) | exact keep_init _)
        (first | (go_at_call 54; (with_reducible refine (HT.out _ (hp2.later (by (have hk := (by assumption : _ ∧ Later w2 _).2); exact hk))).mono ?_); rintro e w3 ⟨A3, c3, rfl, g1, g2, g3, hb3⟩) | (go_at_call 53; (with_reducible refine (HM2.out _ _ _ g3).mono ?_); rintro e w4 ⟨A4, c4, rfl, g4, g5, g6, hb4⟩))
      rename_i hHw
      have hl4 := hl2.trans hHw.2
      clear hHw m1 m2 m3 m4
      go_wp2_with (first | (go_at_call 46; (with_reducible refine (HC2.out _ _ _ g4 g6).mono ?_); rintro e w5 ⟨rfl, hb5⟩))
      go_ret2
      exact .inl ⟨rfl, A4, c4, rfl, g4, g5, g6.later hb5, hl4.trans hb5⟩
    · rw [if_pos hc2]
      have h0 : (checkI r != 0) = true := by simpa using hc2
      have Hc2 := Lib.hid hc2
      clear hc2
      generalize checkI r = er at *
      go_enter Try.func30, Try.ntmps30
      go_upto_region 7 with (first | (go_at_call 52; (with_reducible refine (HB.out _).mono ?_); rintro e w1 ⟨rfl, hb1⟩; have e1 : w1.cell? ⟨b, o + k * 5, none⟩ = some (.slice pa ps.length pc) := hb1.cell (Later.cell ((Later.refl w).alloc _) e0); have c0 : w1.cell? ⟨w.heap.size, 0, none⟩ = some (.int .i64 k) := hb1.cell (by simp [go_sem]); have c1 : w1.cell? ⟨w.heap.size, 1, none⟩ = some (.bool fl) := hb1.cell (by simp [go_sem]); have c2 : w1.cell? ⟨w.heap.size, 2, none⟩ = some (.int .i64 q) := hb1.cell (by simp [go_sem]); have c3 : w1.cell? ⟨w.heap.size, 3, none⟩ = some (.int .i64 x) := hb1.cell (by simp [go_sem]); have c4 : w1.cell? ⟨w.heap.size, 4, none⟩ = some (.int .i64 y) := hb1.cell (by simp [go_sem]); have hbz : b < w1.heap.size := World.block_lt_of_cell? _ _ e1) | (go_at_call 46; (with_reducible refine (HC.out _ (h3.later (by repeat' (with_reducible first | exact Later.refl _ | assumption | refine Later.drew ?_ | refine Later.drewN ?_ _ | refine Later.alloc ?_ _ | refine Later.put ?_ (by omega) _ | refine Later.trans ?_ (by assumption))))).mono ?_); rintro e w2 ⟨rfl, hb2⟩))
      have hl2 : Later w w2 := (by repeat' (with_reducible first | exact Later.refl _ | assumption | refine Later.drew ?_ | refine Later.drewN ?_ _ | refine Later.alloc ?_ _ | refine Later.put ?_ (by omega) _ | refine Later.trans ?_ (by assumption)))
      have m1 := hb2.cell c1
      have m2 := hb2.cell c2
      have m3 := hb2.cell c3
      have m4 := hb2.cell c4
      have hp2 := h3.later hl2
      clear e1 c0 c1 c2 c3 c4 hb1 hb2
      go_region_held3 (fun w' : World => (∀ a : Addr, (w2.cell? a).isSome = true → w'.cell? a = w2.cell? a) ∧ Later w2 w') (first | assumption | exact keep_call (by assumption) (by assumption) | exact keep_call (by assumption) ((Later.refl _).alloc _) | exact keep_init _)
        (first | (go_at_call 54; (with_reducible refine (HT.out _ (hp2.later (by (have hk := (by assumption : _ ∧ Later w2 _).2); exact hk))).mono ?_); rintro e w3 ⟨A3, c3, rfl, g1, g2, g3, hb3⟩) | (go_at_call 53; (with_reducible refine (HM2.out _ _ _ g3).mono ?_); rintro e w4 ⟨A4, c4, rfl, g4, g5, g6, hb4⟩))
      rename_i hHw
      have hl4 := hl2.trans hHw.2
      clear hHw m1 m2 m3 m4
      go_wp2_with (first | (go_at_call 46; (with_reducible refine (HC2.out _ _ _ g4 g6).mono ?_); rintro e w5 ⟨rfl, hb5⟩))
      go_ret2
      exact .inr ⟨Hc2.out, rfl, hl4.trans hb5⟩
  · rw [if_pos hc]
    have h0 : (checkI ps != 0) = true := by simpa using hc
    have Hc := Lib.hid hc
    clear hc
    generalize checkI ps = er at *
    go_enter Try.func30, Try.ntmps30
    go_wp2_with (first | (go_at_call 52; (with_reducible refine (HB.out _).mono ?_); rintro e w1 ⟨rfl, hb1⟩; have e1 : w1.cell? ⟨b, o + k * 5, none⟩ = some (.slice pa ps.length pc) := hb1.cell (Later.cell ((Later.refl w).alloc _) e0); have c0 : w1.cell? ⟨w.heap.size, 0, none⟩ = some (.int .i64 k) := hb1.cell (by simp [go_sem]); have hbz : b < w1.heap.size := World.block_lt_of_cell? _ _ e1) | (go_at_call 46; (with_reducible refine (HC.out _ (h3.later (by repeat' (with_reducible first | exact Later.refl _ | assumption | refine Later.drew ?_ | refine Later.drewN ?_ _ | refine Later.alloc ?_ _ | refine Later.put ?_ (by omega) _ | refine Later.trans ?_ (by assumption))))).mono ?_); rintro e w2 ⟨rfl, hb2⟩))
    go_ret2
    exact .inr ⟨Hc.out, rfl, (by repeat' (with_reducible first | exact Later.refl _ | assumption | refine Later.drew ?_ | refine Later.drewN ?_ _ | refine Later.alloc ?_ _ | refine Later.put ?_ (by omega) _ | refine Later.trans ?_ (by assumption)))⟩

theorem place_Poly (hs : Shapes w C l) (hl : l.length ≤ 65536) (hlen : ∀ s ∈ l, s.ps.length ≤ 1099511627776) :
    Calls Try.prog 30 #[.slice C l.length cc, p.agg] w (PolyPost (polyR l p) w) := by
  unfold polyR
  by_cases h : p.sh < 0 ∨ (l.length : Int) ≤ p.sh ∨ outsideB p.x p.y = true
  · rw [if_pos h]
    exact (place_Poly_range C cc l p w hl h).mono fun e w' ⟨he, hw⟩ => .inr ⟨by decide, he, hw⟩
  · rw [if_neg h]
    have hk : p.sh.toNat < l.length := by omega
    have hg : gs l p.sh.toNat = l[p.sh.toNat] := by rw [gs]; simp [hk]
    rw [hg]
    refine place_Poly_in C cc l p w hs hl p.sh.toNat hk (by omega) ?_ (hlen _ (List.getElem_mem hk))
    rcases ho : outsideB p.x p.y with _ | _
    · rfl
    · exact absurd (.inr (.inr ho)) h
end

end Go.Proofs.Ytolddfapanabbaa
