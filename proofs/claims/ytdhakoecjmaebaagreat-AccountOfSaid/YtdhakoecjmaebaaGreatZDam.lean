/-
 The walks of damage.isCoord and damage.carries, and of the reference's twins.
 Records in memory: slices of records of any number of cells; rolls and plies.
 A new block at an address that is known by an equation.
-/
import Derived.Test.YtdhakoecjmaebaaGreatZHits
import Derived.Test.YtdhakoecjmaebaaGreatZAppR
namespace Go.Proofs.YtdhakoecjmaebaaGreat
open Go.RowKit
set_option linter.unusedSimpArgs false
set_option linter.unusedVariables false
structure Qd where
  a : Int
  b : Int
  c : Int
  d : Int
def Qd.agg (p : Qd) : Value := .agg #[.int .i64 p.a, .int .i64 p.b, .int .i64 p.c, .int .i64 p.d]
def QdsAt (w : World) (b o : Nat) (ps : List Qd) : Prop :=
  ∀ i (p : Qd), ps[i]? = some p → w.cell? ⟨b, o + i * 4, none⟩ = some (.int .i64 p.a) ∧ w.cell? ⟨b, o + i * 4 + 1, none⟩ = some (.int .i64 p.b) ∧
    w.cell? ⟨b, o + i * 4 + 2, none⟩ = some (.int .i64 p.c) ∧ w.cell? ⟨b, o + i * 4 + 3, none⟩ = some (.int .i64 p.d)
def Qds (w : World) (A : Option Addr) (ps : List Qd) : Prop := 0 < ps.length → ∃ b o, A = some ⟨b, o, none⟩ ∧ QdsAt w b o ps
theorem QdsAt.later {w w' : World} {b o : Nat} {ps : List Qd} (h : QdsAt w b o ps) (k : Later w w') : QdsAt w' b o ps :=
  fun i p hp => ⟨k.cell (h i p hp).1, k.cell (h i p hp).2.1, k.cell (h i p hp).2.2.1, k.cell (h i p hp).2.2.2⟩
theorem Qds.later {w w' : World} {A : Option Addr} {ps : List Qd} (h : Qds w A ps) (k : Later w w') : Qds w' A ps :=
  fun hn => let ⟨b, o, e, hc⟩ := h hn; ⟨b, o, e, hc.later k⟩
theorem QdsAt.get {w : World} {b o : Nat} {ps : List Qd} (h : QdsAt w b o ps) {k : Nat} (hk : k < ps.length) :
    w.cell? ⟨b, o + k * 4, none⟩ = some (.int .i64 ps[k].a) ∧ w.cell? ⟨b, o + k * 4 + 1, none⟩ = some (.int .i64 ps[k].b) ∧
    w.cell? ⟨b, o + k * 4 + 2, none⟩ = some (.int .i64 ps[k].c) ∧ w.cell? ⟨b, o + k * 4 + 3, none⟩ = some (.int .i64 ps[k].d) :=
  h k _ (List.getElem?_eq_getElem hk)
def coordB (n : Int) : Bool := decide (n ≥ 0) && decide (n ≤ 1048576)
def carriesB (p : Qd) (lo hi : Int) : Bool :=
  coordB p.d && (coordB p.b && (coordB p.c && (decide (p.d ≤ lo) && decide (hi ≤ p.d + p.c - p.b))))
theorem coord_bd {n : Int} (h : coordB n = true) : 0 ≤ n ∧ n ≤ 1048576 := by
  unfold coordB at h
  simp only [Bool.and_eq_true, decide_eq_true_eq] at h
  omega
theorem damage_isCoord (n : Int) (w : World) : Calls Tryz.prog 211 #[.int .i64 n] w (Pure (.bool (coordB n)) w) := by
  go_enter Tryz.func211, Tryz.ntmps211
  by_cases h : n ≥ 0
  · have d : decide (n ≥ 0) = true := by simpa using h
    go_wp2
    go_ret
    exact ⟨by rw [coordB, d]; rfl, rfl⟩
  · have d : decide (n ≥ 0) = false := by simpa using h
    go_wp2
    go_ret
    exact ⟨by rw [coordB, d]; rfl, rfl⟩
theorem ref39_in (n : Int) (w : World) : Calls Tryz.prog 218 #[.int .i64 n] w (Pure (.bool (coordB n)) w) := by
  go_enter Tryz.func218, Tryz.ntmps218
  by_cases h : n ≥ 0
  · have d : decide (n ≥ 0) = true := by simpa using h
    go_wp2
    go_ret
    exact ⟨by rw [coordB, d]; rfl, rfl⟩
  · have d : decide (n ≥ 0) = false := by simpa using h
    go_wp2
    go_ret
    exact ⟨by rw [coordB, d]; rfl, rfl⟩
set_option maxHeartbeats 1000000 in
theorem damage_carries (p : Qd) (x y ww h : Int) (w : World) (hx : Sm x) (hw : Sm (x + ww)) :
    Calls Tryz.prog 167 #[p.agg, .agg #[.int .i64 x, .int .i64 y, .int .i64 ww, .int .i64 h]] w (Ret (.bool (carriesB p x (x + ww))) w) := by
  obtain ⟨ro, fr, tt, aa⟩ := p
  unfold Qd.agg carriesB
  unfold Sm at hx hw
  simp only []
  cases h1 : coordB aa
  · go_enter Tryz.func167, Tryz.ntmps167
    go_wp2_with (first | (go_at_call 211; refine (damage_isCoord _ _).mono ?_; rintro e w1 ⟨rfl, rfl⟩; try rw [h1]))
    go_ret
    exact ⟨rfl, (by repeat' (first | exact Later.refl _ | assumption | refine Later.drew ?_ | refine Later.drewN ?_ _ | refine Later.alloc ?_ _ | refine Later.put ?_ (by omega) _ | refine Later.trans ?_ (by assumption)))⟩
  · cases h2 : coordB fr
    · go_enter Tryz.func167, Tryz.ntmps167
      go_wp2_with (first | (go_at_call 211; refine (damage_isCoord _ _).mono ?_; rintro e w1 ⟨rfl, rfl⟩; try rw [h1]; try rw [h2]))
      go_ret
      exact ⟨rfl, (by repeat' (first | exact Later.refl _ | assumption | refine Later.drew ?_ | refine Later.drewN ?_ _ | refine Later.alloc ?_ _ | refine Later.put ?_ (by omega) _ | refine Later.trans ?_ (by assumption)))⟩
    · cases h3 : coordB tt
      · go_enter Tryz.func167, Tryz.ntmps167
        go_wp2_with (first | (go_at_call 211; refine (damage_isCoord _ _).mono ?_; rintro e w1 ⟨rfl, rfl⟩; try rw [h1]; try rw [h2]; try rw [h3]))
        go_ret
        exact ⟨rfl, (by repeat' (first | exact Later.refl _ | assumption | refine Later.drew ?_ | refine Later.drewN ?_ _ | refine Later.alloc ?_ _ | refine Later.put ?_ (by omega) _ | refine Later.trans ?_ (by assumption)))⟩
      · have b1 := coord_bd h1
        have b2 := coord_bd h2
        have b3 := coord_bd h3
        cases h4 : decide (aa ≤ x)
        · go_enter Tryz.func167, Tryz.ntmps167
          go_wp2_with (first | (go_at_call 211; refine (damage_isCoord _ _).mono ?_; rintro e w1 ⟨rfl, rfl⟩; try rw [h1]; try rw [h2]; try rw [h3]))
          go_ret
          exact ⟨rfl, (by repeat' (first | exact Later.refl _ | assumption | refine Later.drew ?_ | refine Later.drewN ?_ _ | refine Later.alloc ?_ _ | refine Later.put ?_ (by omega) _ | refine Later.trans ?_ (by assumption)))⟩
        · go_enter Tryz.func167, Tryz.ntmps167
          go_wp2_with (first | (go_at_call 211; refine (damage_isCoord _ _).mono ?_; rintro e w1 ⟨rfl, rfl⟩; try rw [h1]; try rw [h2]; try rw [h3]))
          go_ret
          exact ⟨rfl, (by repeat' (first | exact Later.refl _ | assumption | refine Later.drew ?_ | refine Later.drewN ?_ _ | refine Later.alloc ?_ _ | refine Later.put ?_ (by omega) _ | refine Later.trans ?_ (by assumption)))⟩
set_option maxHeartbeats 1000000 in
theorem ref39_carries (p : Qd) (x z : Int) (w : World) :
    Calls Tryz.prog 180 #[p.agg, .int .i64 x, .int .i64 z] w (Ret (.bool (carriesB p x z)) w) := by
  obtain ⟨ro, fr, tt, aa⟩ := p
  unfold Qd.agg carriesB
  simp only []
  cases h1 : coordB aa
  · go_enter Tryz.func180, Tryz.ntmps180
    go_wp2_with (first | (go_at_call 218; refine (ref39_in _ _).mono ?_; rintro e w1 ⟨rfl, rfl⟩; try rw [h1]))
    go_ret
    exact ⟨rfl, (by repeat' (first | exact Later.refl _ | assumption | refine Later.drew ?_ | refine Later.drewN ?_ _ | refine Later.alloc ?_ _ | refine Later.put ?_ (by omega) _ | refine Later.trans ?_ (by assumption)))⟩
  · cases h2 : coordB fr
    · go_enter Tryz.func180, Tryz.ntmps180
      go_wp2_with (first | (go_at_call 218; refine (ref39_in _ _).mono ?_; rintro e w1 ⟨rfl, rfl⟩; try rw [h1]; try rw [h2]))
      go_ret
      exact ⟨rfl, (by repeat' (first | exact Later.refl _ | assumption | refine Later.drew ?_ | refine Later.drewN ?_ _ | refine Later.alloc ?_ _ | refine Later.put ?_ (by omega) _ | refine Later.trans ?_ (by assumption)))⟩
    · cases h3 : coordB tt
      · go_enter Tryz.func180, Tryz.ntmps180
        go_wp2_with (first | (go_at_call 218; refine (ref39_in _ _).mono ?_; rintro e w1 ⟨rfl, rfl⟩; try rw [h1]; try rw [h2]; try rw [h3]))
        go_ret
        exact ⟨rfl, (by repeat' (first | exact Later.refl _ | assumption | refine Later.drew ?_ | refine Later.drewN ?_ _ | refine Later.alloc ?_ _ | refine Later.put ?_ (by omega) _ | refine Later.trans ?_ (by assumption)))⟩
      · have b1 := coord_bd h1
        have b2 := coord_bd h2
        have b3 := coord_bd h3
        cases h4 : decide (aa ≤ x)
        · go_enter Tryz.func180, Tryz.ntmps180
          go_wp2_with (first | (go_at_call 218; refine (ref39_in _ _).mono ?_; rintro e w1 ⟨rfl, rfl⟩; try rw [h1]; try rw [h2]; try rw [h3]))
          go_ret
          exact ⟨rfl, (by repeat' (first | exact Later.refl _ | assumption | refine Later.drew ?_ | refine Later.drewN ?_ _ | refine Later.alloc ?_ _ | refine Later.put ?_ (by omega) _ | refine Later.trans ?_ (by assumption)))⟩
        · go_enter Tryz.func180, Tryz.ntmps180
          go_wp2_with (first | (go_at_call 218; refine (ref39_in _ _).mono ?_; rintro e w1 ⟨rfl, rfl⟩; try rw [h1]; try rw [h2]; try rw [h3]))
          go_ret
          exact ⟨rfl, (by repeat' (first | exact Later.refl _ | assumption | refine Later.drew ?_ | refine Later.drewN ?_ _ | refine Later.alloc ?_ _ | refine Later.put ?_ (by omega) _ | refine Later.trans ?_ (by assumption)))⟩
def carrierGo (lo hi : Int) : List Qd → Nat → Int × Int
  | [], _ => (0, 20)
  | p :: l, k => if carriesB p lo hi = true then ((k : Int), 0) else carrierGo lo hi l (k + 1)
def carrierR (parts : List Qd) (ps : List Pt) : Int × Int :=
  if checkI ps = 0 then carrierGo (loOf ps).x (hiOf ps).x parts 0 else (0, checkI ps)
theorem carrier_hit {lo hi : Int} {p : Qd} {l : List Qd} {k : Nat} (h : carriesB p lo hi = true) : carrierGo lo hi (p :: l) k = ((k : Int), 0) := by rw [carrierGo, if_pos h]
theorem carrier_miss {lo hi : Int} {p : Qd} {l : List Qd} {k : Nat} (h : carriesB p lo hi = false) : carrierGo lo hi (p :: l) k = carrierGo lo hi l (k + 1) := by rw [carrierGo, if_neg (by simp [h])]
set_option maxHeartbeats 1000000 in
theorem damage_Carrier_err (A B : Option Addr) (c cb : Nat) (lot : Int) (qs : List Qd) (ps : List Pt) (w : World) (hn : ps.length ≤ 1099511627776) (hcap : ps.length ≤ c) (hp : Pts w A ps) (hok : checkI ps ≠ 0) :
    Calls Tryz.prog 121 #[.agg #[.int .i64 lot, .slice B qs.length cb], .slice A ps.length c] w (Ret (.tuple #[.int .i64 0, .int .i64 (checkI ps)]) w) := by
  have hC := fun W (hW : Pts W A ps) => polygon_Box_err A c ps W hn hcap hW hok
  generalize checkI ps = e0 at *
  have h0 : (e0 != 0) = true := by simpa using hok
  have HC := Lib.hid hC
  clear hC hok
  go_enter Tryz.func121, Tryz.ntmps121
  go_wp2_with (first | (go_at_call 10; refine (HC.out _ (hp.later ((by repeat' (first | exact Later.refl _ | assumption | refine Later.drew ?_ | refine Later.drewN ?_ _ | refine Later.alloc ?_ _ | refine Later.put ?_ (by omega) _ | refine Later.trans ?_ (by assumption)))))).mono ?_; rintro e w1 ⟨rfl, hb1⟩))
  go_ret2
  exact ⟨rfl, (by repeat' (first | exact Later.refl _ | assumption | refine Later.drew ?_ | refine Later.drewN ?_ _ | refine Later.alloc ?_ _ | refine Later.put ?_ (by omega) _ | refine Later.trans ?_ (by assumption)))⟩
set_option maxHeartbeats 1000000 in
theorem damage_Carrier_ok (A B : Option Addr) (c cb : Nat) (lot : Int) (qs : List Qd) (ps : List Pt) (w : World) (hn : ps.length ≤ 1099511627776) (hcap : ps.length ≤ c) (hp : Pts w A ps)
    (hnq : qs.length ≤ 65536) (hcq : qs.length ≤ cb) (hq : Qds w B qs) (hok : checkI ps = 0) :
    Calls Tryz.prog 121 #[.agg #[.int .i64 lot, .slice B qs.length cb], .slice A ps.length c] w
      (Ret (.tuple #[.int .i64 (carrierGo (loOf ps).x (hiOf ps).x qs 0).1, .int .i64 (carrierGo (loOf ps).x (hiOf ps).x qs 0).2]) w) := by
  have hC := fun W (hW : Pts W A ps) => polygon_Box_ok A c ps W hn hcap hW hok
  have hsm := lo_sm (small_of_check hok)
  have HC := Lib.hid hC
  clear hC hok
  obtain ⟨s1, s2⟩ := hsm
  generalize loOf ps = lo at *
  generalize hiOf ps = hi at *
  obtain ⟨lx, ly⟩ := lo
  obtain ⟨hx, hy⟩ := hi
  have S1 : Sm lx := s1.1
  have S2 : Sm hx := s2.1
  clear s1 s2
  go_enter Tryz.func121, Tryz.ntmps121
  go_wp2_with (first | (go_at_call 10; refine (HC.out _ (hp.later ((by repeat' (first | exact Later.refl _ | assumption | refine Later.drew ?_ | refine Later.drewN ?_ _ | refine Later.alloc ?_ _ | refine Later.put ?_ (by omega) _ | refine Later.trans ?_ (by assumption)))))).mono ?_; rintro e w1 ⟨rfl, hb1⟩; have r0 : w1.cell? ⟨w.heap.size, 0, none⟩ = some (.int .i64 lot) := hb1.cell (by simp [go_sem]); have r1 : w1.cell? ⟨w.heap.size, 1, none⟩ = some (.slice B qs.length cb) := hb1.cell (by simp [go_sem]); have hz : w.heap.size < w1.heap.size := World.block_lt_of_cell? _ _ r0))
  refine name_world (fun W9 hW9 => ?_)
  have hl9 : Later w1 W9 := by rw [hW9]; exact (by repeat' (first | exact Later.refl _ | assumption | refine Later.drew ?_ | refine Later.drewN ?_ _ | refine Later.alloc ?_ _ | refine Later.put ?_ (by omega) _ | refine Later.trans ?_ (by assumption)))
  have hlw : Later w W9 := ((Later.refl _).alloc _).trans (hb1.trans hl9)
  have b0 : W9.cell? ⟨w1.heap.size, 0, none⟩ = some (.int .i64 lx) := by rw [hW9]; simp [go_sem]
  have b1 : W9.cell? ⟨w1.heap.size, 1, none⟩ = some (.int .i64 ly) := by rw [hW9]; simp [go_sem]
  have b2 : W9.cell? ⟨w1.heap.size, 2, none⟩ = some (.int .i64 (hx - lx)) := by rw [hW9]; simp [go_sem]
  have b3 : W9.cell? ⟨w1.heap.size, 3, none⟩ = some (.int .i64 (hy - ly)) := by rw [hW9]; simp [go_sem]
  have hq9 := hq.later hlw
  clear hW9 r0 r1 hz hb1 hl9 HC
  generalize w1.heap.size = gb at *
  go_loopw [4, 5, 21] (fun _ _ iv wr => ∃ k : Nat, k ≤ qs.length ∧ iv = .int .i64 k ∧ carrierGo lx hx qs 0 = carrierGo lx hx (qs.drop k) k ∧ Later W9 wr) (fun _ _ iv _ => qs.length - (intOf iv).toNat)
  case atStart => exact ⟨0, by omega, rfl, rfl, Later.refl _⟩
  case round =>
    obtain ⟨k, hk, rfl, he, hb⟩ := hrel
    have He := Lib.hid he
    clear he
    by_cases hlt : k < qs.length
    · obtain ⟨bb, ob, rfl, hel⟩ := (hq9.later hb) (by omega)
      obtain ⟨e1, e2, e3, e4⟩ := hel.get hlt
      have hbz : bb < wr.heap.size := World.block_lt_of_cell? _ _ e1
      have Hd := Lib.hid (drop_cons' qs k hlt)
      have g0 := hb.cell b0
      have g1 := hb.cell b1
      have g2 := hb.cell b2
      have g3 := hb.cell b3
      have hgz : gb < wr.heap.size := World.block_lt_of_cell? _ _ g0
      generalize qs[k] = q at *
      have Hc := Lib.hid (fun W => damage_carries q lx ly (hx - lx) (hy - ly) W S1 (by rw [show lx + (hx - lx) = hx by omega]; exact S2))
      rw [show lx + (hx - lx) = hx by omega] at Hc
      cases hc1 : carriesB q lx hx
      · rw [hc1] at Hc
        have Hc1 := Lib.hid hc1
        clear hc1
        obtain ⟨qa, qb, qc, qd⟩ := q
        unfold Qd.agg at Hc
        go_wp2_with (first | (go_at_call 167; refine (Hc.out _).mono ?_; rintro e w4 ⟨rfl, hb4⟩))
        go_roundw
        case rel => exact ⟨k + 1, by omega, by go_num, by rw [He.out, Hd.out, carrier_miss Hc1.out], (by repeat' (first | exact Later.refl _ | assumption | refine Later.drew ?_ | refine Later.drewN ?_ _ | refine Later.alloc ?_ _ | refine Later.put ?_ (by omega) _ | refine Later.trans ?_ (by assumption)))⟩
        case measure => simp [intOf]; omega
      · rw [hc1] at Hc
        have Hc1 := Lib.hid hc1
        clear hc1
        obtain ⟨qa, qb, qc, qd⟩ := q
        unfold Qd.agg at Hc
        go_wp2_with (first | (go_at_call 167; refine (Hc.out _).mono ?_; rintro e w4 ⟨rfl, hb4⟩))
        go_ret2
        exact ⟨by rw [He.out, Hd.out, carrier_hit Hc1.out]; rfl, (by repeat' (first | exact Later.refl _ | assumption | refine Later.drew ?_ | refine Later.drewN ?_ _ | refine Later.alloc ?_ _ | refine Later.put ?_ (by omega) _ | refine Later.trans ?_ (by assumption)))⟩
    · go_wp2
      go_ret2
      exact ⟨by rw [He.out, List.drop_eq_nil_of_le (by omega)]; rfl, (by repeat' (first | exact Later.refl _ | assumption | refine Later.drew ?_ | refine Later.drewN ?_ _ | refine Later.alloc ?_ _ | refine Later.put ?_ (by omega) _ | refine Later.trans ?_ (by assumption)))⟩
theorem damage_Carrier (A B : Option Addr) (c cb : Nat) (lot : Int) (qs : List Qd) (ps : List Pt) (w : World) (hn : ps.length ≤ 1099511627776) (hcap : ps.length ≤ c) (hp : Pts w A ps)
    (hnq : qs.length ≤ 65536) (hcq : qs.length ≤ cb) (hq : Qds w B qs) :
    Calls Tryz.prog 121 #[.agg #[.int .i64 lot, .slice B qs.length cb], .slice A ps.length c] w
      (Ret (.tuple #[.int .i64 (carrierR qs ps).1, .int .i64 (carrierR qs ps).2]) w) := by
  unfold carrierR
  split
  · exact damage_Carrier_ok A B c cb lot qs ps w hn hcap hp hnq hcq hq (by assumption)
  · exact damage_Carrier_err A B c cb lot qs ps w hn hcap hp (by assumption)
end Go.Proofs.YtdhakoecjmaebaaGreat
namespace Go.Proofs.YtdhakoecjmaebaaGreat
open Go.RowKit
set_option linter.unusedSimpArgs false
set_option linter.unusedVariables false
def QdI (q : Qd) : Prop := I64 q.a ∧ I64 q.b ∧ I64 q.c ∧ I64 q.d
structure Py where
  lot : Int
  pa : Option Addr
  pc : Nat
  parts : List Qd
def Py.cells (p : Py) : List Value := [.int .i64 p.lot, .slice p.pa p.parts.length p.pc]
def Py.agg (p : Py) : Value := .agg #[.int .i64 p.lot, .slice p.pa p.parts.length p.pc]
def PyOk (w : World) (p : Py) : Prop := p.parts.length ≤ p.pc ∧ p.pc ≤ maxLen ∧ Qds w p.pa p.parts ∧ ∀ q ∈ p.parts, QdI q
theorem PyOk.later {w w' : World} {p : Py} (h : PyOk w p) (k : Later w w') : PyOk w' p := ⟨h.1, h.2.1, h.2.2.1.later k, h.2.2.2⟩
structure Rl where
  id : ByteArray
  wd : Int
  ln : Int
  tl : Int
  ta : Int
  tb : Int
  fa : Option Addr
  fc : Nat
  fl : List Qd
def Rl.cells (r : Rl) : List Value := [.string r.id, .int .i64 r.wd, .int .i64 r.ln, .int .i64 r.tl, .int .i64 r.ta, .int .i64 r.tb, .slice r.fa r.fl.length r.fc]
def Rl.agg (r : Rl) : Value := .agg #[.string r.id, .int .i64 r.wd, .int .i64 r.ln, .int .i64 r.tl, .int .i64 r.ta, .int .i64 r.tb, .slice r.fa r.fl.length r.fc]
def RlOk (w : World) (r : Rl) : Prop := r.id.size ≤ maxLen ∧ r.fl.length ≤ r.fc ∧ r.fc ≤ maxLen ∧ Qds w r.fa r.fl ∧ (∀ q ∈ r.fl, QdI q) ∧ I64 r.wd ∧ I64 r.ln ∧ I64 r.tl ∧ I64 r.ta ∧ I64 r.tb
theorem RlOk.later {w w' : World} {r : Rl} (h : RlOk w r) (k : Later w w') : RlOk w' r := ⟨h.1, h.2.1, h.2.2.1, h.2.2.2.1.later k, h.2.2.2.2⟩
def Plys (w : World) (A : Option Addr) (l : List Py) : Prop := ListAt w 2 Py.cells PyOk A l
theorem Plys.later {w w' : World} {A : Option Addr} {l : List Py} (h : Plys w A l) (k : Later w w') : Plys w' A l := ListAt.later h (fun _ ho => ho.later k) k
def Rolls (w : World) (A : Option Addr) (l : List Rl) : Prop := ListAt w 7 Rl.cells RlOk A l
theorem Rolls.later {w w' : World} {A : Option Addr} {l : List Rl} (h : Rolls w A l) (k : Later w w') : Rolls w' A l := ListAt.later h (fun _ ho => ho.later k) k
theorem Rolls.at_ {w : World} {A : Option Addr} {l : List Rl} (h : Rolls w A l) {k : Nat} (hk : k < l.length) :
    ∃ b o, A = some ⟨b, o, none⟩ ∧ w.cell? ⟨b, o + k * 7, none⟩ = some (.string (l[k]).id) ∧ w.cell? ⟨b, o + k * 7 + 1, none⟩ = some (.int .i64 (l[k]).wd) ∧ w.cell? ⟨b, o + k * 7 + 2, none⟩ = some (.int .i64 (l[k]).ln) ∧
      w.cell? ⟨b, o + k * 7 + 3, none⟩ = some (.int .i64 (l[k]).tl) ∧ w.cell? ⟨b, o + k * 7 + 4, none⟩ = some (.int .i64 (l[k]).ta) ∧ w.cell? ⟨b, o + k * 7 + 5, none⟩ = some (.int .i64 (l[k]).tb) ∧
      w.cell? ⟨b, o + k * 7 + 6, none⟩ = some (.slice (l[k]).fa (l[k]).fl.length (l[k]).fc) ∧ RlOk w (l[k]) := by
  obtain ⟨b, o, e, hc⟩ := h (by omega)
  obtain ⟨h1, h2⟩ := hc k _ (List.getElem?_eq_getElem hk)
  exact ⟨b, o, e, h1 0 _ rfl, h1 1 _ rfl, h1 2 _ rfl, h1 3 _ rfl, h1 4 _ rfl, h1 5 _ rfl, h1 6 _ rfl, h2⟩
theorem Plys.at_ {w : World} {A : Option Addr} {l : List Py} (h : Plys w A l) {k : Nat} (hk : k < l.length) :
    ∃ b o, A = some ⟨b, o, none⟩ ∧ w.cell? ⟨b, o + k * 2, none⟩ = some (.int .i64 (l[k]).lot) ∧ w.cell? ⟨b, o + k * 2 + 1, none⟩ = some (.slice (l[k]).pa (l[k]).parts.length (l[k]).pc) ∧ PyOk w (l[k]) := by
  obtain ⟨b, o, e, hc⟩ := h (by omega)
  obtain ⟨h1, h2⟩ := hc k _ (List.getElem?_eq_getElem hk)
  exact ⟨b, o, e, h1 0 _ rfl, h1 1 _ rfl, h2⟩
def capB (c : UInt8) : Bool := decide (65 ≤ (c.toNat : Int)) && decide ((c.toNat : Int) ≤ 90)
def othB (c : UInt8) : Bool := (decide (97 ≤ (c.toNat : Int)) && decide ((c.toNat : Int) ≤ 122)) || (decide (48 ≤ (c.toNat : Int)) && decide ((c.toNat : Int) ≤ 57))
def chBad (c : UInt8) (k : Nat) : Bool := !capB c && (decide (k = 0) || !othB c)
def idGo : List UInt8 → Nat → Bool
  | [], _ => true
  | c :: l, k => if chBad c k = true then false else idGo l (k + 1)
def idB (s : ByteArray) : Bool := idGo s.data.toList 0 && (decide (1 ≤ s.size) && decide ((s.size : Int) ≤ 8))
theorem id_drop (s : ByteArray) (k : Nat) (h : k < s.size) : s.data.toList.drop k = s[k] :: s.data.toList.drop (k + 1) := by
  rw [List.drop_eq_getElem_cons (by simpa using h)]; rfl
set_option maxHeartbeats 2000000 in
theorem roll_isId (s : ByteArray) (w : World) (hs : s.size ≤ maxLen) : Calls Tryz.prog 168 #[.string s] w (Pure (.bool (idB s)) w) := by
  unfold maxLen at hs
  go_enter Tryz.func168, Tryz.ntmps168
  go_wp2
  go_loop [2, 3, 4, 5, 6, 9] (fun _ _ _ _ _ i => ∃ k : Nat, k ≤ s.size ∧ i = .int .i64 k ∧ idGo s.data.toList 0 = idGo (s.data.toList.drop k) k) (fun _ _ _ _ _ i => s.size - (intOf i).toNat)
  case atStart => exact ⟨0, Nat.zero_le _, rfl, rfl⟩
  case round =>
    obtain ⟨k, hk, rfl, he⟩ := hrel
    have He := Lib.hid he
    clear he
    by_cases hlt : k < s.size
    · have Hd := Lib.hid (id_drop s k hlt)
      go_wp2
      all_goals
        first
        | (exfalso; omega)
        | (go_ret
           exact ⟨ret_bool (by rw [idB, He.out, Hd.out, idGo, if_pos (by first | (simp [chBad, capB, othB]; omega) | (simp_all [chBad, capB, othB] <;> omega))]; rfl), rfl⟩)
        | (go_round
           case rel => exact ⟨k + 1, by omega, by go_num, by rw [He.out, Hd.out, idGo, if_neg (by first | (simp [chBad, capB, othB]; omega) | (simp_all [chBad, capB, othB] <;> omega))]⟩
           case measure => simp [intOf]; omega)
    · have he : idGo s.data.toList 0 = true := by rw [He.out, List.drop_eq_nil_of_le (by simp; omega)]; rfl
      have He' := Lib.hid he
      clear he
      by_cases h1 : 1 ≤ s.size
      · have d : decide (1 ≤ s.size) = true := by simpa using h1
        have d' : decide ((1 : Int) ≤ (s.size : Int)) = true := by simp; omega
        go_wp2
        go_ret
        exact ⟨ret_bool (by rw [idB, He'.out]; simp [h1]), rfl⟩
      · have d : decide (1 ≤ s.size) = false := by simpa using h1
        have d' : decide ((1 : Int) ≤ (s.size : Int)) = false := by simp; omega
        go_wp2
        go_ret
        exact ⟨ret_bool (by rw [idB, He'.out]; simp [h1]), rfl⟩
end Go.Proofs.YtdhakoecjmaebaaGreat
namespace Go.Proofs.YtdhakoecjmaebaaGreat
open Go.RowKit
theorem Blk.newAt {w : World} {t : TypeId} {cs : Array Value} {g : Nat} (h : w.heap.size = g) : Blk (w.alloc (.cells cs t)) g t cs := by subst h; exact Blk.new w t cs
end Go.Proofs.YtdhakoecjmaebaaGreat
