/-
  The walk of garmentref39.Carrier.
-/
import Derived.Test.YtolddfapanabbaaRBox
namespace Go.Proofs.Ytolddfapanabbaa
open Go.RowKit
set_option linter.unusedSimpArgs false
set_option linter.unusedVariables false

def rcarrierR (parts : List Qd) (ps : List Pt) : Int × Int :=
  if rcheckI ps = 0 then carrierGo (loOf ps).x (hiOf ps).x parts 0 else (0, rcheckI ps)

set_option maxHeartbeats 1000000 in
theorem ref39_Carrier_err (A B : Option Addr) (c cb : Nat) (lot : Int) (qs : List Qd) (ps : List Pt) (w : World) (hn : ps.length ≤ 1099511627776) (hcap : ps.length ≤ c) (hp : Pts w A ps) (hok : rcheckI ps ≠ 0) :
    Calls Try.prog 17 #[.agg #[.int .i64 lot, .slice B qs.length cb], .slice A ps.length c] w (Ret (.tuple #[.int .i64 0, .int .i64 (rcheckI ps)]) w) := by
  have hC := fun W (hW : Pts W A ps) => ref11_Box_err A c ps W hn hcap hW hok
  generalize rcheckI ps = e0 at *
  have h0 : (e0 != 0) = true := by simpa using hok
  have HC := Lib.hid hC
  clear hC hok
  go_enter Try.func17, Try.ntmps17
  go_wp2_with (first | (go_at_call 41; refine (HC.out _ (hp.later ((by repeat' (first | exact Later.refl _ | assumption | refine Later.drew ?_ | refine Later.drewN ?_ _ | refine Later.alloc ?_ _ | refine Later.put ?_ (by omega) _ | refine Later.trans ?_ (by assumption)))))).mono ?_; rintro e w1 ⟨rfl, hb1⟩))
  go_ret2
  exact ⟨rfl, (by repeat' (first | exact Later.refl _ | assumption | refine Later.drew ?_ | refine Later.drewN ?_ _ | refine Later.alloc ?_ _ | refine Later.put ?_ (by omega) _ | refine Later.trans ?_ (by assumption)))⟩

set_option maxHeartbeats 1000000 in
theorem ref39_Carrier_ok (A B : Option Addr) (c cb : Nat) (lot : Int) (qs : List Qd) (ps : List Pt) (w : World) (hn : ps.length ≤ 1099511627776) (hcap : ps.length ≤ c) (hp : Pts w A ps)
    (hnq : qs.length ≤ 65536) (hcq : qs.length ≤ cb) (hq : Qds w B qs) (hok : rcheckI ps = 0) :
    Calls Try.prog 17 #[.agg #[.int .i64 lot, .slice B qs.length cb], .slice A ps.length c] w
      (Ret (.tuple #[.int .i64 (carrierGo (loOf ps).x (hiOf ps).x qs 0).1, .int .i64 (carrierGo (loOf ps).x (hiOf ps).x qs 0).2]) w) := by
  have hC := fun W (hW : Pts W A ps) => ref11_Box_ok A c ps W hn hcap hW hok
  have hsm := lo_sm (rsmall_of_check hok).1
  have HC := Lib.hid hC
  clear hC hok
  obtain ⟨s1, s2⟩ := hsm
  generalize loOf ps = lo at *
  generalize hiOf ps = hi at *
  obtain ⟨lx, ly⟩ := lo
  obtain ⟨hx, hy⟩ := hi
  have S1 : Sm lx := s1.1
  have S2 : Sm hx := s2.1
  clear s1 s2
  unfold Sm at S1 S2
  go_enter Try.func17, Try.ntmps17
  go_wp2_with (first | (go_at_call 41; refine (HC.out _ (hp.later ((by repeat' (first | exact Later.refl _ | assumption | refine Later.drew ?_ | refine Later.drewN ?_ _ | refine Later.alloc ?_ _ | refine Later.put ?_ (by omega) _ | refine Later.trans ?_ (by assumption)))))).mono ?_; rintro e w1 ⟨rfl, hb1⟩; have r0 : w1.cell? ⟨w.heap.size, 0, none⟩ = some (.int .i64 lot) := hb1.cell (by simp [go_sem]); have r1 : w1.cell? ⟨w.heap.size, 1, none⟩ = some (.slice B qs.length cb) := hb1.cell (by simp [go_sem]); have hz : w.heap.size < w1.heap.size := World.block_lt_of_cell? _ _ r0))
  refine name_world (fun W9 hW9 => ?_)
  have hl9 : Later w1 W9 := by rw [hW9]; exact (by repeat' (first | exact Later.refl _ | assumption | refine Later.drew ?_ | refine Later.drewN ?_ _ | refine Later.alloc ?_ _ | refine Later.put ?_ (by omega) _ | refine Later.trans ?_ (by assumption)))
  have hlw : Later w W9 := ((Later.refl _).alloc _).trans (hb1.trans hl9)
  have b0 : W9.cell? ⟨w1.heap.size, 0, none⟩ = some (.int .i64 lx) := by rw [hW9]; simp [go_sem]
  have b1 : W9.cell? ⟨w1.heap.size, 1, none⟩ = some (.int .i64 ly) := by rw [hW9]; simp [go_sem]
  have b2 : W9.cell? ⟨w1.heap.size, 2, none⟩ = some (.int .i64 (hx - lx)) := by rw [hW9]; simp [go_sem]
  have b3 : W9.cell? ⟨w1.heap.size, 3, none⟩ = some (.int .i64 (hy - ly)) := by rw [hW9]; simp [go_sem]
  have r1' := hl9.cell r1
  have hq9 := hq.later hlw
  clear hW9 r0 r1 hz hb1 hl9 HC
  generalize w1.heap.size = gb at *
  generalize w.heap.size = ga at *
  go_loopw [4, 5, 8] (fun _ _ iv wr => ∃ k : Nat, k ≤ qs.length ∧ iv = .int .i64 k ∧ carrierGo lx hx qs 0 = carrierGo lx hx (qs.drop k) k ∧ Later W9 wr) (fun _ _ iv _ => qs.length - (intOf iv).toNat)
  case atStart => exact ⟨0, by omega, rfl, rfl, Later.refl _⟩
  case round =>
    obtain ⟨k, hk, rfl, he, hb⟩ := hrel
    have He := Lib.hid he
    clear he
    have g9 := hb.cell r1'
    by_cases hlt : k < qs.length
    · obtain ⟨bb, ob, rfl, hel⟩ := (hq9.later hb) (by omega)
      obtain ⟨e1, e2, e3, e4⟩ := hel.get hlt
      have hbz : bb < wr.heap.size := World.block_lt_of_cell? _ _ e1
      have Hd := Lib.hid (drop_cons' qs k hlt)
      have g0 := hb.cell b0
      have g1 := hb.cell b1
      have g2 := hb.cell b2
      have g3 := hb.cell b3
      have hgz : gb < wr.heap.size := World.block_lt_of_cell? _ _ g0
      generalize qs[k] = q at *
      have Hc := Lib.hid (fun W => ref39_carries q lx hx W)
      have hwr : IntKind.i64.wrap (lx + (hx - lx)) = hx := by rw [show lx + (hx - lx) = hx by omega]; exact IntWalk.i64_in _ (by omega)
      have hk0 : (0 : Int) ≤ (k : Int) := by omega
      have hk1 : (k : Int) < (qs.length : Int) := by omega
      cases hc1 : carriesB q lx hx
      all_goals
        rw [hc1] at Hc
        have Hc1 := Lib.hid hc1
        clear hc1
        obtain ⟨qa, qb, qc, qd⟩ := q
        unfold Qd.agg at Hc
        go_wp2
        go_region_held3 (fun w' : World => (∀ a : Addr, (wr.cell? a).isSome = true → w'.cell? a = wr.cell? a) ∧ Later wr w') (first | assumption | exact keep_call (by assumption) (by assumption) | exact keep_call (by assumption) ((Later.refl _).alloc _) | exact keep_init _)
          (first | (go_at_call 42; refine (Hc.out _).mono ?_; rintro e w4 ⟨rfl, hb4⟩))
        rename_i hHw
        have hlw4 := hHw.2
        clear hHw
        go_wp2
      · go_roundw
        case rel => exact ⟨k + 1, by omega, by go_num, by rw [He.out, Hd.out, carrier_miss Hc1.out], hb.trans hlw4⟩
        case measure => simp [intOf]; omega
      · go_ret2
        exact ⟨by rw [He.out, Hd.out, carrier_hit Hc1.out]; rfl, hlw.trans (hb.trans hlw4)⟩
    · go_wp2
      go_ret2
      exact ⟨by rw [He.out, List.drop_eq_nil_of_le (by omega)]; rfl, hlw.trans hb⟩

theorem ref39_Carrier (A B : Option Addr) (c cb : Nat) (lot : Int) (qs : List Qd) (ps : List Pt) (w : World) (hn : ps.length ≤ 1099511627776) (hcap : ps.length ≤ c) (hp : Pts w A ps)
    (hnq : qs.length ≤ 65536) (hcq : qs.length ≤ cb) (hq : Qds w B qs) :
    Calls Try.prog 17 #[.agg #[.int .i64 lot, .slice B qs.length cb], .slice A ps.length c] w
      (Ret (.tuple #[.int .i64 (rcarrierR qs ps).1, .int .i64 (rcarrierR qs ps).2]) w) := by
  unfold rcarrierR
  split
  · exact ref39_Carrier_ok A B c cb lot qs ps w hn hcap hp hnq hcq hq (by assumption)
  · exact ref39_Carrier_err A B c cb lot qs ps w hn hcap hp (by assumption)

end Go.Proofs.Ytolddfapanabbaa
