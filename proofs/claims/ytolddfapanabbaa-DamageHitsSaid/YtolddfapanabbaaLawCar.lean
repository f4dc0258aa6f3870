/-
  DamageCarriers, walked: Carrier returns the specified part or error.
-/
import Derived.Test.YtolddfapanabbaaOpen39
import Derived.Test.YtolddfapanabbaaRCar
import Derived.Test.YtolddfapanabbaaSimEq
import Derived.Test.YtolddfapanabbaaDam
namespace Go.Proofs.Ytolddfapanabbaa
open Go.RowKit
set_option linter.unusedSimpArgs false
set_option linter.unusedVariables false

theorem rcarrier_eq (qs : List Qd) (ps : List Pt) : rcarrierR qs ps = carrierR qs ps := by
  unfold rcarrierR carrierR
  rw [rcheck_eq]

theorem plys_one {W : World} {g : Nat} (p : Py) (h : Blk W g 24 #[.int .i64 p.lot, .slice p.pa p.parts.length p.pc]) (hok : PyOk W p) : Plys W (some ⟨g, 0, none⟩) [p] := fun _ => ⟨g, 0, rfl, by
  intro i r hr
  rcases i with _ | i
  · cases hr
    refine ⟨fun j v hv => ?_, hok⟩
    rcases j with _ | _ | j
    · cases hv; exact h.cell 0
    · cases hv; exact h.cell 1
    · simp [Py.cells] at hv
  · simp at hr⟩
theorem polys_one {W : World} {g c : Nat} {A : Option Addr} {ps : List Pt} (h : Blk W g 25 #[.slice A ps.length c]) (hc : ps.length ≤ c) (hm : c ≤ maxLen) (hp : Pts W A ps) : Polys W (some ⟨g, 0, none⟩) [ps] := fun _ => ⟨g, 0, rfl, by
  intro i r hr
  rcases i with _ | i
  · cases hr; exact ⟨_, h.cell 0, A, c, rfl, hc, hm, hp⟩
  · simp at hr⟩
theorem rolls_nil (W : World) (A : Option Addr) : Rolls W A [] := fun h => by simp at h

set_option maxHeartbeats 4000000 in
theorem law39_DamageCarriers (hex : ∀ W, Calls Try.prog 15 #[] W (Ret (.bool true) W)) (p : Py) (A : Option Addr) (c : Nat) (ps : List Pt) (w : World)
    (hy : PyOk w p) (hc : ps.length ≤ c) (hm : c ≤ maxLen) (hp : Pts w A ps) :
    Calls Try.prog 3 #[p.agg, .slice A ps.length c] w (Ret (.bool true) w) := by
  have HX := Lib.hid hex
  clear hex
  have hFew : ∀ W g1 g2, Later w W → Blk W g1 24 #[.int .i64 p.lot, .slice p.pa p.parts.length p.pc] → Blk W g2 25 #[.slice A ps.length c] →
      Calls Try.prog 14 #[.slice (some ⟨g1, 0, none⟩) 1 1, .slice none 0 0, .slice (some ⟨g2, 0, none⟩) 1 1] W (Ret (.bool (fewB [p] [] [ps])) W) := by
    intro W g1 g2 hW h1 h2
    exact ref39_Few (some ⟨g1, 0, none⟩) none (some ⟨g2, 0, none⟩) 1 0 1 [p] [] [ps] W (plys_one p h1 (hy.later hW)) (rolls_nil _ _) (polys_one h2 hc hm (hp.later hW))
  have HF := Lib.hid hFew
  clear hFew
  rcases hfew : fewB [p] [] [ps] with _ | _
  · rw [hfew] at HF
    clear hfew
    unfold Py.agg
    obtain ⟨lot, pa, pc, parts⟩ := p
    simp only [] at HF
    go_enter Try.func3, Try.ntmps3
    go_wp2_with (first | (go_at_call 14; (with_reducible refine (HF.out _ _ _ (by repeat' (with_reducible first | exact Later.refl _ | assumption | refine Later.drew ?_ | refine Later.drewN ?_ _ | refine Later.alloc ?_ _ | refine Later.put ?_ (by omega) _ | refine Later.trans ?_ (by assumption))) (by repeat' (with_reducible first | assumption | (refine Blk.newAt ?_; simp; done) | refine Blk.alloc ?_ _ | refine Blk.drew ?_ | refine Blk.drewN ?_ _ | refine Blk.later ?_ (by assumption))) (by repeat' (with_reducible first | assumption | (refine Blk.newAt ?_; simp; done) | refine Blk.alloc ?_ _ | refine Blk.drew ?_ | refine Blk.drewN ?_ _ | refine Blk.later ?_ (by assumption)))).mono ?_); rintro e w1 ⟨rfl, hb1⟩) | (go_at_call 15; refine (HX.out _).mono ?_; rintro e w2 ⟨rfl, hb2⟩))
    go_ret
    exact ⟨rfl, (by repeat' (with_reducible first | exact Later.refl _ | assumption | refine Later.drew ?_ | refine Later.drewN ?_ _ | refine Later.alloc ?_ _ | refine Later.put ?_ (by omega) _ | refine Later.trans ?_ (by assumption)))⟩
  · rw [hfew] at HF
    obtain ⟨_, h1, _, h2⟩ := few_all hfew
    have h1 := h1 p (by simp)
    have h2 := h2 ps (by simp)
    clear hfew
    unfold Py.agg
    obtain ⟨lot, pa, pc, parts⟩ := p
    obtain ⟨hpc, hpm, hqd, hqi⟩ := hy
    simp only [] at HF hpc hpm hqd hqi h1
    have HA := Lib.hid (fun W (hW : Pts W A ps) (hWq : Qds W pa parts) => damage_Carrier A pa c pc lot parts ps W (by omega) hc hW (by omega) hpc hWq)
    have HB := Lib.hid (fun W (hW : Pts W A ps) (hWq : Qds W pa parts) => ref39_Carrier A pa c pc lot parts ps W (by omega) hc hW (by omega) hpc hWq)
    rw [rcarrier_eq] at HB
    generalize carrierR parts ps = R at *
    obtain ⟨ci, ce⟩ := R
    go_enter Try.func3, Try.ntmps3
    go_wp2_with (first | (go_at_call 14; (with_reducible refine (HF.out _ _ _ (by repeat' (with_reducible first | exact Later.refl _ | assumption | refine Later.drew ?_ | refine Later.drewN ?_ _ | refine Later.alloc ?_ _ | refine Later.put ?_ (by omega) _ | refine Later.trans ?_ (by assumption))) (by repeat' (with_reducible first | assumption | (refine Blk.newAt ?_; simp; done) | refine Blk.alloc ?_ _ | refine Blk.drew ?_ | refine Blk.drewN ?_ _ | refine Blk.later ?_ (by assumption))) (by repeat' (with_reducible first | assumption | (refine Blk.newAt ?_; simp; done) | refine Blk.alloc ?_ _ | refine Blk.drew ?_ | refine Blk.drewN ?_ _ | refine Blk.later ?_ (by assumption)))).mono ?_); rintro e w1 ⟨rfl, hb1⟩; have r0 : w1.cell? ⟨w.heap.size, 0, none⟩ = some (.int .i64 lot) := hb1.cell (by simp [go_sem]); have r1 : w1.cell? ⟨w.heap.size, 1, none⟩ = some (.slice pa parts.length pc) := hb1.cell (by simp [go_sem]); have hl1 : Later w w1 := (by repeat' (with_reducible first | exact Later.refl _ | assumption | refine Later.drew ?_ | refine Later.drewN ?_ _ | refine Later.alloc ?_ _ | refine Later.put ?_ (by omega) _ | refine Later.trans ?_ (by assumption)))) | (go_at_call 16; refine (HA.out _ (hp.later (by assumption)) (hqd.later (by assumption))).mono ?_; rintro e w2 ⟨rfl, hb2⟩; have s0 := hb2.cell r0; have s1 := hb2.cell r1; have hl2 := hl1.trans hb2) | (go_at_call 17; refine (HB.out _ (hp.later hl2) (hqd.later hl2)).mono ?_; rintro e w3 ⟨rfl, hb3⟩) | (go_at_call 15; refine (HX.out _).mono ?_; rintro e w4 ⟨rfl, hb4⟩))
    go_ret
    exact ⟨rfl, (by repeat' (with_reducible first | exact Later.refl _ | assumption | refine Later.drew ?_ | refine Later.drewN ?_ _ | refine Later.alloc ?_ _ | refine Later.put ?_ (by omega) _ | refine Later.trans ?_ (by assumption)))⟩

end Go.Proofs.Ytolddfapanabbaa
