/-
  DamageHits, walked: Hit returns the specified result or error.
-/
import Derived.Test.YtolddfapanabbaaLawCar
import Derived.Test.YtolddfapanabbaaRHit
namespace Go.Proofs.Ytolddfapanabbaa
open Go.RowKit
set_option linter.unusedSimpArgs false
set_option linter.unusedVariables false

set_option maxHeartbeats 4000000 in
set_option maxRecDepth 100000 in
theorem law39_DamageHits (hex : ∀ W, Calls Try.prog 15 #[] W (Ret (.bool true) W)) (p : Py) (A C : Option Addr) (c cc : Nat) (rs : List Rl) (ps : List Pt) (w : World)
    (hy : PyOk w p) (hc : ps.length ≤ c) (hm : c ≤ maxLen) (hp : Pts w A ps) (hrs : Rolls w C rs) :
    Calls Try.prog 4 #[p.agg, .slice C rs.length cc, .slice A ps.length c] w (Ret (.bool true) w) := by
  have HX := Lib.hid hex
  clear hex
  have hFew : ∀ W g1 g2, Later w W → Blk W g1 24 #[.int .i64 p.lot, .slice p.pa p.parts.length p.pc] → Blk W g2 25 #[.slice A ps.length c] →
      Calls Try.prog 14 #[.slice (some ⟨g1, 0, none⟩) 1 1, .slice C rs.length cc, .slice (some ⟨g2, 0, none⟩) 1 1] W (Ret (.bool (fewB [p] rs [ps])) W) := by
    intro W g1 g2 hW h1 h2
    exact ref39_Few (some ⟨g1, 0, none⟩) C (some ⟨g2, 0, none⟩) 1 cc 1 [p] rs [ps] W (plys_one p h1 (hy.later hW)) (hrs.later hW) (polys_one h2 hc hm (hp.later hW))
  have HF := Lib.hid hFew
  clear hFew
  rcases hfw : fewB [p] rs [ps] with _ | _
  · rw [hfw] at HF
    clear hfw
    unfold Py.agg
    obtain ⟨lot, pa, pc, parts⟩ := p
    simp only [] at HF
    go_enter Try.func4, Try.ntmps4
    go_wp2_with (first | (go_at_call 14; (with_reducible refine (HF.out _ _ _ (by repeat' (with_reducible first | exact Later.refl _ | assumption | refine Later.drew ?_ | refine Later.drewN ?_ _ | refine Later.alloc ?_ _ | refine Later.put ?_ (by omega) _ | refine Later.trans ?_ (by assumption))) (by repeat' (with_reducible first | assumption | (refine Blk.newAt ?_; simp; done) | refine Blk.alloc ?_ _ | refine Blk.drew ?_ | refine Blk.drewN ?_ _ | refine Blk.later ?_ (by assumption))) (by repeat' (with_reducible first | assumption | (refine Blk.newAt ?_; simp; done) | refine Blk.alloc ?_ _ | refine Blk.drew ?_ | refine Blk.drewN ?_ _ | refine Blk.later ?_ (by assumption)))).mono ?_); rintro e w1 ⟨rfl, hb1⟩) | (go_at_call 15; refine (HX.out _).mono ?_; rintro e w2 ⟨rfl, hb2⟩))
    go_ret
    exact ⟨rfl, (by repeat' (with_reducible first | exact Later.refl _ | assumption | refine Later.drew ?_ | refine Later.drewN ?_ _ | refine Later.alloc ?_ _ | refine Later.put ?_ (by omega) _ | refine Later.trans ?_ (by assumption)))⟩
  · rw [hfw] at HF
    obtain ⟨⟨_, hr6, _⟩, h1, _, h2⟩ := few_all hfw
    have h1 := h1 p (by simp)
    have h2 := h2 ps (by simp)
    clear hfw
    unfold Py.agg
    obtain ⟨lot, pa, pc, parts⟩ := p
    obtain ⟨hpc, hpm, hqd, hqi⟩ := hy
    simp only [] at HF hpc hpm hqd hqi h1
    have HA := Lib.hid (fun W (hW : Pts W A ps) (hWq : Qds W pa parts) (hWr : Rolls W C rs) => damage_Hit A pa C c pc cc lot parts rs ps W (by omega) hc hW (by omega) hpc hWq hWr (by omega))
    have HB := Lib.hid (fun W (hW : Pts W A ps) (hWq : Qds W pa parts) (hWr : Rolls W C rs) => ref39_Hit A pa C c pc cc lot parts rs ps W (by omega) hc hW (by omega) hpc hWq hWr (by omega))
    generalize hitR parts rs ps = R at *
    obtain ⟨ci, ce⟩ := R
    go_enter Try.func4, Try.ntmps4
    go_wp2_with (first | (go_at_call 14; (with_reducible refine (HF.out _ _ _ (by repeat' (with_reducible first | exact Later.refl _ | assumption | refine Later.drew ?_ | refine Later.drewN ?_ _ | refine Later.alloc ?_ _ | refine Later.put ?_ (by omega) _ | refine Later.trans ?_ (by assumption))) (by repeat' (with_reducible first | assumption | (refine Blk.newAt ?_; simp; done) | refine Blk.alloc ?_ _ | refine Blk.drew ?_ | refine Blk.drewN ?_ _ | refine Blk.later ?_ (by assumption))) (by repeat' (with_reducible first | assumption | (refine Blk.newAt ?_; simp; done) | refine Blk.alloc ?_ _ | refine Blk.drew ?_ | refine Blk.drewN ?_ _ | refine Blk.later ?_ (by assumption)))).mono ?_); rintro e w1 ⟨rfl, hb1⟩; have r0 : w1.cell? ⟨w.heap.size, 0, none⟩ = some (.int .i64 lot) := hb1.cell (by simp [go_sem]); have r1 : w1.cell? ⟨w.heap.size, 1, none⟩ = some (.slice pa parts.length pc) := hb1.cell (by simp [go_sem]); have hl1 : Later w w1 := (by repeat' (with_reducible first | exact Later.refl _ | assumption | refine Later.drew ?_ | refine Later.drewN ?_ _ | refine Later.alloc ?_ _ | refine Later.put ?_ (by omega) _ | refine Later.trans ?_ (by assumption)))) | (go_at_call 18; (with_reducible refine (HA.out _ (hp.later (by assumption)) (hqd.later (by assumption)) (hrs.later (by assumption))).mono ?_); rintro e w2 ⟨rfl, hb2⟩; have s0 := hb2.cell r0; have s1 := hb2.cell r1; have hl2 := hl1.trans hb2) | (go_at_call 19; (with_reducible refine (HB.out _ (hp.later hl2) (hqd.later hl2) (hrs.later hl2)).mono ?_); rintro e w3 ⟨rfl, hb3⟩) | (go_at_call 15; refine (HX.out _).mono ?_; rintro e w4 ⟨rfl, hb4⟩))
    go_ret
    exact ⟨rfl, (by repeat' (with_reducible first | exact Later.refl _ | assumption | refine Later.drew ?_ | refine Later.drewN ?_ _ | refine Later.alloc ?_ _ | refine Later.put ?_ (by omega) _ | refine Later.trans ?_ (by assumption)))⟩

end Go.Proofs.Ytolddfapanabbaa
