/-
  DamageMoves, walked: moving the cloth of a part and all flaws of its roll by the same length changes nothing.
-/
import Derived.Test.YtolddfapanabbaaLawFla
namespace Go.Proofs.Ytolddfapanabbaa
open Go.RowKit
set_option linter.unusedSimpArgs false
set_option linter.unusedVariables false

theorem rolls_single {W : World} {g : Nat} (r : Rl) (h : Blk W g 56 #[.string r.id, .int .i64 r.wd, .int .i64 r.ln, .int .i64 r.tl, .int .i64 r.ta, .int .i64 r.tb, .slice r.fa r.fl.length r.fc]) (hok : RlOk W r) : Rolls W (some ⟨g, 0, none⟩) [r] := fun _ => ⟨g, 0, rfl, by
  intro i a ha
  rcases i with _ | i
  · cases ha
    refine ⟨fun j v hv => ?_, hok⟩
    rw [Nat.zero_mul, Nat.zero_add, h.cell j, ← hv, ← List.getElem?_toArray]
    rfl
  · simp at ha⟩
theorem qds_single {W : World} {g : Nat} {t : TypeId} {a b c d : Int} (h : Blk W g t #[.int .i64 a, .int .i64 b, .int .i64 c, .int .i64 d]) : Qds W (some ⟨g, 0, none⟩) [⟨a, b, c, d⟩] := fun _ => ⟨g, 0, rfl, by
  intro i p hp
  rcases i with _ | i
  · cases hp; exact ⟨h.cell 0, h.cell 1, h.cell 2, h.cell 3⟩
  · simp at hp⟩
/-- A flaw, moved. -/
def shift (n : Int) (f : Qd) : Qd := ⟨f.a + n, f.b, f.c, f.d⟩
theorem hitF_shift (ps : List Pt) (d n : Int) (f : Qd) : hitF ps (d - n) (shift n f) = hitF ps d f := by
  unfold hitF shift
  simp only []
  rw [show f.a + n + (d - n) = f.a + d by omega]
theorem any_shift (ps : List Pt) (d n : Int) (l : List Qd) : (l.map (shift n)).any (hitF ps (d - n)) = l.any (hitF ps d) := by
  rw [List.any_map]
  congr 1
  funext f
  exact hitF_shift ps d n f
theorem lo_le_hi {ps : List Pt} : (loOf ps).x ≤ (hiOf ps).x := by
  unfold loOf hiOf
  have : ∀ (l : List Pt) (a b : Pt), a.x ≤ b.x → (l.foldl loP a).x ≤ (l.foldl hiP b).x := by
    intro l
    induction l with
    | nil => intro a b h; exact h
    | cons p l ih => intro a b h; exact ih _ _ (by simp only [loP, hiP]; omega)
  exact this ps _ _ (Int.le_refl _)

section
variable (xa xb xc xd by_ : Int) (rid : ByteArray) (rwd rln rtl rta rtb : Int) (fa : Option Addr) (fc : Nat) (fl : List Qd) (A : Option Addr) (c : Nat) (ps : List Pt) (w : World)

def mvRoll (rid : ByteArray) (rwd rln rtl rta rtb : Int) (fa : Option Addr) (fc : Nat) (fl : List Qd) : Rl := ⟨rid, rwd, rln, rtl, rta, rtb, fa, fc, fl⟩

/-- The small-ness test of the law. -/
theorem mv_few (hr : RlOk w ⟨rid, rwd, rln, rtl, rta, rtb, fa, fc, fl⟩) (hx : QdI ⟨xa, xb, xc, xd⟩) (hc : ps.length ≤ c) (hm : c ≤ maxLen) (hp : Pts w A ps) :
    ∀ W g0 g1 g2 g3, Later w W → Blk W g0 62 #[.int .i64 xa, .int .i64 xb, .int .i64 xc, .int .i64 xd] → Blk W g1 24 #[.int .i64 0, .slice (some ⟨g0, 0, none⟩) 1 1] →
      Blk W g2 56 #[.string rid, .int .i64 rwd, .int .i64 rln, .int .i64 rtl, .int .i64 rta, .int .i64 rtb, .slice fa fl.length fc] → Blk W g3 25 #[.slice A ps.length c] →
      Calls Try.prog 14 #[.slice (some ⟨g1, 0, none⟩) 1 1, .slice (some ⟨g2, 0, none⟩) 1 1, .slice (some ⟨g3, 0, none⟩) 1 1] W (Ret (.bool (fewB [⟨0, none, 1, [⟨xa, xb, xc, xd⟩]⟩] [⟨rid, rwd, rln, rtl, rta, rtb, fa, fc, fl⟩] [ps])) W) := by
  intro W g0 g1 g2 g3 hW h0 h1 h2 h3
  have hpy : PyOk W ⟨0, some ⟨g0, 0, none⟩, 1, [⟨xa, xb, xc, xd⟩]⟩ := ⟨Nat.le_refl _, by show 1 ≤ maxLen; decide, qds_single h0, fun q hq => by rw [List.mem_singleton.1 hq]; exact hx⟩
  exact ref39_Few (some ⟨g1, 0, none⟩) (some ⟨g2, 0, none⟩) (some ⟨g3, 0, none⟩) 1 1 1 [⟨0, some ⟨g0, 0, none⟩, 1, [⟨xa, xb, xc, xd⟩]⟩] [⟨rid, rwd, rln, rtl, rta, rtb, fa, fc, fl⟩] [ps] W (plys_one _ h1 hpy) (rolls_single _ h2 (hr.later hW)) (polys_one h3 hc hm (hp.later hW))
theorem mv_hit (hr : RlOk w ⟨rid, rwd, rln, rtl, rta, rtb, fa, fc, fl⟩) (hn : ps.length ≤ 1099511627776) (hc : ps.length ≤ c) (hp : Pts w A ps) :
    ∀ W g0 g2, Later w W → Blk W g0 62 #[.int .i64 xa, .int .i64 xb, .int .i64 xc, .int .i64 xd] →
      Blk W g2 56 #[.string rid, .int .i64 rwd, .int .i64 rln, .int .i64 rtl, .int .i64 rta, .int .i64 rtb, .slice fa fl.length fc] →
      Calls Try.prog 18 #[.agg #[.int .i64 0, .slice (some ⟨g0, 0, none⟩) 1 1], .slice (some ⟨g2, 0, none⟩) 1 1, .slice A ps.length c] W
        (Ret (.tuple #[.bool (hitR [⟨xa, xb, xc, xd⟩] [⟨rid, rwd, rln, rtl, rta, rtb, fa, fc, fl⟩] ps).1, .int .i64 (hitR [⟨xa, xb, xc, xd⟩] [⟨rid, rwd, rln, rtl, rta, rtb, fa, fc, fl⟩] ps).2]) W) := by
  intro W g0 g2 hW h0 h2
  exact damage_Hit A (some ⟨g0, 0, none⟩) (some ⟨g2, 0, none⟩) c 1 1 0 [⟨xa, xb, xc, xd⟩] [⟨rid, rwd, rln, rtl, rta, rtb, fa, fc, fl⟩] ps W hn hc (hp.later hW) (by simp) (by simp) (qds_single h0) (rolls_single _ h2 (hr.later hW)) (by simp)

set_option maxHeartbeats 4000000 in
set_option maxRecDepth 100000 in
theorem law39_DamageMoves_not (hex : ∀ W, Calls Try.prog 15 #[] W (Ret (.bool true) W)) (hr : RlOk w ⟨rid, rwd, rln, rtl, rta, rtb, fa, fc, fl⟩) (hx : QdI ⟨xa, xb, xc, xd⟩) (hc : ps.length ≤ c) (hm : c ≤ maxLen) (hp : Pts w A ps)
    (hno : fewB [⟨0, none, 1, [⟨xa, xb, xc, xd⟩]⟩] [⟨rid, rwd, rln, rtl, rta, rtb, fa, fc, fl⟩] [ps] = false ∨ xa ≠ 0 ∨ by_ < -1048576 ∨ 1048576 < by_) :
    Calls Try.prog 8 #[.agg #[.int .i64 xa, .int .i64 xb, .int .i64 xc, .int .i64 xd], .agg #[.string rid, .int .i64 rwd, .int .i64 rln, .int .i64 rtl, .int .i64 rta, .int .i64 rtb, .slice fa fl.length fc], .slice A ps.length c, .int .i64 by_] w (Ret (.bool true) w) := by
  have HX := Lib.hid hex
  have HF := Lib.hid (mv_few xa xb xc xd rid rwd rln rtl rta rtb fa fc fl A c ps w hr hx hc hm hp)
  clear hex
  rcases hfw : fewB [⟨0, none, 1, [⟨xa, xb, xc, xd⟩]⟩] [⟨rid, rwd, rln, rtl, rta, rtb, fa, fc, fl⟩] [ps] with _ | _
  · rw [hfw] at HF
    clear hno hfw
    go_enter Try.func8, Try.ntmps8
    go_wp2_with (first | (go_at_call 14; (with_reducible refine (HF.out _ (w.heap.size + 1 + 1) _ _ _ (by repeat' (with_reducible first | exact Later.refl _ | assumption | refine Later.drew ?_ | refine Later.drewN ?_ _ | refine Later.alloc ?_ _ | refine Later.put ?_ (by omega) _ | refine Later.trans ?_ (by assumption))) (by repeat' (with_reducible first | assumption | (refine Blk.newAt ?_; simp; done) | refine Blk.alloc ?_ _ | refine Blk.drew ?_ | refine Blk.drewN ?_ _ | refine Blk.later ?_ (by assumption))) (by repeat' (with_reducible first | assumption | (refine Blk.newAt ?_; simp; done) | refine Blk.alloc ?_ _ | refine Blk.drew ?_ | refine Blk.drewN ?_ _ | refine Blk.later ?_ (by assumption))) (by repeat' (with_reducible first | assumption | (refine Blk.newAt ?_; simp; done) | refine Blk.alloc ?_ _ | refine Blk.drew ?_ | refine Blk.drewN ?_ _ | refine Blk.later ?_ (by assumption))) (by repeat' (with_reducible first | assumption | (refine Blk.newAt ?_; simp; done) | refine Blk.alloc ?_ _ | refine Blk.drew ?_ | refine Blk.drewN ?_ _ | refine Blk.later ?_ (by assumption)))).mono ?_); rintro e w1 ⟨rfl, hb1⟩) | (go_at_call 15; refine (HX.out _).mono ?_; rintro e w2 ⟨rfl, hb2⟩))
    go_ret
    exact ⟨rfl, (by repeat' (with_reducible first | exact Later.refl _ | assumption | refine Later.drew ?_ | refine Later.drewN ?_ _ | refine Later.alloc ?_ _ | refine Later.put ?_ (by omega) _ | refine Later.trans ?_ (by assumption)))⟩
  · rw [hfw] at HF
    rw [hfw] at hno
    clear hfw
    by_cases h0 : xa = 0
    · subst h0
      by_cases h1 : by_ < -1048576
      · have d1 : decide (by_ < -1048576) = true := by simpa using h1
        clear hno
        go_enter Try.func8, Try.ntmps8
        go_wp2_with (first | (go_at_call 14; (with_reducible refine (HF.out _ (w.heap.size + 1 + 1) _ _ _ (by repeat' (with_reducible first | exact Later.refl _ | assumption | refine Later.drew ?_ | refine Later.drewN ?_ _ | refine Later.alloc ?_ _ | refine Later.put ?_ (by omega) _ | refine Later.trans ?_ (by assumption))) (by repeat' (with_reducible first | assumption | (refine Blk.newAt ?_; simp; done) | refine Blk.alloc ?_ _ | refine Blk.drew ?_ | refine Blk.drewN ?_ _ | refine Blk.later ?_ (by assumption))) (by repeat' (with_reducible first | assumption | (refine Blk.newAt ?_; simp; done) | refine Blk.alloc ?_ _ | refine Blk.drew ?_ | refine Blk.drewN ?_ _ | refine Blk.later ?_ (by assumption))) (by repeat' (with_reducible first | assumption | (refine Blk.newAt ?_; simp; done) | refine Blk.alloc ?_ _ | refine Blk.drew ?_ | refine Blk.drewN ?_ _ | refine Blk.later ?_ (by assumption))) (by repeat' (with_reducible first | assumption | (refine Blk.newAt ?_; simp; done) | refine Blk.alloc ?_ _ | refine Blk.drew ?_ | refine Blk.drewN ?_ _ | refine Blk.later ?_ (by assumption)))).mono ?_); rintro e w1 ⟨rfl, hb1⟩; have r0 : w1.cell? ⟨w.heap.size, 0, none⟩ = some (.int .i64 0) := hb1.cell (by simp [go_sem])) | (go_at_call 15; refine (HX.out _).mono ?_; rintro e w2 ⟨rfl, hb2⟩))
        go_ret
        exact ⟨rfl, (by repeat' (with_reducible first | exact Later.refl _ | assumption | refine Later.drew ?_ | refine Later.drewN ?_ _ | refine Later.alloc ?_ _ | refine Later.put ?_ (by omega) _ | refine Later.trans ?_ (by assumption)))⟩
      · have d1 : decide (by_ < -1048576) = false := by simpa using h1
        have h2 : 1048576 < by_ := by
          rcases hno with h | h | h | h
          · cases h
          · exact absurd rfl h
          · exact absurd h h1
          · exact h
        have d2 : decide (1048576 < by_) = true := by simpa using h2
        clear hno
        go_enter Try.func8, Try.ntmps8
        go_wp2_with (first | (go_at_call 14; (with_reducible refine (HF.out _ (w.heap.size + 1 + 1) _ _ _ (by repeat' (with_reducible first | exact Later.refl _ | assumption | refine Later.drew ?_ | refine Later.drewN ?_ _ | refine Later.alloc ?_ _ | refine Later.put ?_ (by omega) _ | refine Later.trans ?_ (by assumption))) (by repeat' (with_reducible first | assumption | (refine Blk.newAt ?_; simp; done) | refine Blk.alloc ?_ _ | refine Blk.drew ?_ | refine Blk.drewN ?_ _ | refine Blk.later ?_ (by assumption))) (by repeat' (with_reducible first | assumption | (refine Blk.newAt ?_; simp; done) | refine Blk.alloc ?_ _ | refine Blk.drew ?_ | refine Blk.drewN ?_ _ | refine Blk.later ?_ (by assumption))) (by repeat' (with_reducible first | assumption | (refine Blk.newAt ?_; simp; done) | refine Blk.alloc ?_ _ | refine Blk.drew ?_ | refine Blk.drewN ?_ _ | refine Blk.later ?_ (by assumption))) (by repeat' (with_reducible first | assumption | (refine Blk.newAt ?_; simp; done) | refine Blk.alloc ?_ _ | refine Blk.drew ?_ | refine Blk.drewN ?_ _ | refine Blk.later ?_ (by assumption)))).mono ?_); rintro e w1 ⟨rfl, hb1⟩; have r0 : w1.cell? ⟨w.heap.size, 0, none⟩ = some (.int .i64 0) := hb1.cell (by simp [go_sem])) | (go_at_call 15; refine (HX.out _).mono ?_; rintro e w2 ⟨rfl, hb2⟩))
        go_ret
        exact ⟨rfl, (by repeat' (with_reducible first | exact Later.refl _ | assumption | refine Later.drew ?_ | refine Later.drewN ?_ _ | refine Later.alloc ?_ _ | refine Later.put ?_ (by omega) _ | refine Later.trans ?_ (by assumption)))⟩
    · have d0 : (xa != 0) = true := by simpa using h0
      clear hno h0
      go_enter Try.func8, Try.ntmps8
      go_wp2_with (first | (go_at_call 14; (with_reducible refine (HF.out _ (w.heap.size + 1 + 1) _ _ _ (by repeat' (with_reducible first | exact Later.refl _ | assumption | refine Later.drew ?_ | refine Later.drewN ?_ _ | refine Later.alloc ?_ _ | refine Later.put ?_ (by omega) _ | refine Later.trans ?_ (by assumption))) (by repeat' (with_reducible first | assumption | (refine Blk.newAt ?_; simp; done) | refine Blk.alloc ?_ _ | refine Blk.drew ?_ | refine Blk.drewN ?_ _ | refine Blk.later ?_ (by assumption))) (by repeat' (with_reducible first | assumption | (refine Blk.newAt ?_; simp; done) | refine Blk.alloc ?_ _ | refine Blk.drew ?_ | refine Blk.drewN ?_ _ | refine Blk.later ?_ (by assumption))) (by repeat' (with_reducible first | assumption | (refine Blk.newAt ?_; simp; done) | refine Blk.alloc ?_ _ | refine Blk.drew ?_ | refine Blk.drewN ?_ _ | refine Blk.later ?_ (by assumption))) (by repeat' (with_reducible first | assumption | (refine Blk.newAt ?_; simp; done) | refine Blk.alloc ?_ _ | refine Blk.drew ?_ | refine Blk.drewN ?_ _ | refine Blk.later ?_ (by assumption)))).mono ?_); rintro e w1 ⟨rfl, hb1⟩; have r0 : w1.cell? ⟨w.heap.size, 0, none⟩ = some (.int .i64 xa) := hb1.cell (by simp [go_sem])) | (go_at_call 15; refine (HX.out _).mono ?_; rintro e w2 ⟨rfl, hb2⟩))
      go_ret
      exact ⟨rfl, (by repeat' (with_reducible first | exact Later.refl _ | assumption | refine Later.drew ?_ | refine Later.drewN ?_ _ | refine Later.alloc ?_ _ | refine Later.put ?_ (by omega) _ | refine Later.trans ?_ (by assumption)))⟩
end

end Go.Proofs.Ytolddfapanabbaa
