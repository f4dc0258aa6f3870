/-
  The walk of roll.Check.
-/
import Derived.Test.YtolddfapanabbaaGreatDam
namespace Go.Proofs.YtolddfapanabbaaGreat
open Go.RowKit
set_option linter.unusedSimpArgs false
set_option linter.unusedVariables false

def toneBad (n : Int) : Bool := decide (n < -1000) || decide (1000 < n)
def tonesBad : List Int → Bool
  | [] => false
  | n :: l => if toneBad n = true then true else tonesBad l
def flawBad (ln wd : Int) (q : Qd) : Bool :=
  decide (q.a < 0) || decide (q.c < 1) || decide (ln - q.a < q.c) || decide (q.b < 0) || decide (q.d < 1) || decide (wd - q.b < q.d)
def flawsBad (ln wd : Int) : List Qd → Bool
  | [] => false
  | q :: l => if flawBad ln wd q = true then true else flawsBad ln wd l
/-- What roll.Check says of a roll, whatever its flaws. -/
def baseI (r : Rl) : Int :=
  if idB r.id = false then 1 else if r.ln < 1 ∨ 1048576 < r.ln ∨ r.wd < 1 ∨ 1048576 < r.wd then 3 else if tonesBad [r.tl, r.ta, r.tb] = true then 3 else 0
def rollI (r : Rl) : Int := if baseI r ≠ 0 then baseI r else if 20 < r.fl.length then 5 else if flawsBad r.ln r.wd r.fl = true then 3 else 0

/-- What is left to say behind Id and measures. -/
def restI (tl ta tb ln wd : Int) (fl : List Qd) : Int := if tonesBad [tl, ta, tb] = true then 3 else if 20 < fl.length then 5 else if flawsBad ln wd fl = true then 3 else 0

theorem rest_tone {tl ta tb ln wd : Int} {fl : List Qd} (h : tonesBad [tl, ta, tb] = true) : 3 = restI tl ta tb ln wd fl := by unfold restI; rw [if_pos h]
theorem rest_long {tl ta tb ln wd : Int} {fl : List Qd} (h : tonesBad [tl, ta, tb] = false) (h1 : 20 < fl.length) : 5 = restI tl ta tb ln wd fl := by unfold restI; rw [h, if_neg (by simp), if_pos h1]
theorem rest_flaw {tl ta tb ln wd : Int} {fl : List Qd} (h : tonesBad [tl, ta, tb] = false) (h1 : ¬ 20 < fl.length) (h2 : flawsBad ln wd fl = true) : 3 = restI tl ta tb ln wd fl := by unfold restI; rw [h, if_neg (by simp), if_neg h1, if_pos h2]
theorem rest_ok {tl ta tb ln wd : Int} {fl : List Qd} (h : tonesBad [tl, ta, tb] = false) (h1 : ¬ 20 < fl.length) (h2 : flawsBad ln wd fl = false) : 0 = restI tl ta tb ln wd fl := by unfold restI; rw [h, if_neg (by simp), if_neg h1, h2, if_neg (by simp)]
theorem tones_hit {n : Int} {l : List Int} (h : toneBad n = true) : tonesBad (n :: l) = true := by rw [tonesBad, if_pos h]
theorem tones_miss {n : Int} {l : List Int} (h : toneBad n = false) : tonesBad (n :: l) = tonesBad l := by rw [tonesBad, if_neg (by simp [h])]
theorem flaws_hit {ln wd : Int} {q : Qd} {l : List Qd} (h : flawBad ln wd q = true) : flawsBad ln wd (q :: l) = true := by rw [flawsBad, if_pos h]
theorem flaws_miss {ln wd : Int} {q : Qd} {l : List Qd} (h : flawBad ln wd q = false) : flawsBad ln wd (q :: l) = flawsBad ln wd l := by rw [flawsBad, if_neg (by simp [h])]

theorem tone_dec {n : Int} (h : toneBad n = true) : n < -1000 ∨ 1000 < n := by simpa [toneBad] using h
theorem tone_dec' {n : Int} (h : toneBad n = false) : ¬ n < -1000 ∧ ¬ 1000 < n := by simpa [toneBad] using h

def TR (tl ta tb : Int) (iv : Value) : Prop :=
  (iv = .int .i64 0 ∧ True) ∨ (iv = .int .i64 1 ∧ tonesBad [tl, ta, tb] = tonesBad [ta, tb]) ∨ (iv = .int .i64 2 ∧ tonesBad [tl, ta, tb] = tonesBad [tb]) ∨ (iv = .int .i64 3 ∧ tonesBad [tl, ta, tb] = tonesBad [])

theorem rollI_id {r : Rl} (hid : idB r.id = false) : rollI r = 1 := by
  have : baseI r = 1 := by unfold baseI; rw [if_pos hid]
  unfold rollI; rw [this]; rfl
theorem rollI_range {r : Rl} (hid : idB r.id = true) (hb : r.ln < 1 ∨ 1048576 < r.ln ∨ r.wd < 1 ∨ 1048576 < r.wd) : rollI r = 3 := by
  have : baseI r = 3 := by unfold baseI; rw [hid, if_neg (by simp), if_pos hb]
  unfold rollI; rw [this]; rfl
theorem rollI_in {r : Rl} (hid : idB r.id = true) (hb : ¬ (r.ln < 1 ∨ 1048576 < r.ln ∨ r.wd < 1 ∨ 1048576 < r.wd)) : rollI r = restI r.tl r.ta r.tb r.ln r.wd r.fl := by
  have : baseI r = if tonesBad [r.tl, r.ta, r.tb] = true then 3 else 0 := by unfold baseI; rw [hid, if_neg (by simp), if_neg hb]
  unfold rollI restI
  rw [this]
  by_cases ht : tonesBad [r.tl, r.ta, r.tb] = true
  · rw [if_pos ht, if_pos ht]; rfl
  · rw [if_neg ht, if_neg ht]; rfl
/-- What a roll that passes says. -/
theorem roll_ok {r : Rl} (h : rollI r = 0) : baseI r = 0 ∧ r.fl.length ≤ 20 ∧ flawsBad r.ln r.wd r.fl = false ∧ (1 ≤ r.ln ∧ r.ln ≤ 1048576) ∧ (1 ≤ r.wd ∧ r.wd ≤ 1048576) := by
  unfold rollI at h
  by_cases hb : baseI r = 0
  · rw [if_neg (by simpa using hb)] at h
    have hb' := hb
    unfold baseI at hb'
    by_cases h20 : 20 < r.fl.length
    · rw [if_pos h20] at h; cases h
    · rw [if_neg h20] at h
      rcases hf : flawsBad r.ln r.wd r.fl with _ | _
      · refine ⟨hb, by omega, rfl, ?_⟩
        split at hb'
        · cases hb'
        · split at hb'
          · cases hb'
          · omega
      · rw [hf, if_pos rfl] at h; cases h
  · rw [if_pos (by simpa using hb)] at h
    exact absurd h hb
theorem flawsBad_all {ln wd : Int} : ∀ {l : List Qd}, flawsBad ln wd l = false ↔ ∀ q ∈ l, flawBad ln wd q = false := by
  intro l
  induction l with
  | nil => simp [flawsBad]
  | cons q l ih =>
    rw [flawsBad]
    by_cases hq : flawBad ln wd q = true
    · rw [if_pos hq]; simp [hq]
    · rw [if_neg hq, ih]; simp [hq]
theorem flaw_in {ln wd : Int} {q : Qd} (h : flawBad ln wd q = false) : 0 ≤ q.a ∧ 1 ≤ q.c ∧ q.c ≤ ln - q.a ∧ 0 ≤ q.b ∧ 1 ≤ q.d ∧ q.d ≤ wd - q.b := by
  simp only [flawBad, Bool.or_eq_false_iff, decide_eq_false_iff_not] at h
  omega

end Go.Proofs.YtolddfapanabbaaGreat
