/-
 The walk of roll.Check.
-/
import Derived.Test.YtdhakoecjmaebaaGreatZDam
namespace Go.Proofs.YtdhakoecjmaebaaGreat
open Go.RowKit
set_option linter.unusedSimpArgs false
set_option linter.unusedVariables false
def toneBad (n : Int) : Bool := decide (n < -1000) || decide (1000 < n)
def tonesBad : List Int → Bool
  | [] => false
  | n :: l => if toneBad n = true then true else tonesBad l
def flawBad (ln wd : Int) (q : Qd) : Bool :=
  decide (q.a < 0) || decide (q.c < 1) || decide (ln - q.a < q.c) || decide (q.b < 0) || decide (q.d < 1) || decide (wd - q.b < q.d)
def flawsBad (ln wd : Int) : List Qd → Bool
  | [] => false
  | q :: l => if flawBad ln wd q = true then true else flawsBad ln wd l
def baseI (r : Rl) : Int :=
  if idB r.id = false then 1 else if r.ln < 1 ∨ 1048576 < r.ln ∨ r.wd < 1 ∨ 1048576 < r.wd then 3 else if tonesBad [r.tl, r.ta, r.tb] = true then 3 else 0
def rollI (r : Rl) : Int := if baseI r ≠ 0 then baseI r else if 20 < r.fl.length then 5 else if flawsBad r.ln r.wd r.fl = true then 3 else 0
def restI (tl ta tb ln wd : Int) (fl : List Qd) : Int := if tonesBad [tl, ta, tb] = true then 3 else if 20 < fl.length then 5 else if flawsBad ln wd fl = true then 3 else 0
theorem rest_tone {tl ta tb ln wd : Int} {fl : List Qd} (h : tonesBad [tl, ta, tb] = true) : 3 = restI tl ta tb ln wd fl := by unfold restI; rw [if_pos h]
theorem rest_long {tl ta tb ln wd : Int} {fl : List Qd} (h : tonesBad [tl, ta, tb] = false) (h1 : 20 < fl.length) : 5 = restI tl ta tb ln wd fl := by unfold restI; rw [h, if_neg (by simp), if_pos h1]
theorem rest_flaw {tl ta tb ln wd : Int} {fl : List Qd} (h : tonesBad [tl, ta, tb] = false) (h1 : ¬ 20 < fl.length) (h2 : flawsBad ln wd fl = true) : 3 = restI tl ta tb ln wd fl := by unfold restI; rw [h, if_neg (by simp), if_neg h1, if_pos h2]
theorem rest_ok {tl ta tb ln wd : Int} {fl : List Qd} (h : tonesBad [tl, ta, tb] = false) (h1 : ¬ 20 < fl.length) (h2 : flawsBad ln wd fl = false) : 0 = restI tl ta tb ln wd fl := by unfold restI; rw [h, if_neg (by simp), if_neg h1, h2, if_neg (by simp)]
theorem tones_hit {n : Int} {l : List Int} (h : toneBad n = true) : tonesBad (n :: l) = true := by rw [tonesBad, if_pos h]
theorem tones_miss {n : Int} {l : List Int} (h : toneBad n = false) : tonesBad (n :: l) = tonesBad l := by rw [tonesBad, if_neg (by simp [h])]
theorem flaws_hit {ln wd : Int} {q : Qd} {l : List Qd} (h : flawBad ln wd q = true) : flawsBad ln wd (q :: l) = true := by rw [flawsBad, if_pos h]
theorem flaws_miss {ln wd : Int} {q : Qd} {l : List Qd} (h : flawBad ln wd q = false) : flawsBad ln wd (q :: l) = flawsBad ln wd l := by rw [flawsBad, if_neg (by simp [h])]
set_option maxHeartbeats 1000000 in
theorem roll_Check_id (r : Rl) (w : World) (hr : RlOk w r) (hid : idB r.id = false) :
    Calls Tryz.prog 122 #[r.agg] w (Ret (.int .i64 1) w) := by
  have Hi := Lib.hid (fun W => roll_isId r.id W hr.1)
  rw [hid] at Hi
  clear hid
  unfold Rl.agg
  obtain ⟨id, wd, ln, tl, ta, tb, fa, fc, fl⟩ := r
  go_enter Tryz.func122, Tryz.ntmps122
  go_wp2_with (first | (go_at_call 168; refine (Hi.out _).mono ?_; rintro e w1 ⟨rfl, rfl⟩))
  go_ret
  exact ⟨rfl, (by repeat' (first | exact Later.refl _ | assumption | refine Later.drew ?_ | refine Later.drewN ?_ _ | refine Later.alloc ?_ _ | refine Later.put ?_ (by omega) _ | refine Later.trans ?_ (by assumption)))⟩
set_option maxHeartbeats 1000000 in
theorem roll_Check_range (r : Rl) (w : World) (hr : RlOk w r) (hid : idB r.id = true) (hb : r.ln < 1 ∨ 1048576 < r.ln ∨ r.wd < 1 ∨ 1048576 < r.wd) :
    Calls Tryz.prog 122 #[r.agg] w (Ret (.int .i64 3) w) := by
  have Hi := Lib.hid (fun W => roll_isId r.id W hr.1)
  rw [hid] at Hi
  clear hid
  unfold Rl.agg
  obtain ⟨id, wd, ln, tl, ta, tb, fa, fc, fl⟩ := r
  simp only [] at hb
  go_enter Tryz.func122, Tryz.ntmps122
  by_cases h1 : ln < 1
  · have d1 : decide (ln < 1) = true := by simpa using h1
    go_wp2_with (first | (go_at_call 168; refine (Hi.out _).mono ?_; rintro e w1 ⟨rfl, rfl⟩))
    go_ret
    exact ⟨rfl, (by repeat' (first | exact Later.refl _ | assumption | refine Later.drew ?_ | refine Later.drewN ?_ _ | refine Later.alloc ?_ _ | refine Later.put ?_ (by omega) _ | refine Later.trans ?_ (by assumption)))⟩
  have d1 : decide (ln < 1) = false := by simpa using h1
  by_cases h2 : 1048576 < ln
  · have d2 : decide (1048576 < ln) = true := by simpa using h2
    go_wp2_with (first | (go_at_call 168; refine (Hi.out _).mono ?_; rintro e w1 ⟨rfl, rfl⟩))
    go_ret
    exact ⟨rfl, (by repeat' (first | exact Later.refl _ | assumption | refine Later.drew ?_ | refine Later.drewN ?_ _ | refine Later.alloc ?_ _ | refine Later.put ?_ (by omega) _ | refine Later.trans ?_ (by assumption)))⟩
  have d2 : decide (1048576 < ln) = false := by simpa using h2
  by_cases h3 : wd < 1
  · have d3 : decide (wd < 1) = true := by simpa using h3
    go_wp2_with (first | (go_at_call 168; refine (Hi.out _).mono ?_; rintro e w1 ⟨rfl, rfl⟩))
    go_ret
    exact ⟨rfl, (by repeat' (first | exact Later.refl _ | assumption | refine Later.drew ?_ | refine Later.drewN ?_ _ | refine Later.alloc ?_ _ | refine Later.put ?_ (by omega) _ | refine Later.trans ?_ (by assumption)))⟩
  · have d3 : decide (wd < 1) = false := by simpa using h3
    have h4 : 1048576 < wd := by omega
    have d4 : decide (1048576 < wd) = true := by simpa using h4
    go_wp2_with (first | (go_at_call 168; refine (Hi.out _).mono ?_; rintro e w1 ⟨rfl, rfl⟩))
    go_ret
    exact ⟨rfl, (by repeat' (first | exact Later.refl _ | assumption | refine Later.drew ?_ | refine Later.drewN ?_ _ | refine Later.alloc ?_ _ | refine Later.put ?_ (by omega) _ | refine Later.trans ?_ (by assumption)))⟩
def TR (tl ta tb : Int) (iv : Value) : Prop :=
  (iv = .int .i64 0 ∧ True) ∨ (iv = .int .i64 1 ∧ tonesBad [tl, ta, tb] = tonesBad [ta, tb]) ∨ (iv = .int .i64 2 ∧ tonesBad [tl, ta, tb] = tonesBad [tb]) ∨ (iv = .int .i64 3 ∧ tonesBad [tl, ta, tb] = tonesBad [])
set_option maxHeartbeats 4000000 in
theorem roll_Check_in (r : Rl) (w : World) (hr : RlOk w r) (hid : idB r.id = true) (h1 : 1 ≤ r.ln) (h2 : r.ln ≤ 1048576) (h3 : 1 ≤ r.wd) (h4 : r.wd ≤ 1048576) :
    Calls Tryz.prog 122 #[r.agg] w (Ret (.int .i64 (restI r.tl r.ta r.tb r.ln r.wd r.fl)) w) := by
  have Hi := Lib.hid (fun W => roll_isId r.id W hr.1)
  rw [hid] at Hi
  clear hid
  unfold Rl.agg
  obtain ⟨id, wd, ln, tl, ta, tb, fa, fc, fl⟩ := r
  obtain ⟨_, hfc, hfm, hq, hqi, _⟩ := hr
  simp only [] at *
  unfold maxLen at hfm
  have d1 : decide (ln < 1) = false := by simp; omega
  have d2 : decide (1048576 < ln) = false := by simp; omega
  have d3 : decide (wd < 1) = false := by simp; omega
  have d4 : decide (1048576 < wd) = false := by simp; omega
  go_enter Tryz.func122, Tryz.ntmps122
  go_wp2_with (first | (go_at_call 168; refine (Hi.out _).mono ?_; rintro e w1 ⟨rfl, rfl⟩))
  clear d1 d2 d3 d4
  refine name_world (fun W9 hW9 => ?_)
  have hl9 : Later w W9 := by rw [hW9]; exact (by repeat' (first | exact Later.refl _ | assumption | refine Later.drew ?_ | refine Later.drewN ?_ _ | refine Later.alloc ?_ _ | refine Later.put ?_ (by omega) _ | refine Later.trans ?_ (by assumption)))
  have c1 : W9.cell? ⟨w.heap.size, 1, none⟩ = some (.int .i64 wd) := by rw [hW9]; simp [go_sem]
  have c2 : W9.cell? ⟨w.heap.size, 2, none⟩ = some (.int .i64 ln) := by rw [hW9]; simp [go_sem]
  have c6 : W9.cell? ⟨w.heap.size, 6, none⟩ = some (.slice fa fl.length fc) := by rw [hW9]; simp [go_sem]
  have t0 : W9.cell? ⟨w.heap.size + 1, 0, none⟩ = some (.int .i64 tl) := by rw [hW9]; simp [go_sem]
  have t1 : W9.cell? ⟨w.heap.size + 1, 1, none⟩ = some (.int .i64 ta) := by rw [hW9]; simp [go_sem]
  have t2 : W9.cell? ⟨w.heap.size + 1, 2, none⟩ = some (.int .i64 tb) := by rw [hW9]; simp [go_sem]
  have hq9 := hq.later hl9
  clear hW9 hq Hi
  go_loop [2, 4, 40] (fun _ _ iv => TR tl ta tb iv) (fun _ _ iv => 3 - (intOf iv).toNat)
  case atStart => exact .inl ⟨rfl, trivial⟩
  case round =>
    rcases hrel with ⟨rfl, he⟩ | ⟨rfl, he⟩ | ⟨rfl, he⟩ | ⟨rfl, he⟩
    · (try have He := Lib.hid he)
      clear he
      go_wp2
      all_goals
        first
        | (go_ret
           exact ⟨ret_int (rest_tone ((rfl : tonesBad [tl, ta, tb] = tonesBad [tl, ta, tb]).trans (tones_hit (by simp [toneBad]; omega)))), (by repeat' (first | exact Later.refl _ | assumption | refine Later.drew ?_ | refine Later.drewN ?_ _ | refine Later.alloc ?_ _ | refine Later.put ?_ (by omega) _ | refine Later.trans ?_ (by assumption)))⟩)
        | (go_round
           case rel => exact (.inr <| .inl ⟨rfl, (rfl : tonesBad [tl, ta, tb] = tonesBad [tl, ta, tb]).trans (tones_miss (by simp [toneBad]; omega))⟩)
           case measure => simp [intOf])
    · (try have He := Lib.hid he)
      clear he
      go_wp2
      all_goals
        first
        | (go_ret
           exact ⟨ret_int (rest_tone (He.out.trans (tones_hit (by simp [toneBad]; omega)))), (by repeat' (first | exact Later.refl _ | assumption | refine Later.drew ?_ | refine Later.drewN ?_ _ | refine Later.alloc ?_ _ | refine Later.put ?_ (by omega) _ | refine Later.trans ?_ (by assumption)))⟩)
        | (go_round
           case rel => exact (.inr <| .inr <| .inl ⟨rfl, He.out.trans (tones_miss (by simp [toneBad]; omega))⟩)
           case measure => simp [intOf])
    · (try have He := Lib.hid he)
      clear he
      go_wp2
      all_goals
        first
        | (go_ret
           exact ⟨ret_int (rest_tone (He.out.trans (tones_hit (by simp [toneBad]; omega)))), (by repeat' (first | exact Later.refl _ | assumption | refine Later.drew ?_ | refine Later.drewN ?_ _ | refine Later.alloc ?_ _ | refine Later.put ?_ (by omega) _ | refine Later.trans ?_ (by assumption)))⟩)
        | (go_round
           case rel => exact (.inr <| .inr <| .inr ⟨rfl, He.out.trans (tones_miss (by simp [toneBad]; omega))⟩)
           case measure => simp [intOf])
    · have Ht := Lib.hid (show tonesBad [tl, ta, tb] = false from he)
      clear he
      by_cases h20 : 20 < fl.length
      · go_wp2
        go_ret
        exact ⟨ret_int (rest_long Ht.out h20), (by repeat' (first | exact Later.refl _ | assumption | refine Later.drew ?_ | refine Later.drewN ?_ _ | refine Later.alloc ?_ _ | refine Later.put ?_ (by omega) _ | refine Later.trans ?_ (by assumption)))⟩
      · have hfl : fl.length ≤ 20 := by omega
        have d20 : decide (20 < fl.length) = false := by simpa using h20
        go_wp2
        go_loopw [2, 58] (fun _ iv wr => ∃ k : Nat, k ≤ fl.length ∧ iv = .int .i64 k ∧ flawsBad ln wd fl = flawsBad ln wd (fl.drop k) ∧ Later W9 wr) (fun _ iv _ => fl.length - (intOf iv).toNat)
        case atStart => exact ⟨0, by omega, rfl, rfl, Later.refl _⟩
        case round =>
          obtain ⟨k, hk, rfl, he, hb⟩ := hrel
          have He := Lib.hid he
          clear he
          have g1 := hb.cell c1
          have g2 := hb.cell c2
          by_cases hlt : k < fl.length
          · obtain ⟨bb, ob, rfl, hel⟩ := (hq9.later hb) (by omega)
            obtain ⟨e1, e2, e3, e4⟩ := hel.get hlt
            have hbz : bb < wr.heap.size := World.block_lt_of_cell? _ _ e1
            have hgz : w.heap.size < wr.heap.size := World.block_lt_of_cell? _ _ g1
            have Hd := Lib.hid (drop_cons' fl k hlt)
            have hi := hqi _ (List.getElem_mem hlt)
            generalize fl[k] = q at *
            obtain ⟨qa, qb, qc, qd⟩ := q
            obtain ⟨i1, i2, i3, i4⟩ := hi
            simp only [] at i1 i2 i3 i4 e1 e2 e3 e4
            unfold I64 at i1 i2 i3 i4
            go_wp2
            all_goals
              first
              | (exfalso; omega)
              | (go_ret
                 exact ⟨ret_int (rest_flaw Ht.out h20 (by rw [He.out, Hd.out]; exact flaws_hit (by simp [flawBad]; omega))), (by repeat' (first | exact Later.refl _ | assumption | refine Later.drew ?_ | refine Later.drewN ?_ _ | refine Later.alloc ?_ _ | refine Later.put ?_ (by omega) _ | refine Later.trans ?_ (by assumption)))⟩)
              | (go_roundw
                 case rel => exact ⟨k + 1, by omega, by go_num, by rw [He.out, Hd.out]; exact flaws_miss (by simp [flawBad]; omega), (by repeat' (first | exact Later.refl _ | assumption | refine Later.drew ?_ | refine Later.drewN ?_ _ | refine Later.alloc ?_ _ | refine Later.put ?_ (by omega) _ | refine Later.trans ?_ (by assumption)))⟩
                 case measure => simp [intOf]; omega)
          · go_wp2
            go_ret
            exact ⟨ret_int (rest_ok Ht.out h20 (by rw [He.out, List.drop_eq_nil_of_le (by omega)]; rfl)), (by repeat' (first | exact Later.refl _ | assumption | refine Later.drew ?_ | refine Later.drewN ?_ _ | refine Later.alloc ?_ _ | refine Later.put ?_ (by omega) _ | refine Later.trans ?_ (by assumption)))⟩
theorem rollI_id {r : Rl} (hid : idB r.id = false) : rollI r = 1 := by
  have : baseI r = 1 := by unfold baseI; rw [if_pos hid]
  unfold rollI; rw [this]; rfl
theorem rollI_range {r : Rl} (hid : idB r.id = true) (hb : r.ln < 1 ∨ 1048576 < r.ln ∨ r.wd < 1 ∨ 1048576 < r.wd) : rollI r = 3 := by
  have : baseI r = 3 := by unfold baseI; rw [hid, if_neg (by simp), if_pos hb]
  unfold rollI; rw [this]; rfl
theorem rollI_in {r : Rl} (hid : idB r.id = true) (hb : ¬ (r.ln < 1 ∨ 1048576 < r.ln ∨ r.wd < 1 ∨ 1048576 < r.wd)) : rollI r = restI r.tl r.ta r.tb r.ln r.wd r.fl := by
  have : baseI r = if tonesBad [r.tl, r.ta, r.tb] = true then 3 else 0 := by unfold baseI; rw [hid, if_neg (by simp), if_neg hb]
  unfold rollI restI
  rw [this]
  by_cases ht : tonesBad [r.tl, r.ta, r.tb] = true
  · rw [if_pos ht, if_pos ht]; rfl
  · rw [if_neg ht, if_neg ht]; rfl
theorem roll_Check (r : Rl) (w : World) (hr : RlOk w r) : Calls Tryz.prog 122 #[r.agg] w (Ret (.int .i64 (rollI r)) w) := by
  rcases hid : idB r.id with _ | _
  · rw [rollI_id hid]
    exact roll_Check_id r w hr hid
  · by_cases hb : r.ln < 1 ∨ 1048576 < r.ln ∨ r.wd < 1 ∨ 1048576 < r.wd
    · rw [rollI_range hid hb]
      exact roll_Check_range r w hr hid hb
    · rw [rollI_in hid hb]
      exact roll_Check_in r w hr hid (by omega) (by omega) (by omega) (by omega)
theorem roll_ok {r : Rl} (h : rollI r = 0) : baseI r = 0 ∧ r.fl.length ≤ 20 ∧ flawsBad r.ln r.wd r.fl = false ∧ (1 ≤ r.ln ∧ r.ln ≤ 1048576) ∧ (1 ≤ r.wd ∧ r.wd ≤ 1048576) := by
  unfold rollI at h
  by_cases hb : baseI r = 0
  · rw [if_neg (by simpa using hb)] at h
    have hb' := hb
    unfold baseI at hb'
    by_cases h20 : 20 < r.fl.length
    · rw [if_pos h20] at h; cases h
    · rw [if_neg h20] at h
      rcases hf : flawsBad r.ln r.wd r.fl with _ | _
      · refine ⟨hb, by omega, rfl, ?_⟩
        split at hb'
        · cases hb'
        · split at hb'
          · cases hb'
          · omega
      · rw [hf, if_pos rfl] at h; cases h
  · rw [if_pos (by simpa using hb)] at h
    exact absurd h hb
theorem flawsBad_all {ln wd : Int} : ∀ {l : List Qd}, flawsBad ln wd l = false ↔ ∀ q ∈ l, flawBad ln wd q = false := by
  intro l
  induction l with
  | nil => simp [flawsBad]
  | cons q l ih =>
    rw [flawsBad]
    by_cases hq : flawBad ln wd q = true
    · rw [if_pos hq]; simp [hq]
    · rw [if_neg hq, ih]; simp [hq]
theorem flaw_in {ln wd : Int} {q : Qd} (h : flawBad ln wd q = false) : 0 ≤ q.a ∧ 1 ≤ q.c ∧ q.c ≤ ln - q.a ∧ 0 ≤ q.b ∧ 1 ≤ q.d ∧ q.d ≤ wd - q.b := by
  simp only [flawBad, Bool.or_eq_false_iff, decide_eq_false_iff_not] at h
  omega
end Go.Proofs.YtdhakoecjmaebaaGreat
