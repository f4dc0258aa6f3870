/-
  The walk of garmentref39.Few.
-/
import Derived.Test.YtolddfapanabbaaDTab
namespace Go.Proofs.Ytolddfapanabbaa
open Go.RowKit
set_option linter.unusedSimpArgs false
set_option linter.unusedVariables false

def pliesB : List Py → Bool
  | [] => true
  | p :: l => if 6 < p.parts.length then false else pliesB l
def rollsB : List Rl → Bool
  | [] => true
  | r :: l => if 6 < r.fl.length ∨ 50 < r.id.size then false else rollsB l
def polysB : List (List Pt) → Bool
  | [] => true
  | p :: l => if 10 < p.length then false else polysB l
def fewB (ys : List Py) (rs : List Rl) (ps : List (List Pt)) : Bool :=
  if 12 < ys.length ∨ 6 < rs.length ∨ 6 < ps.length then false else if pliesB ys = false then false else if rollsB rs = false then false else polysB ps

theorem plies_no {p : Py} {l : List Py} (h : 6 < p.parts.length) : pliesB (p :: l) = false := by rw [pliesB, if_pos h]
theorem plies_go {p : Py} {l : List Py} (h : ¬ 6 < p.parts.length) : pliesB (p :: l) = pliesB l := by rw [pliesB, if_neg h]
theorem rolls_no {p : Rl} {l : List Rl} (h : 6 < p.fl.length ∨ 50 < p.id.size) : rollsB (p :: l) = false := by rw [rollsB, if_pos h]
theorem rolls_go {p : Rl} {l : List Rl} (h : ¬ (6 < p.fl.length ∨ 50 < p.id.size)) : rollsB (p :: l) = rollsB l := by rw [rollsB, if_neg h]
theorem polys_no {p : List Pt} {l : List (List Pt)} (h : 10 < p.length) : polysB (p :: l) = false := by rw [polysB, if_pos h]
theorem polys_go {p : List Pt} {l : List (List Pt)} (h : ¬ 10 < p.length) : polysB (p :: l) = polysB l := by rw [polysB, if_neg h]

theorem few_plies {ys : List Py} {rs : List Rl} {ps : List (List Pt)} (h : pliesB ys = false) : false = fewB ys rs ps := by unfold fewB; simp [h]
theorem few_rolls {ys : List Py} {rs : List Rl} {ps : List (List Pt)} (h : rollsB rs = false) : false = fewB ys rs ps := by unfold fewB; simp [h]
theorem few_polys {ys : List Py} {rs : List Rl} {ps : List (List Pt)} (h : polysB ps = false) : false = fewB ys rs ps := by unfold fewB; simp [h]
theorem few_yes {ys : List Py} {rs : List Rl} {ps : List (List Pt)} (h : ¬ (12 < ys.length ∨ 6 < rs.length ∨ 6 < ps.length)) (h1 : pliesB ys = true) (h2 : rollsB rs = true) (h3 : polysB ps = true) : true = fewB ys rs ps := by
  unfold fewB; rw [if_neg h, h1, h2, h3]; rfl

set_option maxHeartbeats 2000000 in
theorem ref39_Few_no (P C Q : Option Addr) (pc cc qc : Nat) (ys : List Py) (rs : List Rl) (ps : List (List Pt)) (w : World) (hl : 12 < ys.length ∨ 6 < rs.length ∨ 6 < ps.length) :
    Calls Try.prog 14 #[.slice P ys.length pc, .slice C rs.length cc, .slice Q ps.length qc] w (Ret (.bool false) w) := by
  go_enter Try.func14, Try.ntmps14
  by_cases h1 : 12 < ys.length
  · have d1 : decide ((12 : Int) < (ys.length : Int)) = true := by simp; omega
    go_wp2
    go_ret
    exact ⟨rfl, (by repeat' (first | exact Later.refl _ | assumption | refine Later.drew ?_ | refine Later.drewN ?_ _ | refine Later.alloc ?_ _ | refine Later.put ?_ (by omega) _ | refine Later.trans ?_ (by assumption)))⟩
  · have d1 : decide ((12 : Int) < (ys.length : Int)) = false := by simp; omega
    by_cases h2 : 6 < rs.length
    · have d2 : decide ((6 : Int) < (rs.length : Int)) = true := by simp; omega
      go_wp2
      go_ret
      exact ⟨rfl, (by repeat' (first | exact Later.refl _ | assumption | refine Later.drew ?_ | refine Later.drewN ?_ _ | refine Later.alloc ?_ _ | refine Later.put ?_ (by omega) _ | refine Later.trans ?_ (by assumption)))⟩
    · have d2 : decide ((6 : Int) < (rs.length : Int)) = false := by simp; omega
      have h3 : 6 < ps.length := by omega
      have d3 : decide ((6 : Int) < (ps.length : Int)) = true := by simp; omega
      go_wp2
      go_ret
      exact ⟨rfl, (by repeat' (first | exact Later.refl _ | assumption | refine Later.drew ?_ | refine Later.drewN ?_ _ | refine Later.alloc ?_ _ | refine Later.put ?_ (by omega) _ | refine Later.trans ?_ (by assumption)))⟩

set_option maxRecDepth 100000 in
set_option maxHeartbeats 2000000 in
theorem ref39_Few_in (P C Q : Option Addr) (pc cc qc : Nat) (ys : List Py) (rs : List Rl) (ps : List (List Pt)) (w : World) (hy : Plys w P ys) (hr : Rolls w C rs) (hp : Polys w Q ps)
    (hl : ¬ (12 < ys.length ∨ 6 < rs.length ∨ 6 < ps.length)) :
    Calls Try.prog 14 #[.slice P ys.length pc, .slice C rs.length cc, .slice Q ps.length qc] w (Ret (.bool (fewB ys rs ps)) w) := by
  have d1 : decide ((12 : Int) < (ys.length : Int)) = false := by simp; omega
  have d2 : decide ((6 : Int) < (rs.length : Int)) = false := by simp; omega
  have d3 : decide ((6 : Int) < (ps.length : Int)) = false := by simp; omega
  have l1 : ys.length ≤ 12 := by omega
  have l2 : rs.length ≤ 6 := by omega
  have l3 : ps.length ≤ 6 := by omega
  go_enter Try.func14, Try.ntmps14
  go_wp2
  clear d1 d2 d3
  go_loop [6, 7] (fun _ iv => ∃ k : Nat, k ≤ ys.length ∧ iv = .int .i64 k ∧ pliesB ys = pliesB (ys.drop k)) (fun _ iv => ys.length - (intOf iv).toNat)
  case atStart => exact ⟨0, by omega, rfl, rfl⟩
  case round =>
    obtain ⟨k, hk, rfl, he⟩ := hrel
    have He := Lib.hid he
    clear he
    by_cases hlt : k < ys.length
    · obtain ⟨bb, ob, rfl, e1, e2, hok⟩ := hy.at_ hlt
      have Hd := Lib.hid (drop_cons' ys k hlt)
      generalize ys[k] = y at *
      obtain ⟨lot, pa, pc', parts⟩ := y
      simp only [] at e1 e2
      by_cases h6 : 6 < parts.length
      · go_wp2
        go_ret
        exact ⟨ret_bool (few_plies (by rw [He.out, Hd.out]; exact plies_no h6)), (by repeat' (first | exact Later.refl _ | assumption | refine Later.drew ?_ | refine Later.drewN ?_ _ | refine Later.alloc ?_ _ | refine Later.put ?_ (by omega) _ | refine Later.trans ?_ (by assumption)))⟩
      · go_wp2
        go_round
        case rel => exact ⟨k + 1, by omega, by go_num, by rw [He.out, Hd.out]; exact plies_go h6⟩
        case measure => simp [intOf]; omega
    · have Hp := Lib.hid (show pliesB ys = true by rw [He.out, List.drop_eq_nil_of_le (by omega)]; rfl)
      go_wp2
      clear He hk hlt
      go_loop [6, 8] (fun _ iv => ∃ k : Nat, k ≤ rs.length ∧ iv = .int .i64 k ∧ rollsB rs = rollsB (rs.drop k)) (fun _ iv => rs.length - (intOf iv).toNat)
      case atStart => exact ⟨0, by omega, rfl, rfl⟩
      case round =>
        obtain ⟨k, hk, rfl, he⟩ := hrel
        have He := Lib.hid he
        clear he
        by_cases hlt : k < rs.length
        · obtain ⟨bb, ob, rfl, e1, e2, e3, e4, e5, e6, e7, hok⟩ := hr.at_ hlt
          have Hd := Lib.hid (drop_cons' rs k hlt)
          generalize rs[k] = y at *
          obtain ⟨rid, rwd, rln, rtl, rta, rtb, fa, fc, fl⟩ := y
          simp only [] at e1 e7
          by_cases h6 : 6 < fl.length
          · have d6 : decide ((6 : Int) < (fl.length : Int)) = true := by simp; omega
            go_wp2
            go_ret
            exact ⟨ret_bool (few_rolls (by rw [He.out, Hd.out]; exact rolls_no (.inl h6))), (by repeat' (first | exact Later.refl _ | assumption | refine Later.drew ?_ | refine Later.drewN ?_ _ | refine Later.alloc ?_ _ | refine Later.put ?_ (by omega) _ | refine Later.trans ?_ (by assumption)))⟩
          · have d6 : decide ((6 : Int) < (fl.length : Int)) = false := by simp; omega
            by_cases h50 : 50 < rid.size
            · have d50 : decide ((50 : Int) < (rid.size : Int)) = true := by simp; omega
              go_wp2
              go_ret
              exact ⟨ret_bool (few_rolls (by rw [He.out, Hd.out]; exact rolls_no (.inr h50))), (by repeat' (first | exact Later.refl _ | assumption | refine Later.drew ?_ | refine Later.drewN ?_ _ | refine Later.alloc ?_ _ | refine Later.put ?_ (by omega) _ | refine Later.trans ?_ (by assumption)))⟩
            · have d50 : decide ((50 : Int) < (rid.size : Int)) = false := by simp; omega
              go_wp2
              go_round
              case rel => exact ⟨k + 1, by omega, by go_num, by rw [He.out, Hd.out]; exact rolls_go (by simp only []; omega)⟩
              case measure => simp [intOf]; omega
        · have Hr := Lib.hid (show rollsB rs = true by rw [He.out, List.drop_eq_nil_of_le (by omega)]; rfl)
          go_wp2
          clear He hk hlt
          go_loop [6, 9] (fun _ iv => ∃ k : Nat, k ≤ ps.length ∧ iv = .int .i64 k ∧ polysB ps = polysB (ps.drop k)) (fun _ iv => ps.length - (intOf iv).toNat)
          case atStart => exact ⟨0, by omega, rfl, rfl⟩
          case round =>
            obtain ⟨k, hk, rfl, he⟩ := hrel
            have He := Lib.hid he
            clear he
            by_cases hlt : k < ps.length
            · obtain ⟨bb, ob, A', c', rfl, e1, e2, e3⟩ := hp.at_ hlt
              have Hd := Lib.hid (drop_cons' ps k hlt)
              generalize ps[k] = y at *
              by_cases h10 : 10 < y.length
              · go_wp2
                go_ret
                exact ⟨ret_bool (few_polys (by rw [He.out, Hd.out]; exact polys_no h10)), (by repeat' (first | exact Later.refl _ | assumption | refine Later.drew ?_ | refine Later.drewN ?_ _ | refine Later.alloc ?_ _ | refine Later.put ?_ (by omega) _ | refine Later.trans ?_ (by assumption)))⟩
              · go_wp2
                go_round
                case rel => exact ⟨k + 1, by omega, by go_num, by rw [He.out, Hd.out]; exact polys_go h10⟩
                case measure => simp [intOf]; omega
            · have Hq := Lib.hid (show polysB ps = true by rw [He.out, List.drop_eq_nil_of_le (by omega)]; rfl)
              go_wp2
              clear He hk hlt
              go_ret
              exact ⟨ret_bool (few_yes hl Hp.out Hr.out Hq.out), (by repeat' (first | exact Later.refl _ | assumption | refine Later.drew ?_ | refine Later.drewN ?_ _ | refine Later.alloc ?_ _ | refine Later.put ?_ (by omega) _ | refine Later.trans ?_ (by assumption)))⟩

theorem ref39_Few (P C Q : Option Addr) (pc cc qc : Nat) (ys : List Py) (rs : List Rl) (ps : List (List Pt)) (w : World) (hy : Plys w P ys) (hr : Rolls w C rs) (hp : Polys w Q ps) :
    Calls Try.prog 14 #[.slice P ys.length pc, .slice C rs.length cc, .slice Q ps.length qc] w (Ret (.bool (fewB ys rs ps)) w) := by
  by_cases hl : 12 < ys.length ∨ 6 < rs.length ∨ 6 < ps.length
  · have : fewB ys rs ps = false := by unfold fewB; rw [if_pos hl]
    rw [this]
    exact ref39_Few_no P C Q pc cc qc ys rs ps w hl
  · exact ref39_Few_in P C Q pc cc qc ys rs ps w hy hr hp hl

theorem pliesB_all {l : List Py} : pliesB l = true → ∀ p ∈ l, p.parts.length ≤ 6 := by
  induction l with
  | nil => intro _ p hp; cases hp
  | cons q l ih =>
    intro h p hp
    rw [pliesB] at h
    split at h
    · cases h
    · rcases List.mem_cons.1 hp with rfl | hp
      · omega
      · exact ih h p hp
theorem rollsB_all {l : List Rl} : rollsB l = true → ∀ p ∈ l, p.fl.length ≤ 6 ∧ p.id.size ≤ 50 := by
  induction l with
  | nil => intro _ p hp; cases hp
  | cons q l ih =>
    intro h p hp
    rw [rollsB] at h
    split at h
    · cases h
    · rcases List.mem_cons.1 hp with rfl | hp
      · omega
      · exact ih h p hp
theorem polysB_all {l : List (List Pt)} : polysB l = true → ∀ p ∈ l, p.length ≤ 10 := by
  induction l with
  | nil => intro _ p hp; cases hp
  | cons q l ih =>
    intro h p hp
    rw [polysB] at h
    split at h
    · cases h
    · rcases List.mem_cons.1 hp with rfl | hp
      · omega
      · exact ih h p hp
theorem few_all {ys : List Py} {rs : List Rl} {ps : List (List Pt)} (h : fewB ys rs ps = true) :
    (ys.length ≤ 12 ∧ rs.length ≤ 6 ∧ ps.length ≤ 6) ∧ (∀ p ∈ ys, p.parts.length ≤ 6) ∧ (∀ p ∈ rs, p.fl.length ≤ 6 ∧ p.id.size ≤ 50) ∧ (∀ p ∈ ps, p.length ≤ 10) := by
  unfold fewB at h
  split at h
  · cases h
  · split at h
    · cases h
    · split at h
      · cases h
      · rename_i h1 h2 h3
        exact ⟨by omega, pliesB_all (by simpa using h2), rollsB_all (by simpa using h3), polysB_all h⟩

end Go.Proofs.Ytolddfapanabbaa
