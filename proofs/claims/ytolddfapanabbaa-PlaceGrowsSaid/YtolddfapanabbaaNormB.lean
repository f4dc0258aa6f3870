/-
  The walk of polygon.Normal.
-/
import Derived.Test.YtolddfapanabbaaConcat
import Derived.Deep.DeepCutAuto
namespace Go.Proofs.Ytolddfapanabbaa
open Go.RowKit
set_option linter.unusedSimpArgs false
set_option linter.unusedVariables false

/-- The vertices at which a polygon turns. -/
def cornGo (ps : List Pt) : Nat → Nat → List Pt → List Pt
  | 0, _, acc => acc
  | f + 1, i, acc => cornGo ps f (i + 1) (if bendI ps i = 0 then acc else acc ++ [gp ps i])
def cornersOf (ps : List Pt) : List Pt := cornGo ps ps.length 0 []
def lessP (a b : Pt) : Bool := decide (a.x < b.x) || (decide (a.x = b.x) && decide (a.y < b.y))
def leastGo (l : List Pt) : Nat → Nat → Nat → Nat
  | 0, _, m => m
  | f + 1, i, m => leastGo l f (i + 1) (if lessP (gp l i) (gp l m) then i else m)
def leastOf (l : List Pt) : Nat := leastGo l l.length 0 0
def ccwOf (ps : List Pt) : List Pt := if areaI ps < 0 then revOf (cornersOf ps) else cornersOf ps
def rotOf (l : List Pt) : List Pt := l.drop (leastOf l) ++ l.take (leastOf l)
def normalOf (ps : List Pt) : List Pt := rotOf (ccwOf ps)

theorem corn_step {ps : List Pt} {i : Nat} {acc x : List Pt} (he : x = cornGo ps (ps.length - i) i acc) (h : i < ps.length) :
    x = cornGo ps (ps.length - (i + 1)) (i + 1) (if bendI ps i = 0 then acc else acc ++ [gp ps i]) := by
  obtain ⟨f, hf'⟩ : ∃ f, ps.length - i = f + 1 := ⟨ps.length - i - 1, by omega⟩
  rw [he, hf', cornGo, show ps.length - (i + 1) = f by omega]
theorem least_step {l : List Pt} {i m x : Nat} (he : x = leastGo l (l.length - i) i m) (h : i < l.length) :
    x = leastGo l (l.length - (i + 1)) (i + 1) (if lessP (gp l i) (gp l m) then i else m) := by
  obtain ⟨f, hf'⟩ : ∃ f, l.length - i = f + 1 := ⟨l.length - i - 1, by omega⟩
  rw [he, hf', leastGo, show l.length - (i + 1) = f by omega]

theorem least_hit {l : List Pt} {i m x : Nat} (he : x = leastGo l (l.length - i) i m) (h : i < l.length) (hl : lessP (gp l i) (gp l m) = true) : x = leastGo l (l.length - (i + 1)) (i + 1) i := by
  have := least_step he h; rwa [if_pos hl] at this
theorem least_miss {l : List Pt} {i m x : Nat} (he : x = leastGo l (l.length - i) i m) (h : i < l.length) (hl : lessP (gp l i) (gp l m) = false) : x = leastGo l (l.length - (i + 1)) (i + 1) m := by
  have := least_step he h; rwa [hl] at this
theorem Own.at0 {w : World} {base g c : Nat} {ps : List Pt} (h : Own w base (.slice (some ⟨g, 0, none⟩) ps.length c) ps) (hn : 0 < ps.length) : PtsAt w g 0 ps := by
  obtain ⟨A, c', e, _, _, hP, hA⟩ := h.form
  obtain ⟨b', o', e2, hp⟩ := hP hn
  cases e
  cases e2
  exact hp
theorem new_two (w : World) (x y : Value) (t : TypeId) : ∀ j u, ([x, y] : List Value)[j]? = some u → (w.alloc (.cells #[x, y] t)).cell? ((⟨w.heap.size, 0, none⟩ : Addr).add j) = some u := by
  intro j u hu
  have h := Blk.new w t #[x, y]
  rcases j with _ | _ | j
  · simp at hu; subst hu; exact h.cell 0
  · simp at hu; subst hu; exact h.cell 1
  · simp at hu

/-- Two results: a slice that reads as ps, and no error. -/
def RetPts0 (ps : List Pt) (w : World) (e : Ending) (w' : World) : Prop := ∃ A c, e = .returned (.tuple #[.slice A ps.length c, .int .i64 0]) ∧ ps.length ≤ c ∧ c ≤ maxLen ∧ Pts w' A ps ∧ Later w w'


set_option maxHeartbeats 4000000 in
set_option maxRecDepth 100000 in
theorem polygon_Normal_ok (A : Option Addr) (c : Nat) (ps : List Pt) (w : World) (hcap : ps.length ≤ c) (hp : Pts w A ps) (hok : checkI ps = 0) (hne : 0 < (cornersOf ps).length) :
    Calls Try.prog 78 #[.slice A ps.length c] w (RetPts0 (normalOf ps) w) := by
  have hn : ps.length ≤ 40 := by
    unfold checkI at hok
    split at hok
    · cases hok
    · omega
  have h3 : 3 ≤ ps.length := by
    unfold checkI at hok
    split at hok
    · cases hok
    · split at hok
      · cases hok
      · omega
  have hsm := small_of_check hok
  obtain ⟨i0, hi, hz0, hz1, hz2⟩ := info_parts info_spot
  obtain ⟨b, o, rfl, hat⟩ := hp (by omega)
  have hC := polygon_Check (some ⟨b, o, none⟩) c ps w (by omega) hcap hp
  rw [hok] at hC
  have HC := Lib.hid hC
  clear hC hok
  have Hne := Lib.hid hne
  clear hne
  go_enter Try.func78, Try.ntmps78
  go_wp2_with (first | (go_at_call 46; refine HC.out.mono ?_; rintro e w1 ⟨rfl, hb1⟩))
  go_loopw [5, 19] (fun v ii wr => ∃ (k : Nat) (acc : List Pt), k ≤ ps.length ∧ ii = .int .i64 k ∧ Own wr w.heap.size v acc ∧ cornersOf ps = cornGo ps (ps.length - k) k acc ∧ Later w wr ∧ acc.length ≤ k) (fun _ ii _ => ps.length - (intOf ii).toNat)
  case atStart => exact ⟨0, [], by omega, rfl, World.ownsRow_nil _ _ _ _, rfl, hb1, by simp⟩
  case round =>
    clear hb1
    obtain ⟨k, acc, hk, rfl, hown, he, hb, hal⟩ := hrel
    have He := Lib.hid he
    have Ho := Lib.hid hown
    clear he hown
    by_cases hlt : k < ps.length
    · obtain ⟨e1, e2⟩ := (hat.later hb).get hlt
      rw [← gp_eq] at e1 e2
      have hbz : b < wr.heap.size := World.block_lt_of_cell? _ _ e1
      by_cases hbd : bendI ps k = 0
      · have t1 : (bendI ps k != 0) = false := by simp [hbd]
        have Hst := Lib.hid (corn_step He.out hlt)
        rw [if_pos hbd] at Hst
        clear hbd
        go_wp2_with (first | (go_at_call 110; refine (polygon_bend _ _ _ _ _ _ (by omega) hlt (hat.later (by exact (by repeat' (first | exact Later.refl _ | assumption | refine Later.drew ?_ | refine Later.drewN ?_ _ | refine Later.alloc ?_ _ | refine Later.put ?_ (by omega) _ | refine Later.trans ?_ (by assumption))))) hsm).mono ?_; rintro e w2 ⟨rfl, hb2⟩))
        go_roundw
        case rel => exact ⟨k + 1, acc, by omega, by go_num, Ho.out.later (by repeat' (first | exact Later.refl _ | assumption | refine Later.drew ?_ | refine Later.drewN ?_ _ | refine Later.alloc ?_ _ | refine Later.put ?_ (by omega) _ | refine Later.trans ?_ (by assumption))), Hst.out, (by repeat' (first | exact Later.refl _ | assumption | refine Later.drew ?_ | refine Later.drewN ?_ _ | refine Later.alloc ?_ _ | refine Later.put ?_ (by omega) _ | refine Later.trans ?_ (by assumption))), by omega⟩
        case measure => simp [intOf]; omega
      · have t1 : (bendI ps k != 0) = true := by simp [hbd]
        have Hst := Lib.hid (corn_step He.out hlt)
        rw [if_neg hbd] at Hst
        clear hbd
        go_upto_region 9 with (first | (go_at_call 110; refine (polygon_bend _ _ _ _ _ _ (by omega) hlt (hat.later (by exact (by repeat' (first | exact Later.refl _ | assumption | refine Later.drew ?_ | refine Later.drewN ?_ _ | refine Later.alloc ?_ _ | refine Later.put ?_ (by omega) _ | refine Later.trans ?_ (by assumption))))) hsm).mono ?_; rintro e w2 ⟨rfl, hb2⟩; have xax : w2.cell? ⟨wr.heap.size, 0, none⟩ = some (.int .i64 (gp ps k).x) := hb2.cell (by first | assumption | simp [go_sem]); have xay : w2.cell? ⟨wr.heap.size, 1, none⟩ = some (.int .i64 (gp ps k).y) := hb2.cell (by first | assumption | simp [go_sem])))
        have ho2 := Ho.out.later (w' := w2) (by repeat' (first | exact Later.refl _ | assumption | refine Later.drew ?_ | refine Later.drewN ?_ _ | refine Later.alloc ?_ _ | refine Later.put ?_ (by omega) _ | refine Later.trans ?_ (by assumption)))
        have hlw2 : Later w w2 := (by repeat' (first | exact Later.refl _ | assumption | refine Later.drew ?_ | refine Later.drewN ?_ _ | refine Later.alloc ?_ _ | refine Later.put ?_ (by omega) _ | refine Later.trans ?_ (by assumption)))
        have a63 : acc.length + 1 ≤ maxLen := by unfold maxLen; omega
        have a47 : (acc.length + 1) * 16 ≤ 140737488355328 := by omega
        have hnw := new_two w2 (.int .i64 (gp ps k).x) (.int .i64 (gp ps k).y) 78
        have Hnw := Lib.hid hnw
        have Ho2 := Lib.hid ho2
        clear hnw ho2
        go_wp2_with (at_builtin; refine wpList_append_own _ rfl (.tmp 28) (.tmp 30) 25 rfl w.heap.size 78 i0 (.agg #[.int .i64 0, .int .i64 0]) 2 16 Try.underlying25 hi hz0 hz1 hz2 rfl (by decide) _ acc.length (flat acc) rfl (World.ownsRow.alloc Ho2.out _) ⟨w2.heap.size, 0, none⟩ 1 1 [.int .i64 (gp ps k).x, .int .i64 (gp ps k).y] rfl rfl Hnw.out (flat_one [gp ps k]) a63 a47 (hlw2.alloc _).size ?_; intro v' w3 hown' hgrow _)
        have hlt2 := World.ownsRow.lt Ho.out
        have hl3 : Later w w3 := Below.grown (hlw2.alloc _) hgrow (hlw2.alloc _).size (fun g hg => (hlt2 g hg).1)
        have ho4 : Own w3 w.heap.size v' (acc ++ [gp ps k]) := by
          unfold Own; rw [flat_append, List.length_append]; exact hown'
        go_roundw
        case rel => exact ⟨k + 1, acc ++ [gp ps k], by omega, by go_num, ho4, Hst.out, hl3, by simp; omega⟩
        case measure => simp [intOf]; omega
    · have hcr : cornersOf ps = acc := by rw [He.out, show ps.length - k = 0 by omega]; rfl
      have hne : 0 < acc.length := by rw [← hcr]; exact Hne.out
      obtain ⟨A', c', rfl, hc1, hcm, hP, hA⟩ := Ho.out.form
      obtain ⟨b', o', rfl, _⟩ := hP hne
      obtain ⟨g, hgg, hgl, hgu⟩ := hA _ rfl
      cases hgg
      have Hcr := Lib.hid hcr
      clear hcr hA He
      have hatr := hat.later hb
      rcases har : decide (areaI ps < 0) with _ | _
      · have ha1 : ¬ areaI ps < 0 := by simpa using har
        have hcc : ccwOf ps = acc := by rw [ccwOf, if_neg ha1, Hcr.out]
        have Hcc := Lib.hid hcc
        clear hcc
        go_wp2_with (first | (go_at_call 111; refine (polygon_area _ _ _ _ _ (by omega) hatr hsm).mono ?_; rintro e w2 ⟨rfl, hb2⟩))
        have hpt := (Ho.out.later hb2).at0 hne
        have hl2 := hb.trans hb2
        clear Ho hP hb2 ha1 har
        go_loopw [8, 40] (fun mv ii wr => ∃ k m : Nat, k ≤ (acc).length ∧ m < (acc).length ∧ ii = .int .i64 k ∧ mv = .int .i64 m ∧ leastOf (acc) = leastGo (acc) ((acc).length - k) k m ∧ Later w2 wr) (fun _ ii _ => (acc).length - (intOf ii).toNat)
        case atStart => exact ⟨0, 0, by omega, by omega, rfl, rfl, rfl, Later.refl _⟩
        case round =>
          obtain ⟨k2, m, hk2, hm, rfl, rfl, he, hlw⟩ := hrel
          have He := Lib.hid he
          clear he
          have hpw := hpt.later hlw
          obtain ⟨f1, f2⟩ := hpw.get hm
          rw [← gp_eq] at f1 f2
          simp only [Nat.zero_add] at f1 f2
          have hbw : b' < wr.heap.size := World.block_lt_of_cell? _ _ f1
          by_cases hlt2 : k2 < (acc).length
          · obtain ⟨e1, e2⟩ := hpw.get hlt2
            rw [← gp_eq] at e1 e2
            simp only [Nat.zero_add] at e1 e2
            go_wp2
            all_goals
              go_roundw
              case rel => first | exact ⟨k2 + 1, k2, by omega, hlt2, by go_num, rfl, least_hit He.out hlt2 (by unfold lessP; simp; omega), (by repeat' (first | exact Later.refl _ | assumption | refine Later.drew ?_ | refine Later.drewN ?_ _ | refine Later.alloc ?_ _ | refine Later.put ?_ (by omega) _ | refine Later.trans ?_ (by assumption)))⟩ | exact ⟨k2 + 1, m, by omega, hm, by go_num, rfl, least_miss He.out hlt2 (by unfold lessP; simp; omega), (by repeat' (first | exact Later.refl _ | assumption | refine Later.drew ?_ | refine Later.drewN ?_ _ | refine Later.alloc ?_ _ | refine Later.put ?_ (by omega) _ | refine Later.trans ?_ (by assumption)))⟩
              case measure => simp [intOf]; omega
          · have hlm : leastOf (acc) = m := by rw [He.out, show (acc).length - k2 = 0 by omega]; rfl
            have hrot : rotOf (acc) = (acc).drop m ++ (acc).take m := by rw [rotOf, hlm]
            have hnn : normalOf ps = (acc).drop m ++ (acc).take m := by rw [normalOf, Hcc.out, hrot]
            have hCc : ∀ (W : World) (G : Nat), W.cell? ⟨G, 0, none⟩ = some (.slice (some ⟨b', m * 2, none⟩) ((acc).length - m) (c' - m)) → W.cell? ⟨G, 1, none⟩ = some (.slice (some ⟨b', 0, none⟩) m c') → Later wr W → Calls Try.prog 113 #[.slice (some ⟨G, 0, none⟩) 2 2] W (RetPts (normalOf ps) W) := by
              intro W G y1 y2 hW
              rw [hnn]
              have l1 : ((acc).drop m).length = (acc).length - m := by simp
              have l2 : ((acc).take m).length = m := by simp; omega
              refine slices_Concat G 2 (some ⟨b', m * 2, none⟩) (some ⟨b', 0, none⟩) (c' - m) c' ((acc).drop m) ((acc).take m) W (by omega) (by omega) (by rw [l1]; exact y1) (by rw [l2]; exact y2) (fun _ => ⟨b', m * 2, rfl, ?_⟩) (fun _ => ⟨b', 0, rfl, (hpw.later hW).take m⟩) (by intro h; cases h) (by intro h; cases h)
              intro i p hi
              rw [List.getElem?_drop] at hi
              obtain ⟨z1, z2⟩ := (hpw.later hW) _ _ hi
              rw [show 0 + (m + i) * 2 = m * 2 + i * 2 by omega] at z1 z2
              exact ⟨z1, z2⟩
            have HCc := Lib.hid hCc
            have hmc : ¬ c' = m := by omega
            have hm0 : (0 : Int) ≤ (m : Int) := by omega
            have hm1 : (m : Int) ≤ ((acc).length : Int) := by omega
            have hm2 : (m : Int) ≤ (c' : Int) := by omega
            have hm3 : (((acc).length : Nat) : Int) ≤ (c' : Int) := by omega
            clear hnn hrot hlm hCc f1 f2
            go_wp2
            go_region_held3 (fun w' : World => (∀ a : Addr, (wr.cell? a).isSome = true → w'.cell? a = wr.cell? a) ∧ Later wr w') (first | assumption | exact keep_call (by assumption) (by assumption) | exact keep_call (by assumption) ((Later.refl _).alloc _) | exact keep_init _)
              (first | (go_at_call 113; refine (HCc.out _ _ (by simp [go_sem]) (by simp [go_sem]) (by repeat' (first | exact Later.refl _ | assumption | refine Later.drew ?_ | refine Later.drewN ?_ _ | refine Later.alloc ?_ _ | refine Later.put ?_ (by omega) _ | refine Later.trans ?_ (by assumption)))).mono ?_; rintro e w3 ⟨A3, c3, rfl, q1, q2, q3, hb3⟩))
            rename_i hHw
            have hl9 : Later w w3 := hl2.trans (hlw.trans hHw.2)
            go_wp2
            go_ret2
            exact ⟨A3, c3, rfl, q1, q2, q3, hl9⟩
      · have ha1 : areaI ps < 0 := by simpa using har
        have hcc : ccwOf ps = revOf acc := by rw [ccwOf, if_pos ha1, Hcr.out]
        have Hcc := Lib.hid hcc
        clear hcc
        go_wp2_with (first | (go_at_call 111; refine (polygon_area _ _ _ _ _ (by omega) hatr hsm).mono ?_; rintro e w2 ⟨rfl, hb2⟩) | (go_at_call 112; refine (slices_Reverse w.heap.size b' c' acc _ (by omega) hne (Ho.out.later hb2)).mono ?_; rintro e w4 ⟨rfl, ho4, hlen, hg4⟩))
        generalize revOf acc = R at *
        rw [← hlen]
        have hne2 : 0 < R.length := by omega
        have hc2 : R.length ≤ c' := by omega
        have hr40 : R.length ≤ 40 := by omega
        have hpt := ho4.at0 hne2
        have hl2 : Later w w4 := Below.grown (hb.trans hb2) hg4 (hb.trans hb2).size (by intro g hg; cases hg; exact hgl)
        clear Ho hP hb2 ha1 har hlen hg4 ho4 hne hc1
        go_loopw [8, 40] (fun mv ii wr => ∃ k m : Nat, k ≤ (R).length ∧ m < (R).length ∧ ii = .int .i64 k ∧ mv = .int .i64 m ∧ leastOf (R) = leastGo (R) ((R).length - k) k m ∧ Later w4 wr) (fun _ ii _ => (R).length - (intOf ii).toNat)
        case atStart => exact ⟨0, 0, by omega, by omega, rfl, rfl, rfl, Later.refl _⟩
        case round =>
          obtain ⟨k2, m, hk2, hm, rfl, rfl, he, hlw⟩ := hrel
          have He := Lib.hid he
          clear he
          have hpw := hpt.later hlw
          obtain ⟨f1, f2⟩ := hpw.get hm
          rw [← gp_eq] at f1 f2
          simp only [Nat.zero_add] at f1 f2
          have hbw : b' < wr.heap.size := World.block_lt_of_cell? _ _ f1
          by_cases hlt2 : k2 < (R).length
          · obtain ⟨e1, e2⟩ := hpw.get hlt2
            rw [← gp_eq] at e1 e2
            simp only [Nat.zero_add] at e1 e2
            go_wp2
            all_goals
              go_roundw
              case rel => first | exact ⟨k2 + 1, k2, by omega, hlt2, by go_num, rfl, least_hit He.out hlt2 (by unfold lessP; simp; omega), (by repeat' (first | exact Later.refl _ | assumption | refine Later.drew ?_ | refine Later.drewN ?_ _ | refine Later.alloc ?_ _ | refine Later.put ?_ (by omega) _ | refine Later.trans ?_ (by assumption)))⟩ | exact ⟨k2 + 1, m, by omega, hm, by go_num, rfl, least_miss He.out hlt2 (by unfold lessP; simp; omega), (by repeat' (first | exact Later.refl _ | assumption | refine Later.drew ?_ | refine Later.drewN ?_ _ | refine Later.alloc ?_ _ | refine Later.put ?_ (by omega) _ | refine Later.trans ?_ (by assumption)))⟩
              case measure => simp [intOf]; omega
          · have hlm : leastOf (R) = m := by rw [He.out, show (R).length - k2 = 0 by omega]; rfl
            have hrot : rotOf (R) = (R).drop m ++ (R).take m := by rw [rotOf, hlm]
            have hnn : normalOf ps = (R).drop m ++ (R).take m := by rw [normalOf, Hcc.out, hrot]
            have hCc : ∀ (W : World) (G : Nat), W.cell? ⟨G, 0, none⟩ = some (.slice (some ⟨b', m * 2, none⟩) ((R).length - m) (c' - m)) → W.cell? ⟨G, 1, none⟩ = some (.slice (some ⟨b', 0, none⟩) m c') → Later wr W → Calls Try.prog 113 #[.slice (some ⟨G, 0, none⟩) 2 2] W (RetPts (normalOf ps) W) := by
              intro W G y1 y2 hW
              rw [hnn]
              have l1 : ((R).drop m).length = (R).length - m := by simp
              have l2 : ((R).take m).length = m := by simp; omega
              refine slices_Concat G 2 (some ⟨b', m * 2, none⟩) (some ⟨b', 0, none⟩) (c' - m) c' ((R).drop m) ((R).take m) W (by omega) (by omega) (by rw [l1]; exact y1) (by rw [l2]; exact y2) (fun _ => ⟨b', m * 2, rfl, ?_⟩) (fun _ => ⟨b', 0, rfl, (hpw.later hW).take m⟩) (by intro h; cases h) (by intro h; cases h)
              intro i p hi
              rw [List.getElem?_drop] at hi
              obtain ⟨z1, z2⟩ := (hpw.later hW) _ _ hi
              rw [show 0 + (m + i) * 2 = m * 2 + i * 2 by omega] at z1 z2
              exact ⟨z1, z2⟩
            have HCc := Lib.hid hCc
            have hmc : ¬ c' = m := by omega
            have hm0 : (0 : Int) ≤ (m : Int) := by omega
            have hm1 : (m : Int) ≤ ((R).length : Int) := by omega
            have hm2 : (m : Int) ≤ (c' : Int) := by omega
            have hm3 : (((R).length : Nat) : Int) ≤ (c' : Int) := by omega
            clear hnn hrot hlm hCc f1 f2
            go_wp2
            go_region_held3 (fun w' : World => (∀ a : Addr, (wr.cell? a).isSome = true → w'.cell? a = wr.cell? a) ∧ Later wr w') (first | assumption | exact keep_call (by assumption) (by assumption) | exact keep_call (by assumption) ((Later.refl _).alloc _) | exact keep_init _)
              (first | (go_at_call 113; refine (HCc.out _ _ (by simp [go_sem]) (by simp [go_sem]) (by repeat' (first | exact Later.refl _ | assumption | refine Later.drew ?_ | refine Later.drewN ?_ _ | refine Later.alloc ?_ _ | refine Later.put ?_ (by omega) _ | refine Later.trans ?_ (by assumption)))).mono ?_; rintro e w3 ⟨A3, c3, rfl, q1, q2, q3, hb3⟩))
            rename_i hHw
            have hl9 : Later w w3 := hl2.trans (hlw.trans hHw.2)
            go_wp2
            go_ret2
            exact ⟨A3, c3, rfl, q1, q2, q3, hl9⟩

end Go.Proofs.Ytolddfapanabbaa
