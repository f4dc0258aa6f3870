/-
  The walk of overlap.Hits.
-/
import Derived.Test.YtolddfapanabbaaSplitT
import Derived.Test.YtolddfapanabbaaReach
namespace Go.Proofs.Ytolddfapanabbaa
open Go.RowKit
set_option linter.unusedSimpArgs false
set_option linter.unusedVariables false

def rectPts (l lo r hi : Int) : List Pt := [⟨l, lo⟩, ⟨r, lo⟩, ⟨r, hi⟩, ⟨l, hi⟩]
def anyHit (cs : List Pt) : List (List Pt) → Bool
  | [] => false
  | t :: l => if contactI t cs = 1 then true else anyHit cs l
/-- What overlap.Hits returns. -/
def hitsR (ps : List Pt) (x y ww h : Int) : Bool × Int :=
  if (splitR ps).2 ≠ 0 then (false, (splitR ps).2)
  else if ww < 1 ∨ h < 1 then (false, 0)
  else if ¬ spanLo x < spanHi x ww ∨ ¬ spanLo y < spanHi y h then (false, 0)
  else (anyHit (rectPts (spanLo x) (spanLo y) (spanHi x ww) (spanHi y h)) (splitR ps).1, 0)

def I64 (n : Int) : Prop := -9223372036854775808 ≤ n ∧ n ≤ 9223372036854775807

theorem span_sm {x n : Int} (h : spanLo x < spanHi x n) : Sm (spanLo x) ∧ Sm (spanHi x n) := by
  have a : -1048576 ≤ spanLo x := by unfold spanLo; omega
  have b : spanHi x n ≤ 1048576 := by unfold spanHi; omega
  unfold Sm
  omega
theorem pts_four {w : World} {g : Nat} {a b c d : Pt} (h : Blk w g 78 #[.int .i64 a.x, .int .i64 a.y, .int .i64 b.x, .int .i64 b.y, .int .i64 c.x, .int .i64 c.y, .int .i64 d.x, .int .i64 d.y]) : PtsAt w g 0 [a, b, c, d] := by
  intro i p hp
  rcases i with _ | _ | _ | _ | i
  · cases hp; exact ⟨h.cell 0, h.cell 1⟩
  · cases hp; exact ⟨h.cell 2, h.cell 3⟩
  · cases hp; exact ⟨h.cell 4, h.cell 5⟩
  · cases hp; exact ⟨h.cell 6, h.cell 7⟩
  · simp at hp
theorem anyHit_hit {cs t : List Pt} {l : List (List Pt)} (h : contactI t cs = 1) : anyHit cs (t :: l) = true := by rw [anyHit, if_pos h]
theorem anyHit_miss {cs t : List Pt} {l : List (List Pt)} (h : contactI t cs ≠ 1) : anyHit cs (t :: l) = anyHit cs l := by rw [anyHit, if_neg h]

theorem drop_cons' {α : Type} (l : List α) (k : Nat) (h : k < l.length) : l.drop k = l[k] :: l.drop (k + 1) := List.drop_eq_getElem_cons h

theorem splitGo_cnt : ∀ f l acc ts, splitGo f l acc = some ts → ts.length ≤ acc.length + f + 1 := by
  intro f
  induction f with
  | zero => intro l acc ts he; rw [splitGo] at he; cases he; simp
  | succ f ih =>
    intro l acc ts he
    rw [splitGo] at he
    split at he
    · cases he; simp
    · split at he
      · have := ih _ _ _ he; omega
      · split at he
        · have := ih _ _ _ he
          simp only [List.length_append, List.length_singleton] at this
          omega
        · cases he
theorem splitR_cnt (ps : List Pt) : (splitR ps).1.length ≤ 41 := by
  unfold splitR
  by_cases hok : checkI ps = 0
  · rw [if_pos hok]
    cases hs : splitOf ps with
    | none => exact Nat.zero_le _
    | some ts =>
      have hlen := normal_len ps
      have hle := corners_le ps
      have h40 := (simple_of_check hok).2.2
      have := splitGo_cnt _ _ _ _ hs
      simp only [List.length_nil] at this
      show ts.length ≤ 41
      omega
  · rw [if_neg hok]; exact Nat.zero_le _

set_option maxHeartbeats 2000000 in
theorem overlap_Hits_in (A : Option Addr) (c : Nat) (ps : List Pt) (x y ww h : Int) (w : World) (hn : ps.length ≤ 1099511627776) (hcap : ps.length ≤ c) (hp : Pts w A ps) (ix : I64 x) (iy : I64 y) (iw : I64 ww) (ih : I64 h)
    (hs : (splitR ps).2 = 0) (w1 : 1 ≤ ww) (h1 : 1 ≤ h) (sx : spanLo x < spanHi x ww) (sy : spanLo y < spanHi y h) :
    Calls Try.prog 27 #[.slice A ps.length c, .agg #[.int .i64 x, .int .i64 y, .int .i64 ww, .int .i64 h]] w (Ret (.tuple #[.bool (anyHit (rectPts (spanLo x) (spanLo y) (spanHi x ww) (spanHi y h)) (splitR ps).1), .int .i64 0]) w) := by
  have hS := fun W (hW : Pts W A ps) => triangle_Split A c ps W hn hcap hW
  have hsm := splitR_sm ps
  have hcnt := splitR_cnt ps
  have HS := Lib.hid hS
  have Hs := Lib.hid hs
  generalize splitR ps = R at *
  obtain ⟨ts, er⟩ := R
  have her : er = 0 := hs
  subst her
  clear hS hs Hs
  have h41 : ts.length ≤ 41 := hcnt
  clear hcnt
  have Hx := Lib.hid (overlap_span x ww · ix ⟨w1, iw.2⟩)
  have Hy := Lib.hid (overlap_span y h · iy ⟨h1, ih.2⟩)
  obtain ⟨l1, l2⟩ := span_sm sx
  obtain ⟨l3, l4⟩ := span_sm sy
  have Hsm := Lib.hid hsm
  clear hsm
  generalize spanLo x = xl at *
  generalize spanHi x ww = xh at *
  generalize spanLo y = yl at *
  generalize spanHi y h = yh at *
  have dx : decide (xl < xh) = true := by simpa using sx
  have dy : decide (yl < yh) = true := by simpa using sy
  have dh : decide (h < 1) = false := by simp; omega
  go_enter Try.func27, Try.ntmps27
  go_upto_region 6 with (first | (go_at_call 47; refine (HS.out _ (hp.later ((Later.refl _).alloc _))).mono ?_; rintro e w2 ⟨A2, c2, rfl, q1, q2, hb2⟩; have r0 : w2.cell? ⟨w.heap.size, 0, none⟩ = some (.int .i64 x) := hb2.cell (by simp [go_sem]); have r1 : w2.cell? ⟨w.heap.size, 1, none⟩ = some (.int .i64 y) := hb2.cell (by simp [go_sem]); have r2 : w2.cell? ⟨w.heap.size, 2, none⟩ = some (.int .i64 ww) := hb2.cell (by simp [go_sem]); have r3 : w2.cell? ⟨w.heap.size, 3, none⟩ = some (.int .i64 h) := hb2.cell (by simp [go_sem])))
  go_upto_region 7 with (first | (go_at_call 48; refine (Hx.out _).mono ?_; rintro e w3 ⟨rfl, rfl⟩))
  go_upto_region 8 with (first | (go_at_call 48; refine (Hy.out _).mono ?_; rintro e w3 ⟨rfl, rfl⟩))
  go_upto_region 11 with fail
  refine name_world (fun W9 hW9 => ?_)
  have hbk : PtsAt W9 w2.heap.size 0 (rectPts xl yl xh yh) := by rw [hW9]; exact pts_four (Blk.new w2 _ _)
  have hl9 : Later w2 W9 := by rw [hW9]; exact (by repeat' (first | exact Later.refl _ | assumption | refine Later.drew ?_ | refine Later.drewN ?_ _ | refine Later.alloc ?_ _ | refine Later.put ?_ (by omega) _ | refine Later.trans ?_ (by assumption)))
  have hlw : Later w W9 := ((Later.refl _).alloc _).trans (hb2.trans hl9)
  have hcs : AllSm (rectPts xl yl xh yh) := by
    refine gp_all (Q := SmP) ⟨⟨by decide, by decide⟩, ⟨by decide, by decide⟩⟩ ?_
    intro p hp
    simp only [rectPts, List.mem_cons, List.not_mem_nil, or_false] at hp
    rcases hp with rfl | rfl | rfl | rfl <;> exact ⟨by assumption, by assumption⟩
  have q9 := q2.later hl9
  clear hW9 r0 r1 r2 r3 q2 hb2 hl9 HS Hx Hy
  have Hcs := Lib.hid (show (rectPts xl yl xh yh).length = 4 from rfl)
  generalize rectPts xl yl xh yh = cs at *
  go_wp2
  go_loopw [4, 5, 72] (fun r1 r2 iv wr => ∃ k : Nat, k ≤ ts.length ∧ iv = .int .i64 k ∧ anyHit cs ts = anyHit cs (ts.drop k) ∧ Later W9 wr) (fun _ _ iv _ => ts.length - (intOf iv).toNat)
  case atStart => exact ⟨0, by omega, rfl, rfl, Later.refl _⟩
  case round =>
    obtain ⟨k, hk, rfl, he, hb⟩ := hrel
    have He := Lib.hid he
    clear he
    by_cases hlt : k < ts.length
    · obtain ⟨bb, ob, rfl, hel⟩ := (q9.later hb) (by omega)
      obtain ⟨v, hv, A3, c3, rfl, _, _, hP3⟩ := hel k _ (List.getElem?_eq_getElem hlt)
      obtain ⟨hsm, h40⟩ := Hsm.out (ts[k]) (List.getElem_mem hlt)
      have Hd := Lib.hid (drop_cons' ts k hlt)
      generalize ts[k] = t at *
      have hct := overlap_contact A3 (some ⟨w2.heap.size, 0, none⟩) c3 4 t cs wr (by omega) (by rw [Hcs.out]; omega) hP3 (fun _ => ⟨w2.heap.size, 0, rfl, hbk.later hb⟩) hsm hcs
      rw [Hcs.out] at hct
      have Hct := Lib.hid hct
      clear hct
      by_cases hc1 : contactI t cs = 1
      · have d1 : (contactI t cs == 1) = true := by simpa using hc1
        have Hc1 := Lib.hid hc1
        clear hc1
        go_wp2_with (first | (go_at_call 49; refine Hct.out.mono ?_; rintro e w4 ⟨rfl, hb4⟩))
        go_ret2
        exact ⟨by rw [He.out, Hd.out, anyHit_hit Hc1.out]; rfl, (by repeat' (first | exact Later.refl _ | assumption | refine Later.drew ?_ | refine Later.drewN ?_ _ | refine Later.alloc ?_ _ | refine Later.put ?_ (by omega) _ | refine Later.trans ?_ (by assumption)))⟩
      · have d1 : (contactI t cs == 1) = false := by simpa using hc1
        have Hc1 := Lib.hid hc1
        clear hc1
        go_wp2_with (first | (go_at_call 49; refine Hct.out.mono ?_; rintro e w4 ⟨rfl, hb4⟩))
        go_roundw
        case rel => exact ⟨k + 1, by omega, by go_num, by rw [He.out, Hd.out, anyHit_miss Hc1.out], (by repeat' (first | exact Later.refl _ | assumption | refine Later.drew ?_ | refine Later.drewN ?_ _ | refine Later.alloc ?_ _ | refine Later.put ?_ (by omega) _ | refine Later.trans ?_ (by assumption)))⟩
        case measure => simp [intOf]; omega
    · go_wp2
      go_ret2
      exact ⟨by rw [He.out, List.drop_eq_nil_of_le (by omega)]; rfl, (by repeat' (first | exact Later.refl _ | assumption | refine Later.drew ?_ | refine Later.drewN ?_ _ | refine Later.alloc ?_ _ | refine Later.put ?_ (by omega) _ | refine Later.trans ?_ (by assumption)))⟩

set_option maxHeartbeats 1000000 in
theorem overlap_Hits_err (A : Option Addr) (c : Nat) (ps : List Pt) (x y ww h : Int) (w : World) (hn : ps.length ≤ 1099511627776) (hcap : ps.length ≤ c) (hp : Pts w A ps)
    (hs : (splitR ps).2 ≠ 0) :
    Calls Try.prog 27 #[.slice A ps.length c, .agg #[.int .i64 x, .int .i64 y, .int .i64 ww, .int .i64 h]] w (Ret (.tuple #[.bool false, .int .i64 (splitR ps).2]) w) := by
  have hS := fun W (hW : Pts W A ps) => triangle_Split A c ps W hn hcap hW
  have HS := Lib.hid hS
  generalize splitR ps = R at *
  obtain ⟨ts, er⟩ := R
  have h0 : (er != 0) = true := by simpa using hs
  clear hS hs
  go_enter Try.func27, Try.ntmps27
  go_upto_region 6 with (first | (go_at_call 47; refine (HS.out _ (hp.later ((Later.refl _).alloc _))).mono ?_; rintro e w2 ⟨A2, c2, rfl, q1, q2, hb2⟩))
  go_ret2
  exact ⟨rfl, (by repeat' (first | exact Later.refl _ | assumption | refine Later.drew ?_ | refine Later.drewN ?_ _ | refine Later.alloc ?_ _ | refine Later.put ?_ (by omega) _ | refine Later.trans ?_ (by assumption)))⟩

set_option maxHeartbeats 1000000 in
theorem overlap_Hits_thin (A : Option Addr) (c : Nat) (ps : List Pt) (x y ww h : Int) (w : World) (hn : ps.length ≤ 1099511627776) (hcap : ps.length ≤ c) (hp : Pts w A ps)
    (hs : (splitR ps).2 = 0) (hw : ww < 1 ∨ h < 1) :
    Calls Try.prog 27 #[.slice A ps.length c, .agg #[.int .i64 x, .int .i64 y, .int .i64 ww, .int .i64 h]] w (Ret (.tuple #[.bool false, .int .i64 0]) w) := by
  have hS := fun W (hW : Pts W A ps) => triangle_Split A c ps W hn hcap hW
  have HS := Lib.hid hS
  generalize splitR ps = R at *
  obtain ⟨ts, er⟩ := R
  have her : er = 0 := hs
  subst her
  clear hS hs
  go_enter Try.func27, Try.ntmps27
  by_cases h1 : ww < 1
  · have d1 : decide (ww < 1) = true := by simpa using h1
    go_wp2_with (first | (go_at_call 47; refine (HS.out _ (hp.later ((Later.refl _).alloc _))).mono ?_; rintro e w2 ⟨A2, c2, rfl, q1, q2, hb2⟩; have r0 : w2.cell? ⟨w.heap.size, 0, none⟩ = some (.int .i64 x) := hb2.cell (by simp [go_sem]); have r1 : w2.cell? ⟨w.heap.size, 1, none⟩ = some (.int .i64 y) := hb2.cell (by simp [go_sem]); have r2 : w2.cell? ⟨w.heap.size, 2, none⟩ = some (.int .i64 ww) := hb2.cell (by simp [go_sem]); have r3 : w2.cell? ⟨w.heap.size, 3, none⟩ = some (.int .i64 h) := hb2.cell (by simp [go_sem])))
    go_ret2
    exact ⟨rfl, (by repeat' (first | exact Later.refl _ | assumption | refine Later.drew ?_ | refine Later.drewN ?_ _ | refine Later.alloc ?_ _ | refine Later.put ?_ (by omega) _ | refine Later.trans ?_ (by assumption)))⟩
  · have d1 : decide (ww < 1) = false := by simpa using h1
    have d2 : decide (h < 1) = true := by simp; omega
    go_wp2_with (first | (go_at_call 47; refine (HS.out _ (hp.later ((Later.refl _).alloc _))).mono ?_; rintro e w2 ⟨A2, c2, rfl, q1, q2, hb2⟩; have r0 : w2.cell? ⟨w.heap.size, 0, none⟩ = some (.int .i64 x) := hb2.cell (by simp [go_sem]); have r1 : w2.cell? ⟨w.heap.size, 1, none⟩ = some (.int .i64 y) := hb2.cell (by simp [go_sem]); have r2 : w2.cell? ⟨w.heap.size, 2, none⟩ = some (.int .i64 ww) := hb2.cell (by simp [go_sem]); have r3 : w2.cell? ⟨w.heap.size, 3, none⟩ = some (.int .i64 h) := hb2.cell (by simp [go_sem])))
    go_ret2
    exact ⟨rfl, (by repeat' (first | exact Later.refl _ | assumption | refine Later.drew ?_ | refine Later.drewN ?_ _ | refine Later.alloc ?_ _ | refine Later.put ?_ (by omega) _ | refine Later.trans ?_ (by assumption)))⟩

set_option maxHeartbeats 1000000 in
theorem overlap_Hits_off (A : Option Addr) (c : Nat) (ps : List Pt) (x y ww h : Int) (w : World) (hn : ps.length ≤ 1099511627776) (hcap : ps.length ≤ c) (hp : Pts w A ps) (ix : I64 x) (iy : I64 y) (iw : I64 ww) (ih : I64 h)
    (hs : (splitR ps).2 = 0) (w1 : 1 ≤ ww) (h1 : 1 ≤ h) (sx : ¬ spanLo x < spanHi x ww ∨ ¬ spanLo y < spanHi y h) :
    Calls Try.prog 27 #[.slice A ps.length c, .agg #[.int .i64 x, .int .i64 y, .int .i64 ww, .int .i64 h]] w (Ret (.tuple #[.bool false, .int .i64 0]) w) := by
  have hS := fun W (hW : Pts W A ps) => triangle_Split A c ps W hn hcap hW
  have HS := Lib.hid hS
  generalize splitR ps = R at *
  obtain ⟨ts, er⟩ := R
  have her : er = 0 := hs
  subst her
  clear hS hs
  have Hx := Lib.hid (overlap_span x ww · ix ⟨w1, iw.2⟩)
  have Hy := Lib.hid (overlap_span y h · iy ⟨h1, ih.2⟩)
  generalize spanLo x = xl at *
  generalize spanHi x ww = xh at *
  generalize spanLo y = yl at *
  generalize spanHi y h = yh at *
  have dh : decide (h < 1) = false := by simp; omega
  go_enter Try.func27, Try.ntmps27
  by_cases h1 : xl < xh
  · have dx : decide (xl < xh) = true := by simpa using h1
    have dy : decide (yl < yh) = false := by simp; omega
    go_upto_region 6 with (first | (go_at_call 47; refine (HS.out _ (hp.later ((Later.refl _).alloc _))).mono ?_; rintro e w2 ⟨A2, c2, rfl, q1, q2, hb2⟩; have r0 : w2.cell? ⟨w.heap.size, 0, none⟩ = some (.int .i64 x) := hb2.cell (by simp [go_sem]); have r1 : w2.cell? ⟨w.heap.size, 1, none⟩ = some (.int .i64 y) := hb2.cell (by simp [go_sem]); have r2 : w2.cell? ⟨w.heap.size, 2, none⟩ = some (.int .i64 ww) := hb2.cell (by simp [go_sem]); have r3 : w2.cell? ⟨w.heap.size, 3, none⟩ = some (.int .i64 h) := hb2.cell (by simp [go_sem])))
    go_upto_region 7 with (first | (go_at_call 48; refine (Hx.out _).mono ?_; rintro e w3 ⟨rfl, rfl⟩))
    go_upto_region 8 with (first | (go_at_call 48; refine (Hy.out _).mono ?_; rintro e w3 ⟨rfl, rfl⟩))
    go_wp2
    go_ret2
    exact ⟨rfl, (by repeat' (first | exact Later.refl _ | assumption | refine Later.drew ?_ | refine Later.drewN ?_ _ | refine Later.alloc ?_ _ | refine Later.put ?_ (by omega) _ | refine Later.trans ?_ (by assumption)))⟩
  · have dx : decide (xl < xh) = false := by simpa using h1
    go_upto_region 6 with (first | (go_at_call 47; refine (HS.out _ (hp.later ((Later.refl _).alloc _))).mono ?_; rintro e w2 ⟨A2, c2, rfl, q1, q2, hb2⟩; have r0 : w2.cell? ⟨w.heap.size, 0, none⟩ = some (.int .i64 x) := hb2.cell (by simp [go_sem]); have r1 : w2.cell? ⟨w.heap.size, 1, none⟩ = some (.int .i64 y) := hb2.cell (by simp [go_sem]); have r2 : w2.cell? ⟨w.heap.size, 2, none⟩ = some (.int .i64 ww) := hb2.cell (by simp [go_sem]); have r3 : w2.cell? ⟨w.heap.size, 3, none⟩ = some (.int .i64 h) := hb2.cell (by simp [go_sem])))
    go_upto_region 7 with (first | (go_at_call 48; refine (Hx.out _).mono ?_; rintro e w3 ⟨rfl, rfl⟩))
    go_upto_region 8 with (first | (go_at_call 48; refine (Hy.out _).mono ?_; rintro e w3 ⟨rfl, rfl⟩))
    go_wp2
    go_ret2
    exact ⟨rfl, (by repeat' (first | exact Later.refl _ | assumption | refine Later.drew ?_ | refine Later.drewN ?_ _ | refine Later.alloc ?_ _ | refine Later.put ?_ (by omega) _ | refine Later.trans ?_ (by assumption)))⟩

theorem overlap_Hits (A : Option Addr) (c : Nat) (ps : List Pt) (x y ww h : Int) (w : World) (hn : ps.length ≤ 1099511627776) (hcap : ps.length ≤ c) (hp : Pts w A ps) (ix : I64 x) (iy : I64 y) (iw : I64 ww) (ih : I64 h) :
    Calls Try.prog 27 #[.slice A ps.length c, .agg #[.int .i64 x, .int .i64 y, .int .i64 ww, .int .i64 h]] w (Ret (.tuple #[.bool (hitsR ps x y ww h).1, .int .i64 (hitsR ps x y ww h).2]) w) := by
  unfold hitsR
  by_cases hs : (splitR ps).2 = 0
  · rw [if_neg (by simpa using hs)]
    by_cases h1 : ww < 1 ∨ h < 1
    · rw [if_pos h1]
      exact overlap_Hits_thin A c ps x y ww h w hn hcap hp hs h1
    · rw [if_neg h1]
      by_cases h2 : ¬ spanLo x < spanHi x ww ∨ ¬ spanLo y < spanHi y h
      · rw [if_pos h2]
        exact overlap_Hits_off A c ps x y ww h w hn hcap hp ix iy iw ih hs (by omega) (by omega) h2
      · rw [if_neg h2]
        exact overlap_Hits_in A c ps x y ww h w hn hcap hp ix iy iw ih hs (by omega) (by omega) (by omega) (by omega)
  · rw [if_pos hs]
    exact overlap_Hits_err A c ps x y ww h w hn hcap hp hs

end Go.Proofs.Ytolddfapanabbaa
