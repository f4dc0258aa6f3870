/-
 The walks of overlap.reach and overlap.contact.
 The walk of overlap.Hits.
 The walks of overlap.relation and overlap.Overlap.
-/
import Derived.Test.YtdhakoecjmaebaaGreatZPoly
import Derived.Test.YtdhakoecjmaebaaGreatZSplit
namespace Go.Proofs.YtdhakoecjmaebaaGreat
open Go.RowKit
set_option linter.unusedSimpArgs false
set_option linter.unusedVariables false
def mostGo (p q : Pt) : List Pt → Int → Int
 | [], m => m
 | v :: l, m => mostGo p q l (max m (sgn (crossI p.x p.y q.x q.y v.x v.y)))
def reachGo (a b : List Pt) : Nat → Nat → Int → Int
 | 0, _, m => m
 | f + 1, i, m => reachGo a b f (i + 1) (min m (mostGo (gp a i) (gp a ((i + 1) % a.length)) b (-1)))
def reachI (a b : List Pt) : Int := reachGo a b a.length 0 1
def contactI (a b : List Pt) : Int := min (reachI a b) (reachI b a)
theorem reach_step {a b : List Pt} {i : Nat} {m x : Int} (he : x = reachGo a b (a.length - i) i m) (h : i < a.length) :
  x = reachGo a b (a.length - (i + 1)) (i + 1) (min m (mostGo (gp a i) (gp a ((i + 1) % a.length)) b (-1))) := by
 obtain ⟨f, hf'⟩ : ∃ f, a.length - i = f + 1 := ⟨a.length - i - 1, by omega⟩
 rw [he, hf', reachGo, show a.length - (i + 1) = f by omega]
attribute [local go_sem] ite_min ite_max
set_option maxHeartbeats 4000000 in
theorem overlap_reach (A B : Option Addr) (ca cb : Nat) (a b : List Pt) (w : World) (hna : a.length ≤ 65536) (hnb : b.length ≤ 65536) (hpa : Pts w A a) (hpb : Pts w B b) (hsa : AllSm a) (hsb : AllSm b) :
  Calls Tryz.prog 108 #[.slice A a.length ca, .slice B b.length cb] w (Ret (.int .i64 (reachI a b)) w) := by
 go_enter Tryz.func108, Tryz.ntmps108
 go_wp2
 go_loopw [5, 15] (fun mv iv wr => ∃ (k : Nat) (m : Int), k ≤ a.length ∧ iv = .int .i64 k ∧ mv = .int .i64 m ∧ reachI a b = reachGo a b (a.length - k) k m ∧ Later w wr) (fun _ iv _ => a.length - (intOf iv).toNat)
 case atStart => exact ⟨0, 1, by omega, rfl, rfl, rfl, Later.refl _⟩
 case round =>
  obtain ⟨k, m, hk, rfl, rfl, he, hb⟩ := hrel
  have He := Lib.hid he
  clear he
  by_cases hlt : k < a.length
  ·have hm1 : (k + 1) % a.length < a.length := Nat.mod_lt _ (by omega)
   obtain ⟨ba, oa, rfl, hat⟩ := (hpa.later hb) (by omega)
   obtain ⟨e1, e2⟩ := hat.get hlt
   obtain ⟨f1, f2⟩ := hat.get hm1
   rw [← gp_eq] at e1 e2 f1 f2
   have hbz : ba < wr.heap.size := World.block_lt_of_cell? _ _ e1
   have hi1 : (0 : Int) ≤ ((k : Int) + 1) % (a.length : Int) ∧ ((k : Int) + 1) % (a.length : Int) < (a.length : Int) := ⟨Int.emod_nonneg _ (by omega), Int.emod_lt_of_pos _ (by omega)⟩
   have s1 := hsa k
   have s2 := hsa ((k + 1) % a.length)
   have Hst := Lib.hid (reach_step He.out hlt)
   go_wp2
   generalize gp a k = p at *
   generalize gp a ((k + 1) % a.length) = q at *
   obtain ⟨wo, rfl⟩ : ∃ wo : World, wo = wr := ⟨_, rfl⟩
   go_loopw [9, 30] (fun mv iv wq => ∃ (i : Nat) (t : Int), i ≤ b.length ∧ iv = .int .i64 i ∧ mv = .int .i64 t ∧ mostGo p q b (-1) = mostGo p q (b.drop i) t ∧ Later w wq ∧
     wq.cell? ⟨wo.heap.size, 0, none⟩ = some (.int .i64 p.x) ∧ wq.cell? ⟨wo.heap.size, 1, none⟩ = some (.int .i64 p.y) ∧ wq.cell? ⟨wo.heap.size + 1, 0, none⟩ = some (.int .i64 q.x) ∧ wq.cell? ⟨wo.heap.size + 1, 1, none⟩ = some (.int .i64 q.y)) (fun _ iv _ => b.length - (intOf iv).toNat)
   case atStart => exact ⟨0, -1, by omega, rfl, rfl, rfl, (hb.alloc _).alloc _, by simp [go_sem], by simp [go_sem], by simp [go_sem], by simp [go_sem]⟩
   case round =>
    obtain ⟨i, t, hi, rfl, rfl, hm, hbq, c1, c2, c3, c4⟩ := hrel
    have Hm := Lib.hid hm
    clear hm
    have z1 : wo.heap.size < wr.heap.size := World.block_lt_of_cell? _ _ c1
    have z2 : wo.heap.size + 1 < wr.heap.size := World.block_lt_of_cell? _ _ c3
    by_cases hlb : i < b.length
    ·obtain ⟨bb, ob, rfl, hbt⟩ := (hpb.later hbq) (by omega)
     obtain ⟨g1, g2⟩ := hbt.get hlb
     have hbz2 : bb < wr.heap.size := World.block_lt_of_cell? _ _ g1
     have s3 : SmP (b[i]) := by rw [← gp_eq hlb]; exact hsb i
     have Hd := Lib.hid (drop_cons b i hlb)
     generalize b[i] = v at *
     have hbd := crossI_bd s1.1 s1.2 s2.1 s2.2 s3.1 s3.2
     have t1 := s1.1
     have t2 := s1.2
     have t3 := s2.1
     have t4 := s2.2
     have t5 := s3.1
     have t6 := s3.2
     unfold Sm at t1 t2 t3 t4 t5 t6
     go_wp2_with (first | (go_at_call 95; refine (cmp_Compare0 _ _).mono ?_; rintro e w1 ⟨rfl, rfl⟩))
     go_roundw
     case rel => exact ⟨i + 1, _, by omega, by go_num, rfl, by rw [Hm.out, Hd.out]; rfl, (by repeat' (first | exact Later.refl _ | assumption | refine Later.drew ?_ | refine Later.drewN ?_ _ | refine Later.alloc ?_ _ | refine Later.put ?_ (by omega) _ | refine Later.trans ?_ (by assumption))), ((Later.refl _).alloc _).cell c1, ((Later.refl _).alloc _).cell c2, ((Later.refl _).alloc _).cell c3, ((Later.refl _).alloc _).cell c4⟩
     case measure => simp [intOf]; omega
    ·have hme : mostGo p q b (-1) = t := by rw [Hm.out, List.drop_eq_nil_of_le (by omega)]; rfl
     have Hme := Lib.hid hme
     clear hme
     go_wp2
     go_roundw
     case rel => exact ⟨k + 1, _, by omega, by go_num, rfl, by rw [Hst.out, Hme.out], hbq⟩
     case measure => simp [intOf]; omega
  ·go_wp2
   go_ret
   exact ⟨ret_int (by rw [He.out, show a.length - k = 0 by omega]; rfl), hb⟩
set_option maxHeartbeats 1000000 in
theorem overlap_contact (A B : Option Addr) (ca cb : Nat) (a b : List Pt) (w : World) (hna : a.length ≤ 65536) (hnb : b.length ≤ 65536) (hpa : Pts w A a) (hpb : Pts w B b) (hsa : AllSm a) (hsb : AllSm b) :
  Calls Tryz.prog 64 #[.slice A a.length ca, .slice B b.length cb] w (Ret (.int .i64 (contactI a b)) w) := by
 go_enter Tryz.func64, Tryz.ntmps64
 go_wp2_with fail
 refine (overlap_reach A B ca cb a b _ hna hnb hpa hpb hsa hsb).mono ?_
 rintro e w1 ⟨rfl, hb1⟩
 go_wp2_with fail
 refine (overlap_reach B A cb ca b a _ hnb hna (hpb.later hb1) (hpa.later hb1) hsb hsa).mono ?_
 rintro e w2 ⟨rfl, hb2⟩
 go_wp2
 go_ret
 exact ⟨ret_int rfl, hb1.trans hb2⟩
def spanLo (a : Int) : Int := max a (-1048576)
def spanHi (a n : Int) : Int := min (if a ≤ 9223372036854775807 - n then a + n else 9223372036854775807) 1048576
set_option maxHeartbeats 1000000 in
theorem overlap_span (a n : Int) (w : World) (ha : -9223372036854775808 ≤ a ∧ a ≤ 9223372036854775807) (hn : 1 ≤ n ∧ n ≤ 9223372036854775807) :
  Calls Tryz.prog 169 #[.int .i64 a, .int .i64 n] w (Pure (.tuple #[.int .i64 (spanLo a), .int .i64 (spanHi a n), .bool (decide (spanLo a < spanHi a n))]) w) := by
 by_cases h : a ≤ 9223372036854775807 - n
 ·have e1 : spanHi a n = min (a + n) 1048576 := by rw [spanHi, if_pos h]
  have E1 := Lib.hid e1
  clear e1
  go_enter Tryz.func169, Tryz.ntmps169
  go_wp2
  go_ret3
  exact ⟨by rw [E1.out]; rfl, rfl⟩
 ·have e1 : spanHi a n = min 9223372036854775807 1048576 := by rw [spanHi, if_neg h]
  have E1 := Lib.hid e1
  clear e1
  go_enter Tryz.func169, Tryz.ntmps169
  go_wp2
  go_ret3
  exact ⟨by rw [E1.out]; rfl, rfl⟩
end Go.Proofs.YtdhakoecjmaebaaGreat
namespace Go.Proofs.YtdhakoecjmaebaaGreat
open Go.RowKit
set_option linter.unusedSimpArgs false
set_option linter.unusedVariables false
def rectPts (l lo r hi : Int) : List Pt := [⟨l, lo⟩, ⟨r, lo⟩, ⟨r, hi⟩, ⟨l, hi⟩]
def anyHit (cs : List Pt) : List (List Pt) → Bool
 | [] => false
 | t :: l => if contactI t cs = 1 then true else anyHit cs l
def hitsR (ps : List Pt) (x y ww h : Int) : Bool × Int :=
 if (splitR ps).2 ≠ 0 then (false, (splitR ps).2)
 else if ww < 1 ∨ h < 1 then (false, 0)
 else if ¬ spanLo x < spanHi x ww ∨ ¬ spanLo y < spanHi y h then (false, 0)
 else (anyHit (rectPts (spanLo x) (spanLo y) (spanHi x ww) (spanHi y h)) (splitR ps).1, 0)
def I64 (n : Int) : Prop := -9223372036854775808 ≤ n ∧ n ≤ 9223372036854775807
theorem span_sm {x n : Int} (h : spanLo x < spanHi x n) : Sm (spanLo x) ∧ Sm (spanHi x n) := by
 have a : -1048576 ≤ spanLo x := by unfold spanLo; omega
 have b : spanHi x n ≤ 1048576 := by unfold spanHi; omega
 unfold Sm
 omega
theorem pts_four {w : World} {g : Nat} {a b c d : Pt} (h : Blk w g 29 #[.int .i64 a.x, .int .i64 a.y, .int .i64 b.x, .int .i64 b.y, .int .i64 c.x, .int .i64 c.y, .int .i64 d.x, .int .i64 d.y]) : PtsAt w g 0 [a, b, c, d] := by
 intro i p hp
 rcases i with _ | _ | _ | _ | i
 ·cases hp; exact ⟨h.cell 0, h.cell 1⟩
 ·cases hp; exact ⟨h.cell 2, h.cell 3⟩
 ·cases hp; exact ⟨h.cell 4, h.cell 5⟩
 ·cases hp; exact ⟨h.cell 6, h.cell 7⟩
 ·simp at hp
theorem anyHit_hit {cs t : List Pt} {l : List (List Pt)} (h : contactI t cs = 1) : anyHit cs (t :: l) = true := by rw [anyHit, if_pos h]
theorem anyHit_miss {cs t : List Pt} {l : List (List Pt)} (h : contactI t cs ≠ 1) : anyHit cs (t :: l) = anyHit cs l := by rw [anyHit, if_neg h]
theorem drop_cons' {α : Type} (l : List α) (k : Nat) (h : k < l.length) : l.drop k = l[k] :: l.drop (k + 1) := List.drop_eq_getElem_cons h
theorem splitGo_cnt : ∀ f l acc ts, splitGo f l acc = some ts → ts.length ≤ acc.length + f + 1 := by
 intro f
 induction f with
 | zero => intro l acc ts he; rw [splitGo] at he; cases he; simp
 | succ f ih =>
  intro l acc ts he
  rw [splitGo] at he
  split at he
  ·cases he; simp
  ·split at he
   ·have := ih _ _ _ he; omega
   ·split at he
    ·have := ih _ _ _ he
     simp only [List.length_append, List.length_singleton] at this
     omega
    ·cases he
theorem splitR_cnt (ps : List Pt) : (splitR ps).1.length ≤ 41 := by
 unfold splitR
 by_cases hok : checkI ps = 0
 ·rw [if_pos hok]
  cases hs : splitOf ps with
  | none => exact Nat.zero_le _
  | some ts =>
   have hlen := normal_len ps
   have hle := corners_le ps
   have h40 := (simple_of_check hok).2.2
   have := splitGo_cnt _ _ _ _ hs
   simp only [List.length_nil] at this
   show ts.length ≤ 41
   omega
 ·rw [if_neg hok]; exact Nat.zero_le _
set_option maxHeartbeats 2000000 in
theorem overlap_Hits_in (A : Option Addr) (c : Nat) (ps : List Pt) (x y ww h : Int) (w : World) (hn : ps.length ≤ 1099511627776) (hcap : ps.length ≤ c) (hp : Pts w A ps) (ix : I64 x) (iy : I64 y) (iw : I64 ww) (ih : I64 h)
  (hs : (splitR ps).2 = 0) (w1 : 1 ≤ ww) (h1 : 1 ≤ h) (sx : spanLo x < spanHi x ww) (sy : spanLo y < spanHi y h) :
  Calls Tryz.prog 123 #[.slice A ps.length c, .agg #[.int .i64 x, .int .i64 y, .int .i64 ww, .int .i64 h]] w (Ret (.tuple #[.bool (anyHit (rectPts (spanLo x) (spanLo y) (spanHi x ww) (spanHi y h)) (splitR ps).1), .int .i64 0]) w) := by
 have hS := fun W (hW : Pts W A ps) => triangle_Split A c ps W hn hcap hW
 have hsm := splitR_sm ps
 have hcnt := splitR_cnt ps
 have HS := Lib.hid hS
 have Hs := Lib.hid hs
 generalize splitR ps = R at *
 obtain ⟨ts, er⟩ := R
 have her : er = 0 := hs
 subst her
 clear hS hs Hs
 have h41 : ts.length ≤ 41 := hcnt
 clear hcnt
 have Hx := Lib.hid (overlap_span x ww · ix ⟨w1, iw.2⟩)
 have Hy := Lib.hid (overlap_span y h · iy ⟨h1, ih.2⟩)
 obtain ⟨l1, l2⟩ := span_sm sx
 obtain ⟨l3, l4⟩ := span_sm sy
 have Hsm := Lib.hid hsm
 clear hsm
 generalize spanLo x = xl at *
 generalize spanHi x ww = xh at *
 generalize spanLo y = yl at *
 generalize spanHi y h = yh at *
 have dx : decide (xl < xh) = true := by simpa using sx
 have dy : decide (yl < yh) = true := by simpa using sy
 have dh : decide (h < 1) = false := by simp; omega
 go_enter Tryz.func123, Tryz.ntmps123
 go_upto_region 6 with (first | (go_at_call 63; refine (HS.out _ (hp.later ((Later.refl _).alloc _))).mono ?_; rintro e w2 ⟨A2, c2, rfl, q1, q2, hb2⟩; have r0 : w2.cell? ⟨w.heap.size, 0, none⟩ = some (.int .i64 x) := hb2.cell (by simp [go_sem]); have r1 : w2.cell? ⟨w.heap.size, 1, none⟩ = some (.int .i64 y) := hb2.cell (by simp [go_sem]); have r2 : w2.cell? ⟨w.heap.size, 2, none⟩ = some (.int .i64 ww) := hb2.cell (by simp [go_sem]); have r3 : w2.cell? ⟨w.heap.size, 3, none⟩ = some (.int .i64 h) := hb2.cell (by simp [go_sem])))
 go_upto_region 7 with (first | (go_at_call 169; refine (Hx.out _).mono ?_; rintro e w3 ⟨rfl, rfl⟩))
 go_upto_region 8 with (first | (go_at_call 169; refine (Hy.out _).mono ?_; rintro e w3 ⟨rfl, rfl⟩))
 go_upto_region 11 with fail
 refine name_world (fun W9 hW9 => ?_)
 have hbk : PtsAt W9 w2.heap.size 0 (rectPts xl yl xh yh) := by rw [hW9]; exact pts_four (Blk.new w2 _ _)
 have hl9 : Later w2 W9 := by rw [hW9]; exact (by repeat' (first | exact Later.refl _ | assumption | refine Later.drew ?_ | refine Later.drewN ?_ _ | refine Later.alloc ?_ _ | refine Later.put ?_ (by omega) _ | refine Later.trans ?_ (by assumption)))
 have hlw : Later w W9 := ((Later.refl _).alloc _).trans (hb2.trans hl9)
 have hcs : AllSm (rectPts xl yl xh yh) := by
  refine gp_all (Q := SmP) ⟨⟨by decide, by decide⟩, ⟨by decide, by decide⟩⟩ ?_
  intro p hp
  simp only [rectPts, List.mem_cons, List.not_mem_nil, or_false] at hp
  rcases hp with rfl | rfl | rfl | rfl <;> exact ⟨by assumption, by assumption⟩
 have q9 := q2.later hl9
 clear hW9 r0 r1 r2 r3 q2 hb2 hl9 HS Hx Hy
 have Hcs := Lib.hid (show (rectPts xl yl xh yh).length = 4 from rfl)
 generalize rectPts xl yl xh yh = cs at *
 go_wp2
 go_loopw [4, 5, 72] (fun r1 r2 iv wr => ∃ k : Nat, k ≤ ts.length ∧ iv = .int .i64 k ∧ anyHit cs ts = anyHit cs (ts.drop k) ∧ Later W9 wr) (fun _ _ iv _ => ts.length - (intOf iv).toNat)
 case atStart => exact ⟨0, by omega, rfl, rfl, Later.refl _⟩
 case round =>
  obtain ⟨k, hk, rfl, he, hb⟩ := hrel
  have He := Lib.hid he
  clear he
  by_cases hlt : k < ts.length
  ·obtain ⟨bb, ob, rfl, hel⟩ := (q9.later hb) (by omega)
   obtain ⟨v, hv, A3, c3, rfl, _, _, hP3⟩ := hel k _ (List.getElem?_eq_getElem hlt)
   obtain ⟨hsm, h40⟩ := Hsm.out (ts[k]) (List.getElem_mem hlt)
   have Hd := Lib.hid (drop_cons' ts k hlt)
   generalize ts[k] = t at *
   have hct := overlap_contact A3 (some ⟨w2.heap.size, 0, none⟩) c3 4 t cs wr (by omega) (by rw [Hcs.out]; omega) hP3 (fun _ => ⟨w2.heap.size, 0, rfl, hbk.later hb⟩) hsm hcs
   rw [Hcs.out] at hct
   have Hct := Lib.hid hct
   clear hct
   by_cases hc1 : contactI t cs = 1
   ·have d1 : (contactI t cs == 1) = true := by simpa using hc1
    have Hc1 := Lib.hid hc1
    clear hc1
    go_wp2_with (first | (go_at_call 64; refine Hct.out.mono ?_; rintro e w4 ⟨rfl, hb4⟩))
    go_ret2
    exact ⟨by rw [He.out, Hd.out, anyHit_hit Hc1.out]; rfl, (by repeat' (first | exact Later.refl _ | assumption | refine Later.drew ?_ | refine Later.drewN ?_ _ | refine Later.alloc ?_ _ | refine Later.put ?_ (by omega) _ | refine Later.trans ?_ (by assumption)))⟩
   ·have d1 : (contactI t cs == 1) = false := by simpa using hc1
    have Hc1 := Lib.hid hc1
    clear hc1
    go_wp2_with (first | (go_at_call 64; refine Hct.out.mono ?_; rintro e w4 ⟨rfl, hb4⟩))
    go_roundw
    case rel => exact ⟨k + 1, by omega, by go_num, by rw [He.out, Hd.out, anyHit_miss Hc1.out], (by repeat' (first | exact Later.refl _ | assumption | refine Later.drew ?_ | refine Later.drewN ?_ _ | refine Later.alloc ?_ _ | refine Later.put ?_ (by omega) _ | refine Later.trans ?_ (by assumption)))⟩
    case measure => simp [intOf]; omega
  ·go_wp2
   go_ret2
   exact ⟨by rw [He.out, List.drop_eq_nil_of_le (by omega)]; rfl, (by repeat' (first | exact Later.refl _ | assumption | refine Later.drew ?_ | refine Later.drewN ?_ _ | refine Later.alloc ?_ _ | refine Later.put ?_ (by omega) _ | refine Later.trans ?_ (by assumption)))⟩
set_option maxHeartbeats 1000000 in
theorem overlap_Hits_err (A : Option Addr) (c : Nat) (ps : List Pt) (x y ww h : Int) (w : World) (hn : ps.length ≤ 1099511627776) (hcap : ps.length ≤ c) (hp : Pts w A ps)
  (hs : (splitR ps).2 ≠ 0) :
  Calls Tryz.prog 123 #[.slice A ps.length c, .agg #[.int .i64 x, .int .i64 y, .int .i64 ww, .int .i64 h]] w (Ret (.tuple #[.bool false, .int .i64 (splitR ps).2]) w) := by
 have hS := fun W (hW : Pts W A ps) => triangle_Split A c ps W hn hcap hW
 have HS := Lib.hid hS
 generalize splitR ps = R at *
 obtain ⟨ts, er⟩ := R
 have h0 : (er != 0) = true := by simpa using hs
 clear hS hs
 go_enter Tryz.func123, Tryz.ntmps123
 go_upto_region 6 with (first | (go_at_call 63; refine (HS.out _ (hp.later ((Later.refl _).alloc _))).mono ?_; rintro e w2 ⟨A2, c2, rfl, q1, q2, hb2⟩))
 go_ret2
 exact ⟨rfl, (by repeat' (first | exact Later.refl _ | assumption | refine Later.drew ?_ | refine Later.drewN ?_ _ | refine Later.alloc ?_ _ | refine Later.put ?_ (by omega) _ | refine Later.trans ?_ (by assumption)))⟩
set_option maxHeartbeats 1000000 in
theorem overlap_Hits_thin (A : Option Addr) (c : Nat) (ps : List Pt) (x y ww h : Int) (w : World) (hn : ps.length ≤ 1099511627776) (hcap : ps.length ≤ c) (hp : Pts w A ps)
  (hs : (splitR ps).2 = 0) (hw : ww < 1 ∨ h < 1) :
  Calls Tryz.prog 123 #[.slice A ps.length c, .agg #[.int .i64 x, .int .i64 y, .int .i64 ww, .int .i64 h]] w (Ret (.tuple #[.bool false, .int .i64 0]) w) := by
 have hS := fun W (hW : Pts W A ps) => triangle_Split A c ps W hn hcap hW
 have HS := Lib.hid hS
 generalize splitR ps = R at *
 obtain ⟨ts, er⟩ := R
 have her : er = 0 := hs
 subst her
 clear hS hs
 go_enter Tryz.func123, Tryz.ntmps123
 by_cases h1 : ww < 1
 ·have d1 : decide (ww < 1) = true := by simpa using h1
  go_wp2_with (first | (go_at_call 63; refine (HS.out _ (hp.later ((Later.refl _).alloc _))).mono ?_; rintro e w2 ⟨A2, c2, rfl, q1, q2, hb2⟩; have r0 : w2.cell? ⟨w.heap.size, 0, none⟩ = some (.int .i64 x) := hb2.cell (by simp [go_sem]); have r1 : w2.cell? ⟨w.heap.size, 1, none⟩ = some (.int .i64 y) := hb2.cell (by simp [go_sem]); have r2 : w2.cell? ⟨w.heap.size, 2, none⟩ = some (.int .i64 ww) := hb2.cell (by simp [go_sem]); have r3 : w2.cell? ⟨w.heap.size, 3, none⟩ = some (.int .i64 h) := hb2.cell (by simp [go_sem])))
  go_ret2
  exact ⟨rfl, (by repeat' (first | exact Later.refl _ | assumption | refine Later.drew ?_ | refine Later.drewN ?_ _ | refine Later.alloc ?_ _ | refine Later.put ?_ (by omega) _ | refine Later.trans ?_ (by assumption)))⟩
 ·have d1 : decide (ww < 1) = false := by simpa using h1
  have d2 : decide (h < 1) = true := by simp; omega
  go_wp2_with (first | (go_at_call 63; refine (HS.out _ (hp.later ((Later.refl _).alloc _))).mono ?_; rintro e w2 ⟨A2, c2, rfl, q1, q2, hb2⟩; have r0 : w2.cell? ⟨w.heap.size, 0, none⟩ = some (.int .i64 x) := hb2.cell (by simp [go_sem]); have r1 : w2.cell? ⟨w.heap.size, 1, none⟩ = some (.int .i64 y) := hb2.cell (by simp [go_sem]); have r2 : w2.cell? ⟨w.heap.size, 2, none⟩ = some (.int .i64 ww) := hb2.cell (by simp [go_sem]); have r3 : w2.cell? ⟨w.heap.size, 3, none⟩ = some (.int .i64 h) := hb2.cell (by simp [go_sem])))
  go_ret2
  exact ⟨rfl, (by repeat' (first | exact Later.refl _ | assumption | refine Later.drew ?_ | refine Later.drewN ?_ _ | refine Later.alloc ?_ _ | refine Later.put ?_ (by omega) _ | refine Later.trans ?_ (by assumption)))⟩
set_option maxHeartbeats 1000000 in
theorem overlap_Hits_off (A : Option Addr) (c : Nat) (ps : List Pt) (x y ww h : Int) (w : World) (hn : ps.length ≤ 1099511627776) (hcap : ps.length ≤ c) (hp : Pts w A ps) (ix : I64 x) (iy : I64 y) (iw : I64 ww) (ih : I64 h)
  (hs : (splitR ps).2 = 0) (w1 : 1 ≤ ww) (h1 : 1 ≤ h) (sx : ¬ spanLo x < spanHi x ww ∨ ¬ spanLo y < spanHi y h) :
  Calls Tryz.prog 123 #[.slice A ps.length c, .agg #[.int .i64 x, .int .i64 y, .int .i64 ww, .int .i64 h]] w (Ret (.tuple #[.bool false, .int .i64 0]) w) := by
 have hS := fun W (hW : Pts W A ps) => triangle_Split A c ps W hn hcap hW
 have HS := Lib.hid hS
 generalize splitR ps = R at *
 obtain ⟨ts, er⟩ := R
 have her : er = 0 := hs
 subst her
 clear hS hs
 have Hx := Lib.hid (overlap_span x ww · ix ⟨w1, iw.2⟩)
 have Hy := Lib.hid (overlap_span y h · iy ⟨h1, ih.2⟩)
 generalize spanLo x = xl at *
 generalize spanHi x ww = xh at *
 generalize spanLo y = yl at *
 generalize spanHi y h = yh at *
 have dh : decide (h < 1) = false := by simp; omega
 go_enter Tryz.func123, Tryz.ntmps123
 by_cases h1 : xl < xh
 ·have dx : decide (xl < xh) = true := by simpa using h1
  have dy : decide (yl < yh) = false := by simp; omega
  go_upto_region 6 with (first | (go_at_call 63; refine (HS.out _ (hp.later ((Later.refl _).alloc _))).mono ?_; rintro e w2 ⟨A2, c2, rfl, q1, q2, hb2⟩; have r0 : w2.cell? ⟨w.heap.size, 0, none⟩ = some (.int .i64 x) := hb2.cell (by simp [go_sem]); have r1 : w2.cell? ⟨w.heap.size, 1, none⟩ = some (.int .i64 y) := hb2.cell (by simp [go_sem]); have r2 : w2.cell? ⟨w.heap.size, 2, none⟩ = some (.int .i64 ww) := hb2.cell (by simp [go_sem]); have r3 : w2.cell? ⟨w.heap.size, 3, none⟩ = some (.int .i64 h) := hb2.cell (by simp [go_sem])))
  go_upto_region 7 with (first | (go_at_call 169; refine (Hx.out _).mono ?_; rintro e w3 ⟨rfl, rfl⟩))
  go_upto_region 8 with (first | (go_at_call 169; refine (Hy.out _).mono ?_; rintro e w3 ⟨rfl, rfl⟩))
  go_wp2
  go_ret2
  exact ⟨rfl, (by repeat' (first | exact Later.refl _ | assumption | refine Later.drew ?_ | refine Later.drewN ?_ _ | refine Later.alloc ?_ _ | refine Later.put ?_ (by omega) _ | refine Later.trans ?_ (by assumption)))⟩
 ·have dx : decide (xl < xh) = false := by simpa using h1
  go_upto_region 6 with (first | (go_at_call 63; refine (HS.out _ (hp.later ((Later.refl _).alloc _))).mono ?_; rintro e w2 ⟨A2, c2, rfl, q1, q2, hb2⟩; have r0 : w2.cell? ⟨w.heap.size, 0, none⟩ = some (.int .i64 x) := hb2.cell (by simp [go_sem]); have r1 : w2.cell? ⟨w.heap.size, 1, none⟩ = some (.int .i64 y) := hb2.cell (by simp [go_sem]); have r2 : w2.cell? ⟨w.heap.size, 2, none⟩ = some (.int .i64 ww) := hb2.cell (by simp [go_sem]); have r3 : w2.cell? ⟨w.heap.size, 3, none⟩ = some (.int .i64 h) := hb2.cell (by simp [go_sem])))
  go_upto_region 7 with (first | (go_at_call 169; refine (Hx.out _).mono ?_; rintro e w3 ⟨rfl, rfl⟩))
  go_upto_region 8 with (first | (go_at_call 169; refine (Hy.out _).mono ?_; rintro e w3 ⟨rfl, rfl⟩))
  go_wp2
  go_ret2
  exact ⟨rfl, (by repeat' (first | exact Later.refl _ | assumption | refine Later.drew ?_ | refine Later.drewN ?_ _ | refine Later.alloc ?_ _ | refine Later.put ?_ (by omega) _ | refine Later.trans ?_ (by assumption)))⟩
theorem overlap_Hits (A : Option Addr) (c : Nat) (ps : List Pt) (x y ww h : Int) (w : World) (hn : ps.length ≤ 1099511627776) (hcap : ps.length ≤ c) (hp : Pts w A ps) (ix : I64 x) (iy : I64 y) (iw : I64 ww) (ih : I64 h) :
  Calls Tryz.prog 123 #[.slice A ps.length c, .agg #[.int .i64 x, .int .i64 y, .int .i64 ww, .int .i64 h]] w (Ret (.tuple #[.bool (hitsR ps x y ww h).1, .int .i64 (hitsR ps x y ww h).2]) w) := by
 unfold hitsR
 by_cases hs : (splitR ps).2 = 0
 ·rw [if_neg (by simpa using hs)]
  by_cases h1 : ww < 1 ∨ h < 1
  ·rw [if_pos h1]
   exact overlap_Hits_thin A c ps x y ww h w hn hcap hp hs h1
  ·rw [if_neg h1]
   by_cases h2 : ¬ spanLo x < spanHi x ww ∨ ¬ spanLo y < spanHi y h
   ·rw [if_pos h2]
    exact overlap_Hits_off A c ps x y ww h w hn hcap hp ix iy iw ih hs (by omega) (by omega) h2
   ·rw [if_neg h2]
    exact overlap_Hits_in A c ps x y ww h w hn hcap hp ix iy iw ih hs (by omega) (by omega) (by omega) (by omega)
 ·rw [if_pos hs]
  exact overlap_Hits_err A c ps x y ww h w hn hcap hp hs
end Go.Proofs.YtdhakoecjmaebaaGreat
namespace Go.Proofs.YtdhakoecjmaebaaGreat
open Go.RowKit
set_option linter.unusedSimpArgs false
set_option linter.unusedVariables false
def relRow (s : List Pt) : List (List Pt) → Int → Int
 | [], m => m
 | t :: l, m => relRow s l (max m (contactI s t))
def relGo (ts : List (List Pt)) : List (List Pt) → Int → Int
 | [], m => m
 | s :: l, m => relGo ts l (relRow s ts m)
def relationR (a b : List Pt) : Int × Int :=
 if (splitR a).2 ≠ 0 then (0, (splitR a).2) else if (splitR b).2 ≠ 0 then (0, (splitR b).2) else (relGo (splitR b).1 (splitR a).1 (-1), 0)
def overR (a b : List Pt) : Bool × Int := ((relationR a b).2 == 0 && (relationR a b).1 == 1, (relationR a b).2)
attribute [local go_sem] ite_min ite_max
section
variable (A B : Option Addr) (ca cb : Nat) (a b : List Pt) (w : World)
set_option maxHeartbeats 2000000 in
theorem overlap_relation_e1 (hna : a.length ≤ 1099511627776) (hca : a.length ≤ ca) (hpa : Pts w A a) (h : (splitR a).2 ≠ 0) :
  Calls Tryz.prog 32 #[.slice A a.length ca, .slice B b.length cb] w (Ret (.tuple #[.int .i64 0, .int .i64 (splitR a).2]) w) := by
 have HS := Lib.hid (fun W (hW : Pts W A a) => triangle_Split A ca a W hna hca hW)
 generalize splitR a = R at *
 obtain ⟨ts, er⟩ := R
 have h0 : (er != 0) = true := by simpa using h
 clear h
 go_enter Tryz.func32, Tryz.ntmps32
 go_wp2_with (first | (go_at_call 63; (with_reducible refine (HS.out _ hpa).mono ?_); rintro e w2 ⟨A2, c2, rfl, q1, q2, hb2⟩))
 go_ret2
 exact ⟨rfl, (by repeat' (with_reducible first | exact .refl _ | assumption | refine .drew ?_ | refine .drewN ?_ _ | refine .alloc ?_ _ | refine .put ?_ (by omega) _ | refine .trans ?_ (by assumption)))⟩
set_option maxHeartbeats 2000000 in
theorem overlap_relation_e2 (hna : a.length ≤ 1099511627776) (hca : a.length ≤ ca) (hpa : Pts w A a) (hnb : b.length ≤ 1099511627776) (hcb : b.length ≤ cb) (hpb : Pts w B b) (h1 : (splitR a).2 = 0) (h : (splitR b).2 ≠ 0) :
  Calls Tryz.prog 32 #[.slice A a.length ca, .slice B b.length cb] w (Ret (.tuple #[.int .i64 0, .int .i64 (splitR b).2]) w) := by
 have HS := Lib.hid (fun W (hW : Pts W A a) => triangle_Split A ca a W hna hca hW)
 have HT := Lib.hid (fun W (hW : Pts W B b) => triangle_Split B cb b W hnb hcb hW)
 generalize splitR a = R at *
 generalize splitR b = R2 at *
 obtain ⟨ts, er⟩ := R
 obtain ⟨ts2, er2⟩ := R2
 obtain rfl : er = 0 := h1
 have h0 : (er2 != 0) = true := by simpa using h
 clear h
 have tok1 : True := trivial
 go_enter Tryz.func32, Tryz.ntmps32
 go_wp2_with (first | (go_at_call 63; have _t := tok1; (with_reducible refine (HS.out _ hpa).mono ?_); rintro e w2 ⟨A2, c2, rfl, q1, q2, hb2⟩; clear tok1) | (go_at_call 63; (with_reducible refine (HT.out _ (hpb.later hb2)).mono ?_); rintro e w3 ⟨A3, c3, rfl, q3, q4, hb3⟩))
 go_ret2
 exact ⟨rfl, (by repeat' (with_reducible first | exact .refl _ | assumption | refine .drew ?_ | refine .drewN ?_ _ | refine .alloc ?_ _ | refine .put ?_ (by omega) _ | refine .trans ?_ (by assumption)))⟩
set_option maxHeartbeats 4000000 in
theorem overlap_relation_ok (hna : a.length ≤ 1099511627776) (hca : a.length ≤ ca) (hpa : Pts w A a) (hnb : b.length ≤ 1099511627776) (hcb : b.length ≤ cb) (hpb : Pts w B b) (h1 : (splitR a).2 = 0) (h2 : (splitR b).2 = 0) :
  Calls Tryz.prog 32 #[.slice A a.length ca, .slice B b.length cb] w (Ret (.tuple #[.int .i64 (relGo (splitR b).1 (splitR a).1 (-1)), .int .i64 0]) w) := by
 have HS := Lib.hid (fun W (hW : Pts W A a) => triangle_Split A ca a W hna hca hW)
 have HT := Lib.hid (fun W (hW : Pts W B b) => triangle_Split B cb b W hnb hcb hW)
 have Hsa := Lib.hid (splitR_sm a)
 have Hsb := Lib.hid (splitR_sm b)
 have hla := splitR_cnt a
 have hlb := splitR_cnt b
 generalize splitR a = R at *
 generalize splitR b = R2 at *
 obtain ⟨ss, er⟩ := R
 obtain ⟨ts, er2⟩ := R2
 obtain rfl : er = 0 := h1
 obtain rfl : er2 = 0 := h2
 simp only [] at hla hlb
 have tok1 : True := trivial
 go_enter Tryz.func32, Tryz.ntmps32
 go_wp2_with (first | (go_at_call 63; have _t := tok1; (with_reducible refine (HS.out _ hpa).mono ?_); rintro e w2 ⟨A2, c2, rfl, q1, q2, hb2⟩; clear tok1) | (go_at_call 63; (with_reducible refine (HT.out _ (hpb.later hb2)).mono ?_); rintro e w3 ⟨A3, c3, rfl, q3, q4, hb3⟩))
 have hl3 : Later w w3 := hb2.trans hb3
 have p2 := q2.later hb3
 clear HS HT hb2 q2 hb3
 go_loopw [9, 32] (fun mv iv wr => ∃ (k : Nat) (m : Int), k ≤ ss.length ∧ iv = .int .i64 k ∧ mv = .int .i64 m ∧ relGo ts ss (-1) = relGo ts (ss.drop k) m ∧ Later w3 wr) (fun _ iv _ => ss.length - (intOf iv).toNat)
 case atStart => exact ⟨0, -1, by omega, rfl, rfl, rfl, Later.refl _⟩
 case round =>
  obtain ⟨k, m, hk, rfl, rfl, he, hb⟩ := hrel
  have He := Lib.hid he
  clear he
  by_cases hlt : k < ss.length
  ·obtain ⟨bb, ob, rfl, hel⟩ := (p2.later hb) (by omega)
   obtain ⟨v, hv, A5, c5, rfl, g1, g2, hP⟩ := hel k _ (List.getElem?_eq_getElem hlt)
   obtain ⟨hsm, h40⟩ := Hsa.out (ss[k]) (List.getElem_mem hlt)
   have Hd := Lib.hid (drop_cons' ss k hlt)
   have hbz : bb < wr.heap.size := World.block_lt_of_cell? _ _ hv
   generalize ss[k] = s at *
   have hk0 : (0 : Int) ≤ (k : Int) := by omega
   have hk1 : (k : Int) < (ss.length : Int) := by omega
   go_wp2
   obtain ⟨wo, rfl⟩ : ∃ wo : World, wo = wr := ⟨_, rfl⟩
   go_loopw [9, 38] (fun mv iv wq => ∃ (i : Nat) (n : Int), i ≤ ts.length ∧ iv = .int .i64 i ∧ mv = .int .i64 n ∧ relRow s ts m = relRow s (ts.drop i) n ∧ Later wo wq) (fun _ iv _ => ts.length - (intOf iv).toNat)
   case atStart => exact ⟨0, m, by omega, rfl, rfl, rfl, Later.refl _⟩
   case round =>
    obtain ⟨i, n, hi, rfl, rfl, he2, hb2⟩ := hrel
    have He2 := Lib.hid he2
    clear he2
    by_cases hli : i < ts.length
    ·obtain ⟨b6, o6, rfl, hel2⟩ := ((q4.later hb).later hb2) (by omega)
     obtain ⟨v6, hv6, A6, c6, rfl, g3, g4, hP6⟩ := hel2 i _ (List.getElem?_eq_getElem hli)
     obtain ⟨hsm6, h406⟩ := Hsb.out (ts[i]) (List.getElem_mem hli)
     have Hd2 := Lib.hid (drop_cons' ts i hli)
     have hbz6 : b6 < wr.heap.size := World.block_lt_of_cell? _ _ hv6
     generalize ts[i] = t at *
     have hct := overlap_contact A5 A6 c5 c6 s t wr (by omega) (by omega) (hP.later hb2) hP6 hsm hsm6
     have Hct := Lib.hid hct
     clear hct
     generalize hcv : contactI s t = cv at Hct
     have Hcv := Lib.hid hcv
     clear hcv
     have hi0 : (0 : Int) ≤ (i : Int) := by omega
     have hi1 : (i : Int) < (ts.length : Int) := by omega
     go_wp2_with (first | (go_at_call 64; (with_reducible refine Hct.out.mono ?_); rintro e w7 ⟨rfl, hb7⟩))
     go_roundw
     case rel => exact ⟨i + 1, max n cv, by omega, by go_num, rfl, by rw [He2.out, Hd2.out, relRow, Hcv.out], hb2.trans hb7⟩
     case measure => simp [intOf]; omega
    ·have hrr : relRow s ts m = n := by rw [He2.out, List.drop_eq_nil_of_le (by omega)]; rfl
     have Hrr := Lib.hid hrr
     clear hrr
     go_wp2
     go_roundw
     case rel => exact ⟨k + 1, n, by omega, by go_num, rfl, by rw [He.out, Hd.out, relGo, Hrr.out], hb.trans hb2⟩
     case measure => simp [intOf]; omega
  ·go_wp2
   go_ret2
   exact ⟨by rw [He.out, List.drop_eq_nil_of_le (by omega)]; rfl, hl3.trans hb⟩
theorem overlap_relation (hna : a.length ≤ 1099511627776) (hca : a.length ≤ ca) (hpa : Pts w A a) (hnb : b.length ≤ 1099511627776) (hcb : b.length ≤ cb) (hpb : Pts w B b) :
  Calls Tryz.prog 32 #[.slice A a.length ca, .slice B b.length cb] w (Ret (.tuple #[.int .i64 (relationR a b).1, .int .i64 (relationR a b).2]) w) := by
 unfold relationR
 by_cases h1 : (splitR a).2 = 0
 ·rw [if_neg (by simpa using h1)]
  by_cases h2 : (splitR b).2 = 0
  ·rw [if_neg (by simpa using h2)]
   exact overlap_relation_ok A B ca cb a b w hna hca hpa hnb hcb hpb h1 h2
  ·rw [if_pos h2]
   exact overlap_relation_e2 A B ca cb a b w hna hca hpa hnb hcb hpb h1 h2
 ·rw [if_pos h1]
  exact overlap_relation_e1 A B ca cb a b w hna hca hpa h1
set_option maxHeartbeats 1000000 in
theorem overlap_Overlap (hna : a.length ≤ 1099511627776) (hca : a.length ≤ ca) (hpa : Pts w A a) (hnb : b.length ≤ 1099511627776) (hcb : b.length ≤ cb) (hpb : Pts w B b) :
  Calls Tryz.prog 15 #[.slice A a.length ca, .slice B b.length cb] w (Ret (.tuple #[.bool (overR a b).1, .int .i64 (overR a b).2]) w) := by
 have HR := Lib.hid (overlap_relation A B ca cb a b w hna hca hpa hnb hcb hpb)
 unfold overR
 generalize relationR a b = R at *
 obtain ⟨r, er⟩ := R
 rcases h0 : (er == 0) with _ | _
 ·go_enter Tryz.func15, Tryz.ntmps15
  go_wp2_with (first | (go_at_call 32; (with_reducible refine HR.out.mono ?_); rintro e w2 ⟨rfl, hb2⟩))
  go_ret2
  exact ⟨by simp only [h0]; rfl, (by repeat' (with_reducible first | exact .refl _ | assumption | refine .drew ?_ | refine .drewN ?_ _ | refine .alloc ?_ _ | refine .put ?_ (by omega) _ | refine .trans ?_ (by assumption)))⟩
 ·go_enter Tryz.func15, Tryz.ntmps15
  go_wp2_with (first | (go_at_call 32; (with_reducible refine HR.out.mono ?_); rintro e w2 ⟨rfl, hb2⟩))
  go_ret2
  exact ⟨by simp only [h0]; rfl, (by repeat' (with_reducible first | exact .refl _ | assumption | refine .drew ?_ | refine .drewN ?_ _ | refine .alloc ?_ _ | refine .put ?_ (by omega) _ | refine .trans ?_ (by assumption)))⟩
end
end Go.Proofs.YtdhakoecjmaebaaGreat
