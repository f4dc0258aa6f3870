/-
  The walks of overlap.reach and overlap.contact.
  The walk of overlap.Hits.
  The walks of overlap.relation and overlap.Overlap.
-/
import Derived.Test.YtdhakoecjmaebaaGreatZPoly
import Derived.Test.YtdhakoecjmaebaaGreatZSplit
/- The walks of overlap.reach and overlap.contact. -/
namespace Go.Proofs.YtdhakoecjmaebaaGreat
open Go.RowKit
set_option linter.unusedSimpArgs false
set_option linter.unusedVariables false

/-- The greatest sign of the turns from the side pq to the points of a list. -/
def mostGo (p q : Pt) : List Pt → Int → Int
  | [], m => m
  | v :: l, m => mostGo p q l (max m (sgn (crossI p.x p.y q.x q.y v.x v.y)))
def reachGo (a b : List Pt) : Nat → Nat → Int → Int
  | 0, _, m => m
  | f + 1, i, m => reachGo a b f (i + 1) (min m (mostGo (gp a i) (gp a ((i + 1) % a.length)) b (-1)))
def reachI (a b : List Pt) : Int := reachGo a b a.length 0 1
def contactI (a b : List Pt) : Int := min (reachI a b) (reachI b a)
theorem reach_step {a b : List Pt} {i : Nat} {m x : Int} (he : x = reachGo a b (a.length - i) i m) (h : i < a.length) :
    x = reachGo a b (a.length - (i + 1)) (i + 1) (min m (mostGo (gp a i) (gp a ((i + 1) % a.length)) b (-1))) := by
  obtain ⟨f, hf'⟩ : ∃ f, a.length - i = f + 1 := ⟨a.length - i - 1, by omega⟩
  rw [he, hf', reachGo, show a.length - (i + 1) = f by omega]

attribute [local go_sem] ite_min ite_max

set_option maxHeartbeats 4000000 in
theorem overlap_reach (A B : Option Addr) (ca cb : Nat) (a b : List Pt) (w : World) (hna : a.length ≤ 65536) (hnb : b.length ≤ 65536) (hpa : Pts w A a) (hpb : Pts w B b) (hsa : AllSm a) (hsb : AllSm b) :
    Calls Tryz.prog 108 #[.slice A a.length ca, .slice B b.length cb] w (Ret (.int .i64 (reachI a b)) w) := by
  go_enter Tryz.func108, Tryz.ntmps108
  go_wp2
  go_loopw [5, 15] (fun mv iv wr => ∃ (k : Nat) (m : Int), k ≤ a.length ∧ iv = .int .i64 k ∧ mv = .int .i64 m ∧ reachI a b = reachGo a b (a.length - k) k m ∧ Later w wr) (fun _ iv _ => a.length - (intOf iv).toNat)
  case atStart => exact ⟨0, 1, by omega, rfl, rfl, rfl, Later.refl _⟩
  case round =>
    obtain ⟨k, m, hk, rfl, rfl, he, hb⟩ := hrel
    have He := Lib.hid he
    clear he
    by_cases hlt : k < a.length
    · have hm1 : (k + 1) % a.length < a.length := Nat.mod_lt _ (by omega)
      obtain ⟨ba, oa, rfl, hat⟩ := (hpa.later hb) (by omega)
      obtain ⟨e1, e2⟩ := hat.get hlt
      obtain ⟨f1, f2⟩ := hat.get hm1
      rw [← gp_eq] at e1 e2 f1 f2
      have hbz : ba < wr.heap.size := World.block_lt_of_cell? _ _ e1
      have hi1 : (0 : Int) ≤ ((k : Int) + 1) % (a.length : Int) ∧ ((k : Int) + 1) % (a.length : Int) < (a.length : Int) := ⟨Int.emod_nonneg _ (by omega), Int.emod_lt_of_pos _ (by omega)⟩
      have s1 := hsa k
      have s2 := hsa ((k + 1) % a.length)
      have Hst := Lib.hid (reach_step He.out hlt)
      go_wp2
      generalize gp a k = p at *
      generalize gp a ((k + 1) % a.length) = q at *
      obtain ⟨wo, rfl⟩ : ∃ wo : World, wo = wr := ⟨_, rfl⟩
      go_loopw [9, 30] (fun mv iv wq => ∃ (i : Nat) (t : Int), i ≤ b.length ∧ iv = .int .i64 i ∧ mv = .int .i64 t ∧ mostGo p q b (-1) = mostGo p q (b.drop i) t ∧ Later w wq ∧
          wq.cell? ⟨wo.heap.size, 0, none⟩ = some (.int .i64 p.x) ∧ wq.cell? ⟨wo.heap.size, 1, none⟩ = some (.int .i64 p.y) ∧ wq.cell? ⟨wo.heap.size + 1, 0, none⟩ = some (.int .i64 q.x) ∧ wq.cell? ⟨wo.heap.size + 1, 1, none⟩ = some (.int .i64 q.y)) (fun _ iv _ => b.length - (intOf iv).toNat)
      case atStart => exact ⟨0, -1, by omega, rfl, rfl, rfl, (hb.alloc _).alloc _, by simp [go_sem], by simp [go_sem], by simp [go_sem], by simp [go_sem]⟩
      case round =>
        obtain ⟨i, t, hi, rfl, rfl, hm, hbq, c1, c2, c3, c4⟩ := hrel
        have Hm := Lib.hid hm
        clear hm
        have z1 : wo.heap.size < wr.heap.size := World.block_lt_of_cell? _ _ c1
        have z2 : wo.heap.size + 1 < wr.heap.size := World.block_lt_of_cell? _ _ c3
        by_cases hlb : i < b.length
        · obtain ⟨bb, ob, rfl, hbt⟩ := (hpb.later hbq) (by omega)
          obtain ⟨g1, g2⟩ := hbt.get hlb
          have hbz2 : bb < wr.heap.size := World.block_lt_of_cell? _ _ g1
          have s3 : SmP (b[i]) := by rw [← gp_eq hlb]; exact hsb i
          have Hd := Lib.hid (drop_cons b i hlb)
          generalize b[i] = v at *
          have hbd := crossI_bd s1.1 s1.2 s2.1 s2.2 s3.1 s3.2
          have t1 := s1.1
          have t2 := s1.2
          have t3 := s2.1
          have t4 := s2.2
          have t5 := s3.1
          have t6 := s3.2
          unfold Sm at t1 t2 t3 t4 t5 t6
          go_wp2_with (first | (go_at_call 95; refine (cmp_Compare0 _ _).mono ?_; rintro e w1 ⟨rfl, rfl⟩))
          go_roundw
          case rel => exact ⟨i + 1, _, by omega, by go_num, rfl, by rw [Hm.out, Hd.out]; rfl, (by repeat' (first | exact Later.refl _ | assumption | refine Later.drew ?_ | refine Later.drewN ?_ _ | refine Later.alloc ?_ _ | refine Later.put ?_ (by omega) _ | refine Later.trans ?_ (by assumption))), ((Later.refl _).alloc _).cell c1, ((Later.refl _).alloc _).cell c2, ((Later.refl _).alloc _).cell c3, ((Later.refl _).alloc _).cell c4⟩
          case measure => simp [intOf]; omega
        · have hme : mostGo p q b (-1) = t := by rw [Hm.out, List.drop_eq_nil_of_le (by omega)]; rfl
          have Hme := Lib.hid hme
          clear hme
          go_wp2
          go_roundw
          case rel => exact ⟨k + 1, _, by omega, by go_num, rfl, by rw [Hst.out, Hme.out], hbq⟩
          case measure => simp [intOf]; omega
    · go_wp2
      go_ret
      exact ⟨ret_int (by rw [He.out, show a.length - k = 0 by omega]; rfl), hb⟩

set_option maxHeartbeats 1000000 in
theorem overlap_contact (A B : Option Addr) (ca cb : Nat) (a b : List Pt) (w : World) (hna : a.length ≤ 65536) (hnb : b.length ≤ 65536) (hpa : Pts w A a) (hpb : Pts w B b) (hsa : AllSm a) (hsb : AllSm b) :
    Calls Tryz.prog 64 #[.slice A a.length ca, .slice B b.length cb] w (Ret (.int .i64 (contactI a b)) w) := by
  go_enter Tryz.func64, Tryz.ntmps64
  go_wp2_with fail
  refine (overlap_reach A B ca cb a b _ hna hnb hpa hpb hsa hsb).mono ?_
  rintro e w1 ⟨rfl, hb1⟩
  go_wp2_with fail
  refine (overlap_reach B A cb ca b a _ hnb hna (hpb.later hb1) (hpa.later hb1) hsb hsa).mono ?_
  rintro e w2 ⟨rfl, hb2⟩
  go_wp2
  go_ret
  exact ⟨ret_int rfl, hb1.trans hb2⟩

/-- overlap.span. -/
def spanLo (a : Int) : Int := max a (-1048576)
def spanHi (a n : Int) : Int := min (if a ≤ 9223372036854775807 - n then a + n else 9223372036854775807) 1048576

end Go.Proofs.YtdhakoecjmaebaaGreat

/- The walk of overlap.Hits. -/
namespace Go.Proofs.YtdhakoecjmaebaaGreat
open Go.RowKit
set_option linter.unusedSimpArgs false
set_option linter.unusedVariables false

def rectPts (l lo r hi : Int) : List Pt := [⟨l, lo⟩, ⟨r, lo⟩, ⟨r, hi⟩, ⟨l, hi⟩]
def anyHit (cs : List Pt) : List (List Pt) → Bool
  | [] => false
  | t :: l => if contactI t cs = 1 then true else anyHit cs l
/-- What overlap.Hits returns. -/
def hitsR (ps : List Pt) (x y ww h : Int) : Bool × Int :=
  if (splitR ps).2 ≠ 0 then (false, (splitR ps).2)
  else if ww < 1 ∨ h < 1 then (false, 0)
  else if ¬ spanLo x < spanHi x ww ∨ ¬ spanLo y < spanHi y h then (false, 0)
  else (anyHit (rectPts (spanLo x) (spanLo y) (spanHi x ww) (spanHi y h)) (splitR ps).1, 0)

def I64 (n : Int) : Prop := -9223372036854775808 ≤ n ∧ n ≤ 9223372036854775807

theorem drop_cons' {α : Type} (l : List α) (k : Nat) (h : k < l.length) : l.drop k = l[k] :: l.drop (k + 1) := List.drop_eq_getElem_cons h

theorem splitGo_cnt : ∀ f l acc ts, splitGo f l acc = some ts → ts.length ≤ acc.length + f + 1 := by
  intro f
  induction f with
  | zero => intro l acc ts he; rw [splitGo] at he; cases he; simp
  | succ f ih =>
    intro l acc ts he
    rw [splitGo] at he
    split at he
    · cases he; simp
    · split at he
      · have := ih _ _ _ he; omega
      · split at he
        · have := ih _ _ _ he
          simp only [List.length_append, List.length_singleton] at this
          omega
        · cases he
theorem splitR_cnt (ps : List Pt) : (splitR ps).1.length ≤ 41 := by
  unfold splitR
  by_cases hok : checkI ps = 0
  · rw [if_pos hok]
    cases hs : splitOf ps with
    | none => exact Nat.zero_le _
    | some ts =>
      have hlen := normal_len ps
      have hle := corners_le ps
      have h40 := (simple_of_check hok).2.2
      have := splitGo_cnt _ _ _ _ hs
      simp only [List.length_nil] at this
      show ts.length ≤ 41
      omega
  · rw [if_neg hok]; exact Nat.zero_le _

end Go.Proofs.YtdhakoecjmaebaaGreat

/- The walks of overlap.relation and overlap.Overlap. -/
namespace Go.Proofs.YtdhakoecjmaebaaGreat
open Go.RowKit
set_option linter.unusedSimpArgs false
set_option linter.unusedVariables false

def relRow (s : List Pt) : List (List Pt) → Int → Int
  | [], m => m
  | t :: l, m => relRow s l (max m (contactI s t))
def relGo (ts : List (List Pt)) : List (List Pt) → Int → Int
  | [], m => m
  | s :: l, m => relGo ts l (relRow s ts m)
/-- What overlap.relation returns. -/
def relationR (a b : List Pt) : Int × Int :=
  if (splitR a).2 ≠ 0 then (0, (splitR a).2) else if (splitR b).2 ≠ 0 then (0, (splitR b).2) else (relGo (splitR b).1 (splitR a).1 (-1), 0)
def overR (a b : List Pt) : Bool × Int := ((relationR a b).2 == 0 && (relationR a b).1 == 1, (relationR a b).2)

attribute [local go_sem] ite_min ite_max

section
variable (A B : Option Addr) (ca cb : Nat) (a b : List Pt) (w : World)
set_option maxHeartbeats 2000000 in
theorem overlap_relation_e1 (hna : a.length ≤ 1099511627776) (hca : a.length ≤ ca) (hpa : Pts w A a) (h : (splitR a).2 ≠ 0) :
    Calls Tryz.prog 32 #[.slice A a.length ca, .slice B b.length cb] w (Ret (.tuple #[.int .i64 0, .int .i64 (splitR a).2]) w) := by
  have HS := Lib.hid (fun W (hW : Pts W A a) => triangle_Split A ca a W hna hca hW)
  generalize splitR a = R at *
  obtain ⟨ts, er⟩ := R
  have h0 : (er != 0) = true := by simpa using h
  clear h
  go_enter Tryz.func32, Tryz.ntmps32
  go_wp2_with (first | (go_at_call 63; (with_reducible refine (HS.out _ hpa).mono ?_); rintro e w2 ⟨A2, c2, rfl, q1, q2, hb2⟩))
  go_ret2
  exact ⟨rfl, (by repeat' (with_reducible first | exact Later.refl _ | assumption | refine Later.drew ?_ | refine Later.drewN ?_ _ | refine Later.alloc ?_ _ | refine Later.put ?_ (by omega) _ | refine Later.trans ?_ (by assumption)))⟩
set_option maxHeartbeats 2000000 in
theorem overlap_relation_e2 (hna : a.length ≤ 1099511627776) (hca : a.length ≤ ca) (hpa : Pts w A a) (hnb : b.length ≤ 1099511627776) (hcb : b.length ≤ cb) (hpb : Pts w B b) (h1 : (splitR a).2 = 0) (h : (splitR b).2 ≠ 0) :
    Calls Tryz.prog 32 #[.slice A a.length ca, .slice B b.length cb] w (Ret (.tuple #[.int .i64 0, .int .i64 (splitR b).2]) w) := by
  have HS := Lib.hid (fun W (hW : Pts W A a) => triangle_Split A ca a W hna hca hW)
  have HT := Lib.hid (fun W (hW : Pts W B b) => triangle_Split B cb b W hnb hcb hW)
  generalize splitR a = R at *
  generalize splitR b = R2 at *
  obtain ⟨ts, er⟩ := R
  obtain ⟨ts2, er2⟩ := R2
  obtain rfl : er = 0 := h1
  have h0 : (er2 != 0) = true := by simpa using h
  clear h
  have tok1 : True := trivial
  go_enter Tryz.func32, Tryz.ntmps32
  go_wp2_with (first | (go_at_call 63; have _t := tok1; (with_reducible refine (HS.out _ hpa).mono ?_); rintro e w2 ⟨A2, c2, rfl, q1, q2, hb2⟩; clear tok1) | (go_at_call 63; (with_reducible refine (HT.out _ (hpb.later hb2)).mono ?_); rintro e w3 ⟨A3, c3, rfl, q3, q4, hb3⟩))
  go_ret2
  exact ⟨rfl, (by repeat' (with_reducible first | exact Later.refl _ | assumption | refine Later.drew ?_ | refine Later.drewN ?_ _ | refine Later.alloc ?_ _ | refine Later.put ?_ (by omega) _ | refine Later.trans ?_ (by assumption)))⟩
set_option maxHeartbeats 4000000 in
theorem overlap_relation_ok (hna : a.length ≤ 1099511627776) (hca : a.length ≤ ca) (hpa : Pts w A a) (hnb : b.length ≤ 1099511627776) (hcb : b.length ≤ cb) (hpb : Pts w B b) (h1 : (splitR a).2 = 0) (h2 : (splitR b).2 = 0) :
    Calls Tryz.prog 32 #[.slice A a.length ca, .slice B b.length cb] w (Ret (.tuple #[.int .i64 (relGo (splitR b).1 (splitR a).1 (-1)), .int .i64 0]) w) := by
  have HS := Lib.hid (fun W (hW : Pts W A a) => triangle_Split A ca a W hna hca hW)
  have HT := Lib.hid (fun W (hW : Pts W B b) => triangle_Split B cb b W hnb hcb hW)
  have Hsa := Lib.hid (splitR_sm a)
  have Hsb := Lib.hid (splitR_sm b)
  have hla := splitR_cnt a
  have hlb := splitR_cnt b
  generalize splitR a = R at *
  generalize splitR b = R2 at *
  obtain ⟨ss, er⟩ := R
  obtain ⟨ts, er2⟩ := R2
  obtain rfl : er = 0 := h1
  obtain rfl : er2 = 0 := h2
  simp only [] at hla hlb
  have tok1 : True := trivial
  go_enter Tryz.func32, Tryz.ntmps32
  go_wp2_with (first | (go_at_call 63; have _t := tok1; (with_reducible refine (HS.out _ hpa).mono ?_); rintro e w2 ⟨A2, c2, rfl, q1, q2, hb2⟩; clear tok1) | (go_at_call 63; (with_reducible refine (HT.out _ (hpb.later hb2)).mono ?_); rintro e w3 ⟨A3, c3, rfl, q3, q4, hb3⟩))
  have hl3 : Later w w3 := hb2.trans hb3
  have p2 := q2.later hb3
  clear HS HT hb2 q2 hb3
  go_loopw [9, 32] (fun mv iv wr => ∃ (k : Nat) (m : Int), k ≤ ss.length ∧ iv = .int .i64 k ∧ mv = .int .i64 m ∧ relGo ts ss (-1) = relGo ts (ss.drop k) m ∧ Later w3 wr) (fun _ iv _ => ss.length - (intOf iv).toNat)
  case atStart => exact ⟨0, -1, by omega, rfl, rfl, rfl, Later.refl _⟩
  case round =>
    obtain ⟨k, m, hk, rfl, rfl, he, hb⟩ := hrel
    have He := Lib.hid he
    clear he
    by_cases hlt : k < ss.length
    · obtain ⟨bb, ob, rfl, hel⟩ := (p2.later hb) (by omega)
      obtain ⟨v, hv, A5, c5, rfl, g1, g2, hP⟩ := hel k _ (List.getElem?_eq_getElem hlt)
      obtain ⟨hsm, h40⟩ := Hsa.out (ss[k]) (List.getElem_mem hlt)
      have Hd := Lib.hid (drop_cons' ss k hlt)
      have hbz : bb < wr.heap.size := World.block_lt_of_cell? _ _ hv
      generalize ss[k] = s at *
      have hk0 : (0 : Int) ≤ (k : Int) := by omega
      have hk1 : (k : Int) < (ss.length : Int) := by omega
      go_wp2
      obtain ⟨wo, rfl⟩ : ∃ wo : World, wo = wr := ⟨_, rfl⟩
      go_loopw [9, 38] (fun mv iv wq => ∃ (i : Nat) (n : Int), i ≤ ts.length ∧ iv = .int .i64 i ∧ mv = .int .i64 n ∧ relRow s ts m = relRow s (ts.drop i) n ∧ Later wo wq) (fun _ iv _ => ts.length - (intOf iv).toNat)
      case atStart => exact ⟨0, m, by omega, rfl, rfl, rfl, Later.refl _⟩
      case round =>
        obtain ⟨i, n, hi, rfl, rfl, he2, hb2⟩ := hrel
        have He2 := Lib.hid he2
        clear he2
        by_cases hli : i < ts.length
        · obtain ⟨b6, o6, rfl, hel2⟩ := ((q4.later hb).later hb2) (by omega)
          obtain ⟨v6, hv6, A6, c6, rfl, g3, g4, hP6⟩ := hel2 i _ (List.getElem?_eq_getElem hli)
          obtain ⟨hsm6, h406⟩ := Hsb.out (ts[i]) (List.getElem_mem hli)
          have Hd2 := Lib.hid (drop_cons' ts i hli)
          have hbz6 : b6 < wr.heap.size := World.block_lt_of_cell? _ _ hv6
          generalize ts[i] = t at *
          have hct := overlap_contact A5 A6 c5 c6 s t wr (by omega) (by omega) (hP.later hb2) hP6 hsm hsm6
          have Hct := Lib.hid hct
          clear hct
          generalize hcv : contactI s t = cv at Hct
          have Hcv := Lib.hid hcv
          clear hcv
          have hi0 : (0 : Int) ≤ (i : Int) := by omega
          have hi1 : (i : Int) < (ts.length : Int) := by omega
          go_wp2_with (first | (go_at_call 64; (with_reducible refine Hct.out.mono ?_); rintro e w7 ⟨rfl, hb7⟩))
          go_roundw
          case rel => exact ⟨i + 1, max n cv, by omega, by go_num, rfl, by rw [He2.out, Hd2.out, relRow, Hcv.out], hb2.trans hb7⟩
          case measure => simp [intOf]; omega
        · have hrr : relRow s ts m = n := by rw [He2.out, List.drop_eq_nil_of_le (by omega)]; rfl
          have Hrr := Lib.hid hrr
          clear hrr
          go_wp2
          go_roundw
          case rel => exact ⟨k + 1, n, by omega, by go_num, rfl, by rw [He.out, Hd.out, relGo, Hrr.out], hb.trans hb2⟩
          case measure => simp [intOf]; omega
    · go_wp2
      go_ret2
      exact ⟨by rw [He.out, List.drop_eq_nil_of_le (by omega)]; rfl, hl3.trans hb⟩
theorem overlap_relation (hna : a.length ≤ 1099511627776) (hca : a.length ≤ ca) (hpa : Pts w A a) (hnb : b.length ≤ 1099511627776) (hcb : b.length ≤ cb) (hpb : Pts w B b) :
    Calls Tryz.prog 32 #[.slice A a.length ca, .slice B b.length cb] w (Ret (.tuple #[.int .i64 (relationR a b).1, .int .i64 (relationR a b).2]) w) := by
  unfold relationR
  by_cases h1 : (splitR a).2 = 0
  · rw [if_neg (by simpa using h1)]
    by_cases h2 : (splitR b).2 = 0
    · rw [if_neg (by simpa using h2)]
      exact overlap_relation_ok A B ca cb a b w hna hca hpa hnb hcb hpb h1 h2
    · rw [if_pos h2]
      exact overlap_relation_e2 A B ca cb a b w hna hca hpa hnb hcb hpb h1 h2
  · rw [if_pos h1]
    exact overlap_relation_e1 A B ca cb a b w hna hca hpa h1
set_option maxHeartbeats 1000000 in
theorem overlap_Overlap (hna : a.length ≤ 1099511627776) (hca : a.length ≤ ca) (hpa : Pts w A a) (hnb : b.length ≤ 1099511627776) (hcb : b.length ≤ cb) (hpb : Pts w B b) :
    Calls Tryz.prog 15 #[.slice A a.length ca, .slice B b.length cb] w (Ret (.tuple #[.bool (overR a b).1, .int .i64 (overR a b).2]) w) := by
  have HR := Lib.hid (overlap_relation A B ca cb a b w hna hca hpa hnb hcb hpb)
  unfold overR
  generalize relationR a b = R at *
  obtain ⟨r, er⟩ := R
  rcases h0 : (er == 0) with _ | _
  · go_enter Tryz.func15, Tryz.ntmps15
    go_wp2_with (first | (go_at_call 32; (with_reducible refine HR.out.mono ?_); rintro e w2 ⟨rfl, hb2⟩))
    go_ret2
    exact ⟨by simp only [h0]; rfl, (by repeat' (with_reducible first | exact Later.refl _ | assumption | refine Later.drew ?_ | refine Later.drewN ?_ _ | refine Later.alloc ?_ _ | refine Later.put ?_ (by omega) _ | refine Later.trans ?_ (by assumption)))⟩
  · go_enter Tryz.func15, Tryz.ntmps15
    go_wp2_with (first | (go_at_call 32; (with_reducible refine HR.out.mono ?_); rintro e w2 ⟨rfl, hb2⟩))
    go_ret2
    exact ⟨by simp only [h0]; rfl, (by repeat' (with_reducible first | exact Later.refl _ | assumption | refine Later.drew ?_ | refine Later.drewN ?_ _ | refine Later.alloc ?_ _ | refine Later.put ?_ (by omega) _ | refine Later.trans ?_ (by assumption)))⟩
end

end Go.Proofs.YtdhakoecjmaebaaGreat
