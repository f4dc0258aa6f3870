/-
  The walks of overlap.reach and overlap.contact.
-/
import Derived.Test.YtolddfapanabbaaPolyD
namespace Go.Proofs.Ytolddfapanabbaa
open Go.RowKit
set_option linter.unusedSimpArgs false
set_option linter.unusedVariables false

/-- The greatest sign of the turns from the side pq to the points of a list. -/
def mostGo (p q : Pt) : List Pt → Int → Int
  | [], m => m
  | v :: l, m => mostGo p q l (max m (sgn (crossI p.x p.y q.x q.y v.x v.y)))
def reachGo (a b : List Pt) : Nat → Nat → Int → Int
  | 0, _, m => m
  | f + 1, i, m => reachGo a b f (i + 1) (min m (mostGo (gp a i) (gp a ((i + 1) % a.length)) b (-1)))
def reachI (a b : List Pt) : Int := reachGo a b a.length 0 1
def contactI (a b : List Pt) : Int := min (reachI a b) (reachI b a)
theorem reach_step {a b : List Pt} {i : Nat} {m x : Int} (he : x = reachGo a b (a.length - i) i m) (h : i < a.length) :
    x = reachGo a b (a.length - (i + 1)) (i + 1) (min m (mostGo (gp a i) (gp a ((i + 1) % a.length)) b (-1))) := by
  obtain ⟨f, hf'⟩ : ∃ f, a.length - i = f + 1 := ⟨a.length - i - 1, by omega⟩
  rw [he, hf', reachGo, show a.length - (i + 1) = f by omega]

attribute [local go_sem] ite_min ite_max

set_option maxHeartbeats 4000000 in
theorem overlap_reach (A B : Option Addr) (ca cb : Nat) (a b : List Pt) (w : World) (hna : a.length ≤ 65536) (hnb : b.length ≤ 65536) (hpa : Pts w A a) (hpb : Pts w B b) (hsa : AllSm a) (hsb : AllSm b) :
    Calls Try.prog 85 #[.slice A a.length ca, .slice B b.length cb] w (Ret (.int .i64 (reachI a b)) w) := by
  go_enter Try.func85, Try.ntmps85
  go_wp2
  go_loopw [5, 15] (fun mv iv wr => ∃ (k : Nat) (m : Int), k ≤ a.length ∧ iv = .int .i64 k ∧ mv = .int .i64 m ∧ reachI a b = reachGo a b (a.length - k) k m ∧ Later w wr) (fun _ iv _ => a.length - (intOf iv).toNat)
  case atStart => exact ⟨0, 1, by omega, rfl, rfl, rfl, Later.refl _⟩
  case round =>
    obtain ⟨k, m, hk, rfl, rfl, he, hb⟩ := hrel
    have He := Lib.hid he
    clear he
    by_cases hlt : k < a.length
    · have hm1 : (k + 1) % a.length < a.length := Nat.mod_lt _ (by omega)
      obtain ⟨ba, oa, rfl, hat⟩ := (hpa.later hb) (by omega)
      obtain ⟨e1, e2⟩ := hat.get hlt
      obtain ⟨f1, f2⟩ := hat.get hm1
      rw [← gp_eq] at e1 e2 f1 f2
      have hbz : ba < wr.heap.size := World.block_lt_of_cell? _ _ e1
      have hi1 : (0 : Int) ≤ ((k : Int) + 1) % (a.length : Int) ∧ ((k : Int) + 1) % (a.length : Int) < (a.length : Int) := ⟨Int.emod_nonneg _ (by omega), Int.emod_lt_of_pos _ (by omega)⟩
      have s1 := hsa k
      have s2 := hsa ((k + 1) % a.length)
      have Hst := Lib.hid (reach_step He.out hlt)
      go_wp2
      generalize gp a k = p at *
      generalize gp a ((k + 1) % a.length) = q at *
      obtain ⟨wo, rfl⟩ : ∃ wo : World, wo = wr := ⟨_, rfl⟩
      go_loopw [9, 30] (fun mv iv wq => ∃ (i : Nat) (t : Int), i ≤ b.length ∧ iv = .int .i64 i ∧ mv = .int .i64 t ∧ mostGo p q b (-1) = mostGo p q (b.drop i) t ∧ Later w wq ∧
          wq.cell? ⟨wo.heap.size, 0, none⟩ = some (.int .i64 p.x) ∧ wq.cell? ⟨wo.heap.size, 1, none⟩ = some (.int .i64 p.y) ∧ wq.cell? ⟨wo.heap.size + 1, 0, none⟩ = some (.int .i64 q.x) ∧ wq.cell? ⟨wo.heap.size + 1, 1, none⟩ = some (.int .i64 q.y)) (fun _ iv _ => b.length - (intOf iv).toNat)
      case atStart => exact ⟨0, -1, by omega, rfl, rfl, rfl, (hb.alloc _).alloc _, by simp [go_sem], by simp [go_sem], by simp [go_sem], by simp [go_sem]⟩
      case round =>
        obtain ⟨i, t, hi, rfl, rfl, hm, hbq, c1, c2, c3, c4⟩ := hrel
        have Hm := Lib.hid hm
        clear hm
        have z1 : wo.heap.size < wr.heap.size := World.block_lt_of_cell? _ _ c1
        have z2 : wo.heap.size + 1 < wr.heap.size := World.block_lt_of_cell? _ _ c3
        by_cases hlb : i < b.length
        · obtain ⟨bb, ob, rfl, hbt⟩ := (hpb.later hbq) (by omega)
          obtain ⟨g1, g2⟩ := hbt.get hlb
          have hbz2 : bb < wr.heap.size := World.block_lt_of_cell? _ _ g1
          have s3 : SmP (b[i]) := by rw [← gp_eq hlb]; exact hsb i
          have Hd := Lib.hid (drop_cons b i hlb)
          generalize b[i] = v at *
          have hbd := crossI_bd s1.1 s1.2 s2.1 s2.2 s3.1 s3.2
          have t1 := s1.1
          have t2 := s1.2
          have t3 := s2.1
          have t4 := s2.2
          have t5 := s3.1
          have t6 := s3.2
          unfold Sm at t1 t2 t3 t4 t5 t6
          go_wp2_with (first | (go_at_call 115; refine (cmp_Compare0 _ _).mono ?_; rintro e w1 ⟨rfl, rfl⟩))
          go_roundw
          case rel => exact ⟨i + 1, _, by omega, by go_num, rfl, by rw [Hm.out, Hd.out]; rfl, (by repeat' (first | exact Later.refl _ | assumption | refine Later.drew ?_ | refine Later.drewN ?_ _ | refine Later.alloc ?_ _ | refine Later.put ?_ (by omega) _ | refine Later.trans ?_ (by assumption))), ((Later.refl _).alloc _).cell c1, ((Later.refl _).alloc _).cell c2, ((Later.refl _).alloc _).cell c3, ((Later.refl _).alloc _).cell c4⟩
          case measure => simp [intOf]; omega
        · have hme : mostGo p q b (-1) = t := by rw [Hm.out, List.drop_eq_nil_of_le (by omega)]; rfl
          have Hme := Lib.hid hme
          clear hme
          go_wp2
          go_roundw
          case rel => exact ⟨k + 1, _, by omega, by go_num, rfl, by rw [Hst.out, Hme.out], hbq⟩
          case measure => simp [intOf]; omega
    · go_wp2
      go_ret
      exact ⟨ret_int (by rw [He.out, show a.length - k = 0 by omega]; rfl), hb⟩

set_option maxHeartbeats 1000000 in
theorem overlap_contact (A B : Option Addr) (ca cb : Nat) (a b : List Pt) (w : World) (hna : a.length ≤ 65536) (hnb : b.length ≤ 65536) (hpa : Pts w A a) (hpb : Pts w B b) (hsa : AllSm a) (hsb : AllSm b) :
    Calls Try.prog 49 #[.slice A a.length ca, .slice B b.length cb] w (Ret (.int .i64 (contactI a b)) w) := by
  go_enter Try.func49, Try.ntmps49
  go_wp2_with fail
  refine (overlap_reach A B ca cb a b _ hna hnb hpa hpb hsa hsb).mono ?_
  rintro e w1 ⟨rfl, hb1⟩
  go_wp2_with fail
  refine (overlap_reach B A cb ca b a _ hnb hna (hpb.later hb1) (hpa.later hb1) hsb hsa).mono ?_
  rintro e w2 ⟨rfl, hb2⟩
  go_wp2
  go_ret
  exact ⟨ret_int rfl, hb1.trans hb2⟩

/-- overlap.span. -/
def spanLo (a : Int) : Int := max a (-1048576)
def spanHi (a n : Int) : Int := min (if a ≤ 9223372036854775807 - n then a + n else 9223372036854775807) 1048576

set_option maxHeartbeats 1000000 in
theorem overlap_span (a n : Int) (w : World) (ha : -9223372036854775808 ≤ a ∧ a ≤ 9223372036854775807) (hn : 1 ≤ n ∧ n ≤ 9223372036854775807) :
    Calls Try.prog 48 #[.int .i64 a, .int .i64 n] w (Pure (.tuple #[.int .i64 (spanLo a), .int .i64 (spanHi a n), .bool (decide (spanLo a < spanHi a n))]) w) := by
  by_cases h : a ≤ 9223372036854775807 - n
  · have e1 : spanHi a n = min (a + n) 1048576 := by rw [spanHi, if_pos h]
    have E1 := Lib.hid e1
    clear e1
    go_enter Try.func48, Try.ntmps48
    go_wp2
    go_ret3
    exact ⟨by rw [E1.out]; rfl, rfl⟩
  · have e1 : spanHi a n = min 9223372036854775807 1048576 := by rw [spanHi, if_neg h]
    have E1 := Lib.hid e1
    clear e1
    go_enter Try.func48, Try.ntmps48
    go_wp2
    go_ret3
    exact ⟨by rw [E1.out]; rfl, rfl⟩

end Go.Proofs.Ytolddfapanabbaa
