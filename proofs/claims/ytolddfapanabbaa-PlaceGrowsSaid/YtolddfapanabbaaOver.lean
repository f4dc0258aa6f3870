/-
  The walks of overlap.relation and overlap.Overlap.
-/
import Derived.Test.YtolddfapanabbaaSplitT
import Derived.Test.YtolddfapanabbaaReach
import Derived.Test.YtolddfapanabbaaHits
namespace Go.Proofs.Ytolddfapanabbaa
open Go.RowKit
set_option linter.unusedSimpArgs false
set_option linter.unusedVariables false

def relRow (s : List Pt) : List (List Pt) → Int → Int
  | [], m => m
  | t :: l, m => relRow s l (max m (contactI s t))
def relGo (ts : List (List Pt)) : List (List Pt) → Int → Int
  | [], m => m
  | s :: l, m => relGo ts l (relRow s ts m)
/-- What overlap.relation returns. -/
def relationR (a b : List Pt) : Int × Int :=
  if (splitR a).2 ≠ 0 then (0, (splitR a).2) else if (splitR b).2 ≠ 0 then (0, (splitR b).2) else (relGo (splitR b).1 (splitR a).1 (-1), 0)
def overR (a b : List Pt) : Bool × Int := ((relationR a b).2 == 0 && (relationR a b).1 == 1, (relationR a b).2)

attribute [local go_sem] ite_min ite_max

section
variable (A B : Option Addr) (ca cb : Nat) (a b : List Pt) (w : World)
set_option maxHeartbeats 2000000 in
theorem overlap_relation_e1 (hna : a.length ≤ 1099511627776) (hca : a.length ≤ ca) (hpa : Pts w A a) (h : (splitR a).2 ≠ 0) :
    Calls Try.prog 94 #[.slice A a.length ca, .slice B b.length cb] w (Ret (.tuple #[.int .i64 0, .int .i64 (splitR a).2]) w) := by
  have HS := Lib.hid (fun W (hW : Pts W A a) => triangle_Split A ca a W hna hca hW)
  generalize splitR a = R at *
  obtain ⟨ts, er⟩ := R
  have h0 : (er != 0) = true := by simpa using h
  clear h
  go_enter Try.func94, Try.ntmps94
  go_wp2_with (first | (go_at_call 47; (with_reducible refine (HS.out _ hpa).mono ?_); rintro e w2 ⟨A2, c2, rfl, q1, q2, hb2⟩))
  go_ret2
  exact ⟨rfl, (by repeat' (with_reducible first | exact Later.refl _ | assumption | refine Later.drew ?_ | refine Later.drewN ?_ _ | refine Later.alloc ?_ _ | refine Later.put ?_ (by omega) _ | refine Later.trans ?_ (by assumption)))⟩
set_option maxHeartbeats 2000000 in
theorem overlap_relation_e2 (hna : a.length ≤ 1099511627776) (hca : a.length ≤ ca) (hpa : Pts w A a) (hnb : b.length ≤ 1099511627776) (hcb : b.length ≤ cb) (hpb : Pts w B b) (h1 : (splitR a).2 = 0) (h : (splitR b).2 ≠ 0) :
    Calls Try.prog 94 #[.slice A a.length ca, .slice B b.length cb] w (Ret (.tuple #[.int .i64 0, .int .i64 (splitR b).2]) w) := by
  have HS := Lib.hid (fun W (hW : Pts W A a) => triangle_Split A ca a W hna hca hW)
  have HT := Lib.hid (fun W (hW : Pts W B b) => triangle_Split B cb b W hnb hcb hW)
  generalize splitR a = R at *
  generalize splitR b = R2 at *
  obtain ⟨ts, er⟩ := R
  obtain ⟨ts2, er2⟩ := R2
  obtain rfl : er = 0 := h1
  have h0 : (er2 != 0) = true := by simpa using h
  clear h
  have tok1 : True := trivial
  go_enter Try.func94, Try.ntmps94
  go_wp2_with (first | (go_at_call 47; have _t := tok1; (with_reducible refine (HS.out _ hpa).mono ?_); rintro e w2 ⟨A2, c2, rfl, q1, q2, hb2⟩; clear tok1) | (go_at_call 47; (with_reducible refine (HT.out _ (hpb.later hb2)).mono ?_); rintro e w3 ⟨A3, c3, rfl, q3, q4, hb3⟩))
  go_ret2
  exact ⟨rfl, (by repeat' (with_reducible first | exact Later.refl _ | assumption | refine Later.drew ?_ | refine Later.drewN ?_ _ | refine Later.alloc ?_ _ | refine Later.put ?_ (by omega) _ | refine Later.trans ?_ (by assumption)))⟩
set_option maxHeartbeats 4000000 in
theorem overlap_relation_ok (hna : a.length ≤ 1099511627776) (hca : a.length ≤ ca) (hpa : Pts w A a) (hnb : b.length ≤ 1099511627776) (hcb : b.length ≤ cb) (hpb : Pts w B b) (h1 : (splitR a).2 = 0) (h2 : (splitR b).2 = 0) :
    Calls Try.prog 94 #[.slice A a.length ca, .slice B b.length cb] w (Ret (.tuple #[.int .i64 (relGo (splitR b).1 (splitR a).1 (-1)), .int .i64 0]) w) := by
  have HS := Lib.hid (fun W (hW : Pts W A a) => triangle_Split A ca a W hna hca hW)
  have HT := Lib.hid (fun W (hW : Pts W B b) => triangle_Split B cb b W hnb hcb hW)
  have Hsa := Lib.hid (splitR_sm a)
  have Hsb := Lib.hid (splitR_sm b)
  have hla := splitR_cnt a
  have hlb := splitR_cnt b
  generalize splitR a = R at *
  generalize splitR b = R2 at *
  obtain ⟨ss, er⟩ := R
  obtain ⟨ts, er2⟩ := R2
  obtain rfl : er = 0 := h1
  obtain rfl : er2 = 0 := h2
  simp only [] at hla hlb
  have tok1 : True := trivial
  go_enter Try.func94, Try.ntmps94
  go_wp2_with (first | (go_at_call 47; have _t := tok1; (with_reducible refine (HS.out _ hpa).mono ?_); rintro e w2 ⟨A2, c2, rfl, q1, q2, hb2⟩; clear tok1) | (go_at_call 47; (with_reducible refine (HT.out _ (hpb.later hb2)).mono ?_); rintro e w3 ⟨A3, c3, rfl, q3, q4, hb3⟩))
  have hl3 : Later w w3 := hb2.trans hb3
  have p2 := q2.later hb3
  clear HS HT hb2 q2 hb3
  go_loopw [9, 32] (fun mv iv wr => ∃ (k : Nat) (m : Int), k ≤ ss.length ∧ iv = .int .i64 k ∧ mv = .int .i64 m ∧ relGo ts ss (-1) = relGo ts (ss.drop k) m ∧ Later w3 wr) (fun _ iv _ => ss.length - (intOf iv).toNat)
  case atStart => exact ⟨0, -1, by omega, rfl, rfl, rfl, Later.refl _⟩
  case round =>
    obtain ⟨k, m, hk, rfl, rfl, he, hb⟩ := hrel
    have He := Lib.hid he
    clear he
    by_cases hlt : k < ss.length
    · obtain ⟨bb, ob, rfl, hel⟩ := (p2.later hb) (by omega)
      obtain ⟨v, hv, A5, c5, rfl, g1, g2, hP⟩ := hel k _ (List.getElem?_eq_getElem hlt)
      obtain ⟨hsm, h40⟩ := Hsa.out (ss[k]) (List.getElem_mem hlt)
      have Hd := Lib.hid (drop_cons' ss k hlt)
      have hbz : bb < wr.heap.size := World.block_lt_of_cell? _ _ hv
      generalize ss[k] = s at *
      have hk0 : (0 : Int) ≤ (k : Int) := by omega
      have hk1 : (k : Int) < (ss.length : Int) := by omega
      go_wp2
      obtain ⟨wo, rfl⟩ : ∃ wo : World, wo = wr := ⟨_, rfl⟩
      go_loopw [9, 38] (fun mv iv wq => ∃ (i : Nat) (n : Int), i ≤ ts.length ∧ iv = .int .i64 i ∧ mv = .int .i64 n ∧ relRow s ts m = relRow s (ts.drop i) n ∧ Later wo wq) (fun _ iv _ => ts.length - (intOf iv).toNat)
      case atStart => exact ⟨0, m, by omega, rfl, rfl, rfl, Later.refl _⟩
      case round =>
        obtain ⟨i, n, hi, rfl, rfl, he2, hb2⟩ := hrel
        have He2 := Lib.hid he2
        clear he2
        by_cases hli : i < ts.length
        · obtain ⟨b6, o6, rfl, hel2⟩ := ((q4.later hb).later hb2) (by omega)
          obtain ⟨v6, hv6, A6, c6, rfl, g3, g4, hP6⟩ := hel2 i _ (List.getElem?_eq_getElem hli)
          obtain ⟨hsm6, h406⟩ := Hsb.out (ts[i]) (List.getElem_mem hli)
          have Hd2 := Lib.hid (drop_cons' ts i hli)
          have hbz6 : b6 < wr.heap.size := World.block_lt_of_cell? _ _ hv6
          generalize ts[i] = t at *
          have hct := overlap_contact A5 A6 c5 c6 s t wr (by omega) (by omega) (hP.later hb2) hP6 hsm hsm6
          have Hct := Lib.hid hct
          clear hct
          generalize hcv : contactI s t = cv at Hct
          have Hcv := Lib.hid hcv
          clear hcv
          have hi0 : (0 : Int) ≤ (i : Int) := by omega
          have hi1 : (i : Int) < (ts.length : Int) := by omega
          go_wp2_with (first | (go_at_call 49; (with_reducible refine Hct.out.mono ?_); rintro e w7 ⟨rfl, hb7⟩))
          go_roundw
          case rel => exact ⟨i + 1, max n cv, by omega, by go_num, rfl, by rw [He2.out, Hd2.out, relRow, Hcv.out], hb2.trans hb7⟩
          case measure => simp [intOf]; omega
        · have hrr : relRow s ts m = n := by rw [He2.out, List.drop_eq_nil_of_le (by omega)]; rfl
          have Hrr := Lib.hid hrr
          clear hrr
          go_wp2
          go_roundw
          case rel => exact ⟨k + 1, n, by omega, by go_num, rfl, by rw [He.out, Hd.out, relGo, Hrr.out], hb.trans hb2⟩
          case measure => simp [intOf]; omega
    · go_wp2
      go_ret2
      exact ⟨by rw [He.out, List.drop_eq_nil_of_le (by omega)]; rfl, hl3.trans hb⟩
theorem overlap_relation (hna : a.length ≤ 1099511627776) (hca : a.length ≤ ca) (hpa : Pts w A a) (hnb : b.length ≤ 1099511627776) (hcb : b.length ≤ cb) (hpb : Pts w B b) :
    Calls Try.prog 94 #[.slice A a.length ca, .slice B b.length cb] w (Ret (.tuple #[.int .i64 (relationR a b).1, .int .i64 (relationR a b).2]) w) := by
  unfold relationR
  by_cases h1 : (splitR a).2 = 0
  · rw [if_neg (by simpa using h1)]
    by_cases h2 : (splitR b).2 = 0
    · rw [if_neg (by simpa using h2)]
      exact overlap_relation_ok A B ca cb a b w hna hca hpa hnb hcb hpb h1 h2
    · rw [if_pos h2]
      exact overlap_relation_e2 A B ca cb a b w hna hca hpa hnb hcb hpb h1 h2
  · rw [if_pos h1]
    exact overlap_relation_e1 A B ca cb a b w hna hca hpa h1
set_option maxHeartbeats 1000000 in
theorem overlap_Overlap (hna : a.length ≤ 1099511627776) (hca : a.length ≤ ca) (hpa : Pts w A a) (hnb : b.length ≤ 1099511627776) (hcb : b.length ≤ cb) (hpb : Pts w B b) :
    Calls Try.prog 61 #[.slice A a.length ca, .slice B b.length cb] w (Ret (.tuple #[.bool (overR a b).1, .int .i64 (overR a b).2]) w) := by
  have HR := Lib.hid (overlap_relation A B ca cb a b w hna hca hpa hnb hcb hpb)
  unfold overR
  generalize relationR a b = R at *
  obtain ⟨r, er⟩ := R
  rcases h0 : (er == 0) with _ | _
  · go_enter Try.func61, Try.ntmps61
    go_wp2_with (first | (go_at_call 94; (with_reducible refine HR.out.mono ?_); rintro e w2 ⟨rfl, hb2⟩))
    go_ret2
    exact ⟨by simp only [h0]; rfl, (by repeat' (with_reducible first | exact Later.refl _ | assumption | refine Later.drew ?_ | refine Later.drewN ?_ _ | refine Later.alloc ?_ _ | refine Later.put ?_ (by omega) _ | refine Later.trans ?_ (by assumption)))⟩
  · go_enter Try.func61, Try.ntmps61
    go_wp2_with (first | (go_at_call 94; (with_reducible refine HR.out.mono ?_); rintro e w2 ⟨rfl, hb2⟩))
    go_ret2
    exact ⟨by simp only [h0]; rfl, (by repeat' (with_reducible first | exact Later.refl _ | assumption | refine Later.drew ?_ | refine Later.drewN ?_ _ | refine Later.alloc ?_ _ | refine Later.put ?_ (by omega) _ | refine Later.trans ?_ (by assumption)))⟩
end

end Go.Proofs.Ytolddfapanabbaa
