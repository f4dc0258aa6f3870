/-
 The reference of layer 15: Overlap and Hits.
-/
import Derived.Test.YtdhakoecjmaebaaGreatZRefO
namespace Go.Proofs.YtdhakoecjmaebaaGreat
open Go.RowKit
set_option linter.unusedSimpArgs false
set_option linter.unusedVariables false
theorem Polys.pick {w : World} {A : Option Addr} {l : List (List Pt)} (h : Polys w A l) {k : Nat} (hk : k < l.length) :
  ∃ b o A' c', A = some ⟨b, o, none⟩ ∧ w.cell? ⟨b, o + k, none⟩ = some (.slice A' (l[k]).length c') ∧ (l[k]).length ≤ c' ∧ Pts w A' (l[k]) := by
 obtain ⟨b, o, e, hx⟩ := h (by omega)
 obtain ⟨v, hv, A', c', rfl, h1, h2, h3⟩ := hx k _ (List.getElem?_eq_getElem hk)
 exact ⟨b, o, A', c', e, hv, h1, h3⟩
def SmLs (l : List (List Pt)) : Prop := ∀ t ∈ l, AllSm t ∧ t.length ≤ 40
set_option maxHeartbeats 4000000 in
theorem ref15_some (A B : Option Addr) (c d : Nat) (a b : List (List Pt)) (w : World) (hna : a.length ≤ 65536) (hnb : b.length ≤ 65536) (ha : Polys w A a) (hb0 : Polys w B b) (hsa : SmLs a) (hsb : SmLs b) :
  Calls Tryz.prog 131 #[.slice A a.length c, .slice B b.length d] w (Ret (.bool (someB b a)) w) := by
 go_enter Tryz.func131, Tryz.ntmps131
 go_wp2
 go_loopw [5] (fun ii wr => ∃ i : Nat, i ≤ a.length ∧ ii = .int .i64 i ∧ someB b a = someB b (a.drop i) ∧ Later w wr) (fun ii _ => a.length - (intOf ii).toNat)
 case atStart => exact ⟨0, by omega, rfl, rfl, Later.refl _⟩
 case round =>
  obtain ⟨i, hi, rfl, he, hb⟩ := hrel
  have He := Lib.hid he
  clear he
  by_cases hlt : i < a.length
  ·have Hd := Lib.hid (drop_cons a i hlt)
   have hst := hsa (a[i]) (List.getElem_mem hlt)
   have Hp := Lib.hid (fun W (hW : Later w W) => (ha.later hW).pick hlt)
   have i1 : (0 : Int) ≤ (i : Int) := by omega
   have i2 : (i : Int) < (a.length : Int) := by omega
   have hw1 : IntKind.i64.wrap ((i : Int) + 1) = (i : Int) + 1 := IntWalk.i64_in _ (by omega)
   generalize a[i] = t at *
   go_wp2
   go_loopw [6] (fun kk wr => ∃ k : Nat, k ≤ b.length ∧ kk = .int .i64 k ∧ someRow t b = someRow t (b.drop k) ∧ Later w wr) (fun kk _ => b.length - (intOf kk).toNat)
   case atStart => exact ⟨0, by omega, rfl, rfl, hb⟩
   case round =>
    obtain ⟨k, hk, rfl, he2, hb2⟩ := hrel
    have He2 := Lib.hid he2
    clear he2
    by_cases hlk : k < b.length
    ·obtain ⟨b1, o1, A1, c1, rfl, x1, p1, q1⟩ := Hp.out wr hb2
     obtain ⟨b2, o2, A2, c2, rfl, x2, p2, q2⟩ := (hb0.later hb2).pick hlk
     have Hd2 := Lib.hid (drop_cons b k hlk)
     have hsu := hsb (b[k]) (List.getElem_mem hlk)
     have k1 : (0 : Int) ≤ (k : Int) := by omega
     have k2 : (k : Int) < (b.length : Int) := by omega
     have hw2 : IntKind.i64.wrap ((k : Int) + 1) = (k : Int) + 1 := IntWalk.i64_in _ (by omega)
     generalize b[k] = u at *
     have HM := Lib.hid (fun W (hW : Later wr W) => ref15_meets A1 A2 c1 c2 t u W (by omega) (by omega) (q1.later hW) (q2.later hW) hst.1 hsu.1)
     cases hme : meetsB t u with
     | true =>
      rw [hme] at HM
      have Hr := Lib.hid (show someB b a = true by rw [He.out, Hd.out, someB, He2.out, Hd2.out, someRow, if_pos hme, if_pos rfl])
      clear hme
      go_wp2
      go_region_held3 (fun w' : World => (∀ a : Addr, (wr.cell? a).isSome = true → w'.cell? a = wr.cell? a) ∧ Later wr w') (first | assumption | exact keep_call (by assumption) (by assumption) | exact keep_call (by assumption) ((Later.refl _).alloc _) | exact keep_init _ | exact ⟨Later.keeps (by assumption), by assumption⟩ | exact ⟨Later.keeps (by repeat' (with_reducible first | exact .refl _ | assumption | refine .drew ?_ | refine .drewN ?_ _ | refine .alloc ?_ _ | refine .put ?_ (by omega) _ | refine .trans ?_ (by assumption))), (by repeat' (with_reducible first | exact .refl _ | assumption | refine .drew ?_ | refine .drewN ?_ _ | refine .alloc ?_ _ | refine .put ?_ (by omega) _ | refine .trans ?_ (by assumption)))⟩) ((first | (go_at_call 178; (with_reducible refine (HM.out _ (by first | exact (Later.refl _).drew | exact (by assumption : _ ∧ Later wr _).2)).mono ?_); rintro e w2 ⟨rfl, hb3⟩)))
      all_goals
       rename_i hHw
       go_wp2
       go_ret
       exact ⟨ret_bool Hr.out.symm, hb2.trans hHw.2⟩
     | false =>
      rw [hme] at HM
      have Hr := Lib.hid (show someRow t b = someRow t (b.drop (k + 1)) by rw [He2.out, Hd2.out, someRow, hme]; rfl)
      clear hme
      go_wp2
      go_region_held3 (fun w' : World => (∀ a : Addr, (wr.cell? a).isSome = true → w'.cell? a = wr.cell? a) ∧ Later wr w') (first | assumption | exact keep_call (by assumption) (by assumption) | exact keep_call (by assumption) ((Later.refl _).alloc _) | exact keep_init _ | exact ⟨Later.keeps (by assumption), by assumption⟩ | exact ⟨Later.keeps (by repeat' (with_reducible first | exact .refl _ | assumption | refine .drew ?_ | refine .drewN ?_ _ | refine .alloc ?_ _ | refine .put ?_ (by omega) _ | refine .trans ?_ (by assumption))), (by repeat' (with_reducible first | exact .refl _ | assumption | refine .drew ?_ | refine .drewN ?_ _ | refine .alloc ?_ _ | refine .put ?_ (by omega) _ | refine .trans ?_ (by assumption)))⟩) ((first | (go_at_call 178; (with_reducible refine (HM.out _ (by first | exact (Later.refl _).drew | exact (by assumption : _ ∧ Later wr _).2)).mono ?_); rintro e w2 ⟨rfl, hb3⟩)))
      all_goals
       rename_i hHw
       go_wp2
       go_roundw
       case rel => exact ⟨k + 1, by omega, by go_num, Hr.out, hb2.trans hHw.2⟩
       case measure => simp [intOf]; omega
    ·have Hr := Lib.hid (show someB b a = someB b (a.drop (i + 1)) by
      rw [He.out, Hd.out, someB, He2.out, List.drop_eq_nil_of_le (by omega)]; rfl)
     go_wp2
     go_roundw
     case rel => exact ⟨i + 1, by omega, by go_num, Hr.out, hb2⟩
     case measure => simp [intOf]; omega
  ·go_wp2
   go_ret
   exact ⟨ret_bool (by rw [He.out, List.drop_eq_nil_of_le (by omega)]; rfl), hb⟩
theorem someRow_iff {t : List Pt} : ∀ {l : List (List Pt)}, someRow t l = true ↔ ∃ u ∈ l, contactI t u = 1 := by
 intro l
 induction l with
 | nil => simp [someRow]
 | cons u l ih =>
  rw [someRow, meets_contact]
  split
  ·rename_i h; simp at h; simp [h]
  ·rename_i h; simp at h; rw [ih]; simp [h]
theorem some_iff {b : List (List Pt)} : ∀ {l : List (List Pt)}, someB b l = true ↔ ∃ t ∈ l, ∃ u ∈ b, contactI t u = 1 := by
 intro l
 induction l with
 | nil => simp [someB]
 | cons t l ih =>
  rw [someB]
  split
  ·rename_i h
   rw [someRow_iff] at h
   simp only [true_iff]
   obtain ⟨u, hu, hc⟩ := h
   exact ⟨t, by simp, u, hu, hc⟩
  ·rename_i h
   rw [ih]
   constructor
   ·rintro ⟨x, hx, hu⟩; exact ⟨x, List.mem_cons_of_mem _ hx, hu⟩
   ·rintro ⟨x, hx, hu⟩
    rcases List.mem_cons.1 hx with rfl | hx
    ·exact absurd (someRow_iff.2 hu) h
    ·exact ⟨x, hx, hu⟩
def roverR (a b : List Pt) : Bool × Int := if checkI a ≠ 0 then (false, checkI a) else if checkI b ≠ 0 then (false, checkI b) else (someB (splitR b).1 (splitR a).1, 0)
theorem splitR_sml (ps : List Pt) : SmLs (splitR ps).1 := splitR_sm ps
set_option maxHeartbeats 2000000 in
theorem ref15_check (A B : Option Addr) (c d : Nat) (a b : List Pt) (w : World) (hna : a.length ≤ 1099511627776) (hnb : b.length ≤ 1099511627776) (hca : a.length ≤ c) (hcb : b.length ≤ d) (ha : Pts w A a) (hb : Pts w B b) :
  Calls Tryz.prog 129 #[.slice A a.length c, .slice B b.length d] w (Ret (.int .i64 (if checkI a ≠ 0 then checkI a else checkI b)) w) := by
 have H1 := Lib.hid (fun W (hW : Later w W) => ref11_Check A c a W hna hca (ha.later hW))
 have H2 := Lib.hid (fun W (hW : Later w W) => ref11_Check B d b W hnb hcb (hb.later hW))
 rw [rcheck_eq] at H1 H2
 generalize checkI a = e1 at *
 generalize checkI b = e2 at *
 by_cases h : e1 = 0
 ·subst h
  rw [if_neg (by simp)]
  go_enter Tryz.func129, Tryz.ntmps129
  go_wp2_with (first
   | (go_at_call 135; (with_reducible refine (H1.out _ (by repeat' (with_reducible first | exact .refl _ | assumption | refine .drew ?_ | refine .drewN ?_ _ | refine .alloc ?_ _ | refine .put ?_ (by omega) _ | refine .trans ?_ (by assumption)))).mono ?_); rintro e w1 ⟨rfl, hb1⟩)
   | (go_at_call 135; (with_reducible refine (H2.out _ (by repeat' (with_reducible first | exact .refl _ | assumption | refine .drew ?_ | refine .drewN ?_ _ | refine .alloc ?_ _ | refine .put ?_ (by omega) _ | refine .trans ?_ (by assumption)))).mono ?_); rintro e w2 ⟨rfl, hb2⟩))
  go_ret
  exact ⟨rfl, (by repeat' (with_reducible first | exact .refl _ | assumption | refine .drew ?_ | refine .drewN ?_ _ | refine .alloc ?_ _ | refine .put ?_ (by omega) _ | refine .trans ?_ (by assumption)))⟩
 ·rw [if_pos h]
  have h0 : (e1 != 0) = true := by simpa using h
  go_enter Tryz.func129, Tryz.ntmps129
  go_wp2_with (first
   | (go_at_call 135; (with_reducible refine (H1.out _ (by repeat' (with_reducible first | exact .refl _ | assumption | refine .drew ?_ | refine .drewN ?_ _ | refine .alloc ?_ _ | refine .put ?_ (by omega) _ | refine .trans ?_ (by assumption)))).mono ?_); rintro e w1 ⟨rfl, hb1⟩))
  go_ret
  exact ⟨rfl, (by repeat' (with_reducible first | exact .refl _ | assumption | refine .drew ?_ | refine .drewN ?_ _ | refine .alloc ?_ _ | refine .put ?_ (by omega) _ | refine .trans ?_ (by assumption)))⟩
theorem reachGo_le' (a b : List Pt) : ∀ f i m, m ≤ 1 → reachGo a b f i m ≤ 1 := by
 intro f
 induction f with
 | zero => intro i m h; exact h
 | succ f ih =>
  intro i m h
  rw [reachGo]
  exact ih _ _ (by omega)
theorem contact_le' (a b : List Pt) : contactI a b ≤ 1 := by
 unfold contactI reachI
 have := reachGo_le' a b a.length 0 1 (by omega)
 omega
theorem relRow_one' (s : List Pt) : ∀ (l : List (List Pt)) (m : Int), m ≤ 1 → relRow s l m ≤ 1 ∧ (relRow s l m = 1 ↔ m = 1 ∨ ∃ t ∈ l, contactI s t = 1) := by
 intro l
 induction l with
 | nil => intro m h; exact ⟨h, by simp [relRow]⟩
 | cons t l ih =>
  intro m h
  have hc := contact_le' s t
  obtain ⟨h1, h2⟩ := ih (max m (contactI s t)) (by omega)
  rw [relRow]
  refine ⟨h1, h2.trans ?_⟩
  constructor
  ·rintro (hh | ⟨u, hu, hc1⟩)
   ·rcases Int.le_total m (contactI s t) with k | k
    ·exact .inr ⟨t, List.mem_cons_self .., by omega⟩
    ·exact .inl (by omega)
   ·exact .inr ⟨u, List.mem_cons_of_mem _ hu, hc1⟩
  ·rintro (hh | ⟨u, hu, hc1⟩)
   ·exact .inl (by omega)
   ·rcases List.mem_cons.1 hu with rfl | hu
    ·exact .inl (by omega)
    ·exact .inr ⟨u, hu, hc1⟩
theorem relGo_one' (ts : List (List Pt)) : ∀ (l : List (List Pt)) (m : Int), m ≤ 1 → (relGo ts l m = 1 ↔ m = 1 ∨ ∃ s ∈ l, ∃ t ∈ ts, contactI s t = 1) := by
 intro l
 induction l with
 | nil => intro m h; simp [relGo]
 | cons s l ih =>
  intro m h
  obtain ⟨h1, h2⟩ := relRow_one' s ts m h
  rw [relGo, ih _ h1, h2]
  constructor
  ·rintro ((hh | ⟨t, ht, hc⟩) | ⟨u, hu, t, ht, hc⟩)
   ·exact .inl hh
   ·exact .inr ⟨s, List.mem_cons_self .., t, ht, hc⟩
   ·exact .inr ⟨u, List.mem_cons_of_mem _ hu, t, ht, hc⟩
  ·rintro (hh | ⟨u, hu, t, ht, hc⟩)
   ·exact .inl (.inl hh)
   ·rcases List.mem_cons.1 hu with rfl | hu
    ·exact .inl (.inr ⟨t, ht, hc⟩)
    ·exact .inr ⟨u, hu, t, ht, hc⟩
set_option maxHeartbeats 2000000 in
theorem ref15_Overlap (A B : Option Addr) (c d : Nat) (a b : List Pt) (w : World) (hna : a.length ≤ 1099511627776) (hnb : b.length ≤ 1099511627776) (hca : a.length ≤ c) (hcb : b.length ≤ d) (ha : Pts w A a) (hb : Pts w B b) :
  Calls Tryz.prog 84 #[.slice A a.length c, .slice B b.length d] w (Ret (.tuple #[.bool (roverR a b).1, .int .i64 (roverR a b).2]) w) := by
 have HC := Lib.hid (fun W (hW : Later w W) => ref15_check A B c d a b W hna hnb hca hcb (ha.later hW) (hb.later hW))
 unfold roverR
 by_cases h1 : checkI a = 0
 ·rw [if_neg (by simpa using h1)] at HC ⊢
  by_cases h2 : checkI b = 0
  ·rw [if_neg (by simpa using h2)]
   rw [h2] at HC
   have HA := Lib.hid (fun W (hW : Later w W) => ref13_Split A c a W hna hca (ha.later hW))
   have HB := Lib.hid (fun W (hW : Later w W) => ref13_Split B d b W hnb hcb (hb.later hW))
   have sa := splitR_sml a
   have sb := splitR_sml b
   have la : (splitR a).1.length ≤ 65536 := by have := splitR_cnt a; omega
   have lb : (splitR b).1.length ≤ 65536 := by have := splitR_cnt b; omega
   generalize splitR a = ra at *
   generalize splitR b = rb at *
   obtain ⟨ta, ea⟩ := ra
   obtain ⟨tb, eb⟩ := rb
   have HS := Lib.hid (fun (X Y : Option Addr) (cx cy : Nat) W (hx : Polys W X ta) (hy : Polys W Y tb) => ref15_some X Y cx cy ta tb W la lb hx hy sa sb)
   clear h1 h2
   simp only []
   unfold SplitPost2 at HA HB
   simp only [] at HA HB
   go_enter Tryz.func84, Tryz.ntmps84
   go_wp2_with (first
    | (go_at_call 129; (with_reducible refine (HC.out _ (by repeat' (with_reducible first | exact .refl _ | assumption | refine .drew ?_ | refine .drewN ?_ _ | refine .alloc ?_ _ | refine .put ?_ (by omega) _ | refine .trans ?_ (by assumption)))).mono ?_); rintro e w1 ⟨rfl, hb1⟩)
    | (go_at_call 130; (with_reducible refine (HA.out _ (by repeat' (with_reducible first | exact .refl _ | assumption | refine .drew ?_ | refine .drewN ?_ _ | refine .alloc ?_ _ | refine .put ?_ (by omega) _ | refine .trans ?_ (by assumption)))).mono ?_); rintro e w2 ⟨X, cx, rfl, p1, p2, hb2⟩)
    | (go_at_call 130; (with_reducible refine (HB.out _ (by repeat' (with_reducible first | exact .refl _ | assumption | refine .drew ?_ | refine .drewN ?_ _ | refine .alloc ?_ _ | refine .put ?_ (by omega) _ | refine .trans ?_ (by assumption)))).mono ?_); rintro e w3 ⟨Y, cy, rfl, r1, r2, hb3⟩)
    | (go_at_call 131; (with_reducible refine (HS.out X Y cx cy _ (p2.later (by repeat' (with_reducible first | exact .refl _ | assumption | refine .drew ?_ | refine .drewN ?_ _ | refine .alloc ?_ _ | refine .put ?_ (by omega) _ | refine .trans ?_ (by assumption)))) (r2.later (by repeat' (with_reducible first | exact .refl _ | assumption | refine .drew ?_ | refine .drewN ?_ _ | refine .alloc ?_ _ | refine .put ?_ (by omega) _ | refine .trans ?_ (by assumption))))).mono ?_); rintro e w4 ⟨rfl, hb4⟩))
   go_ret2
   exact ⟨rfl, (by repeat' (with_reducible first | exact .refl _ | assumption | refine .drew ?_ | refine .drewN ?_ _ | refine .alloc ?_ _ | refine .put ?_ (by omega) _ | refine .trans ?_ (by assumption)))⟩
  ·rw [if_pos h2]
   generalize checkI b = e0 at *
   have h0 : (e0 != 0) = true := by simpa using h2
   simp only []
   go_enter Tryz.func84, Tryz.ntmps84
   go_wp2_with (first
    | (go_at_call 129; (with_reducible refine (HC.out _ (by repeat' (with_reducible first | exact .refl _ | assumption | refine .drew ?_ | refine .drewN ?_ _ | refine .alloc ?_ _ | refine .put ?_ (by omega) _ | refine .trans ?_ (by assumption)))).mono ?_); rintro e w1 ⟨rfl, hb1⟩))
   go_ret2
   exact ⟨rfl, (by repeat' (with_reducible first | exact .refl _ | assumption | refine .drew ?_ | refine .drewN ?_ _ | refine .alloc ?_ _ | refine .put ?_ (by omega) _ | refine .trans ?_ (by assumption)))⟩
 ·rw [if_pos h1] at HC ⊢
  generalize checkI a = e0 at *
  have h0 : (e0 != 0) = true := by simpa using h1
  simp only []
  go_enter Tryz.func84, Tryz.ntmps84
  go_wp2_with (first
   | (go_at_call 129; (with_reducible refine (HC.out _ (by repeat' (with_reducible first | exact .refl _ | assumption | refine .drew ?_ | refine .drewN ?_ _ | refine .alloc ?_ _ | refine .put ?_ (by omega) _ | refine .trans ?_ (by assumption)))).mono ?_); rintro e w1 ⟨rfl, hb1⟩))
  go_ret2
  exact ⟨rfl, (by repeat' (with_reducible first | exact .refl _ | assumption | refine .drew ?_ | refine .drewN ?_ _ | refine .alloc ?_ _ | refine .put ?_ (by omega) _ | refine .trans ?_ (by assumption)))⟩
theorem rover_eq (a b : List Pt) : roverR a b = overR a b := by
 by_cases h1 : checkI a = 0
 ·by_cases h2 : checkI b = 0
  ·simp only [roverR, overR, relationR, splitR_err, h1, h2, ne_eq, not_true_eq_false, if_false, beq_self_eq_true, Bool.true_and, Prod.mk.injEq, and_true]
   rw [Bool.eq_iff_iff, some_iff, beq_iff_eq, relGo_one' _ _ (-1) (by omega)]
   constructor
   ·rintro ⟨t, ht, u, hu, hc⟩; exact .inr ⟨t, ht, u, hu, hc⟩
   ·rintro (h | ⟨t, ht, u, hu, hc⟩)
    ·omega
    ·exact ⟨t, ht, u, hu, hc⟩
  ·simp [roverR, overR, relationR, splitR_err, h1, h2]
 ·simp [roverR, overR, relationR, splitR_err, h1]
end Go.Proofs.YtdhakoecjmaebaaGreat
