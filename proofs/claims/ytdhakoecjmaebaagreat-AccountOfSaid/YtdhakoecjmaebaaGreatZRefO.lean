/-
 The reference of layer 15: which convex polygons meet.
-/
import Derived.Test.YtdhakoecjmaebaaGreatZRefT
import Derived.Test.YtdhakoecjmaebaaGreatZDam
namespace Go.Proofs.YtdhakoecjmaebaaGreat
open Go.RowKit
set_option linter.unusedSimpArgs false
set_option linter.unusedVariables false
def beyondB (p q : Pt) : List Pt → Bool
 | [] => true
 | v :: l => if 0 < crossP p q v then false else beyondB p q l
def apartGo (p l : List Pt) : Nat → Nat → Bool
 | 0, _ => false
 | f + 1, i => if beyondB (gp p i) (gp p ((i + 1) % p.length)) l = true then true else apartGo p l f (i + 1)
def apartB (p l : List Pt) : Bool := apartGo p l p.length 0
def meetsB (p q : List Pt) : Bool := !apartB p q && !apartB q p
def someRow (t : List Pt) : List (List Pt) → Bool
 | [] => false
 | u :: l => if meetsB t u = true then true else someRow t l
def someB (b : List (List Pt)) : List (List Pt) → Bool
 | [] => false
 | t :: l => if someRow t b = true then true else someB b l
theorem beyond_false {p q : Pt} : ∀ {l : List Pt}, beyondB p q l = false ↔ ∃ v ∈ l, 0 < crossP p q v := by
 intro l
 induction l with
 | nil => simp [beyondB]
 | cons v l ih =>
  rw [beyondB]
  split
  ·rename_i h; simp [h]
  ·rename_i h; rw [ih]; simp [h]
theorem apartGo_false {p l : List Pt} : ∀ {f i : Nat}, apartGo p l f i = false ↔ ∀ k, i ≤ k → k < i + f → ∃ v ∈ l, 0 < crossP (gp p k) (gp p ((k + 1) % p.length)) v := by
 intro f
 induction f with
 | zero => intro i; exact ⟨fun _ k h1 h2 => by omega, fun _ => rfl⟩
 | succ f ih =>
  intro i
  rw [apartGo]
  split
  ·rename_i h
   refine ⟨(fun k => by cases k), fun k => ?_⟩
   have := beyond_false.2 (k i (Nat.le_refl _) (by omega))
   rw [h] at this
   cases this
  ·rename_i h
   rw [ih]
   have h' : beyondB (gp p i) (gp p ((i + 1) % p.length)) l = false := by simpa using h
   refine ⟨fun k j h1 h2 => ?_, fun k j h1 h2 => k j (by omega) (by omega)⟩
   rcases Nat.lt_or_ge i j with q | q
   ·exact k j q (by omega)
   ·rw [show j = i by omega]; exact beyond_false.1 h'
theorem apart_reaches {p l : List Pt} : apartB p l = false ↔ Reaches p l := by
 unfold apartB Reaches
 rw [apartGo_false]
 exact ⟨fun h i hi => h i (by omega) (by omega), fun h k _ hk => h k (by omega)⟩
theorem meets_contact (p q : List Pt) : meetsB p q = decide (contactI p q = 1) := by
 rw [Bool.eq_iff_iff, decide_eq_true_iff, contact_one]
 unfold meetsB
 rw [Bool.and_eq_true, Bool.not_eq_true', Bool.not_eq_true', apart_reaches, apart_reaches]
set_option maxHeartbeats 2000000 in
theorem ref15_beyond (a b : Pt) (A : Option Addr) (c : Nat) (l : List Pt) (w : World) (ha : SmP a) (hbb : SmP b) (hn : l.length ≤ 65536) (hp : Pts w A l) (hsm : AllSm l) :
  Calls Tryz.prog 232 #[.agg #[.int .i64 a.x, .int .i64 a.y], .agg #[.int .i64 b.x, .int .i64 b.y], .slice A l.length c] w (Ret (.bool (beyondB a b l)) w) := by
 go_enter Tryz.func232, Tryz.ntmps232
 go_wp2
 refine name_world (fun W hW => ?_)
 have hl : Later w W := by rw [hW]; exact (by repeat' (with_reducible first | exact .refl _ | assumption | refine .drew ?_ | refine .drewN ?_ _ | refine .alloc ?_ _ | refine .put ?_ (by omega) _ | refine .trans ?_ (by assumption)))
 have B0 : Blk W w.heap.size 29 #[.int .i64 a.x, .int .i64 a.y] := by rw [hW]; exact (by repeat' (with_reducible first | assumption | (refine Blk.newAt ?_; simp; done) | refine Blk.alloc ?_ _ | refine Blk.drew ?_ | refine Blk.drewN ?_ _ | refine Blk.later ?_ (by assumption)))
 have B1 : Blk W (w.heap.size + 1) 29 #[.int .i64 b.x, .int .i64 b.y] := by rw [hW]; exact (by repeat' (with_reducible first | assumption | (refine Blk.newAt ?_; simp; done) | refine Blk.alloc ?_ _ | refine Blk.drew ?_ | refine Blk.drewN ?_ _ | refine Blk.later ?_ (by assumption)))
 have y0 : W.cell? ⟨w.heap.size, 0, none⟩ = some (.int .i64 a.x) := B0.cell 0
 have y1 : W.cell? ⟨w.heap.size, 1, none⟩ = some (.int .i64 a.y) := B0.cell 1
 have y2 : W.cell? ⟨w.heap.size + 1, 0, none⟩ = some (.int .i64 b.x) := B1.cell 0
 have y3 : W.cell? ⟨w.heap.size + 1, 1, none⟩ = some (.int .i64 b.y) := B1.cell 1
 generalize w.heap.size = N at *
 clear hW B0 B1
 go_loopw [7] (fun ii wr => ∃ k : Nat, k ≤ l.length ∧ ii = .int .i64 k ∧ beyondB a b l = beyondB a b (l.drop k) ∧ Later W wr) (fun ii _ => l.length - (intOf ii).toNat)
 case atStart => exact ⟨0, by omega, rfl, rfl, Later.refl _⟩
 case round =>
  obtain ⟨k, hk, rfl, he, hb⟩ := hrel
  have He := Lib.hid he
  clear he
  by_cases hlt : k < l.length
  ·obtain ⟨bb, ob, rfl, e1, e2⟩ := ((hp.later hl).later hb).at_ hlt
   have hbz : bb < wr.heap.size := World.block_lt_of_cell? _ _ e1
   have z0 := hb.cell y0
   have z1 := hb.cell y1
   have z2 := hb.cell y2
   have z3 := hb.cell y3
   have Hd := Lib.hid (drop_cons l k hlt)
   have sq : SmP (l[k]) := by rw [← gp_eq hlt]; exact hsm k
   have j1 : (0 : Int) ≤ (k : Int) := by omega
   have j2 : (k : Int) < (l.length : Int) := by omega
   have hw1 : IntKind.i64.wrap ((k : Int) + 1) = (k : Int) + 1 := IntWalk.i64_in _ (by omega)
   have HP := Lib.hid (fun W => ref15_side _ _ _ _ _ _ W ha.1 ha.2 hbb.1 hbb.2 sq.1 sq.2)
   generalize l[k] = q at *
   by_cases hc : 0 < crossP a b q
   ·have d1 : decide (0 < sgn (crossI a.x a.y b.x b.y q.x q.y)) = true := by rw [(sgn_one (crossI a.x a.y b.x b.y q.x q.y)).2 hc]; rfl
    have Hn := Lib.hid (show beyondB a b l = false by rw [He.out, Hd.out, beyondB, if_pos hc])
    generalize sgn (crossI a.x a.y b.x b.y q.x q.y) = sv at *
    go_wp2
    go_region_held3 (fun w' : World => (∀ a : Addr, (wr.cell? a).isSome = true → w'.cell? a = wr.cell? a) ∧ Later wr w') (first | assumption | exact keep_call (by assumption) (by assumption) | exact keep_call (by assumption) ((Later.refl _).alloc _) | exact keep_init _ | exact ⟨Later.keeps (by assumption), by assumption⟩ | exact ⟨Later.keeps (by repeat' (with_reducible first | exact .refl _ | assumption | refine .drew ?_ | refine .drewN ?_ _ | refine .alloc ?_ _ | refine .put ?_ (by omega) _ | refine .trans ?_ (by assumption))), (by repeat' (with_reducible first | exact .refl _ | assumption | refine .drew ?_ | refine .drewN ?_ _ | refine .alloc ?_ _ | refine .put ?_ (by omega) _ | refine .trans ?_ (by assumption)))⟩) ((first | (go_at_call 237; (with_reducible refine (HP.out _).mono ?_); rintro e w2 ⟨rfl, hb2⟩)))
    all_goals
     rename_i hHw
     go_wp2
     go_ret
     exact ⟨ret_bool Hn.out.symm, hl.trans (hb.trans hHw.2)⟩
   ·have d1 : decide (0 < sgn (crossI a.x a.y b.x b.y q.x q.y)) = false := by
     rw [decide_eq_false_iff_not]
     intro h
     have := sgn_bd (crossI a.x a.y b.x b.y q.x q.y)
     exact hc ((sgn_one (crossI a.x a.y b.x b.y q.x q.y)).1 (by omega))
    have Hn := Lib.hid (show beyondB a b l = beyondB a b (l.drop (k + 1)) by rw [He.out, Hd.out, beyondB, if_neg hc])
    generalize sgn (crossI a.x a.y b.x b.y q.x q.y) = sv at *
    go_wp2
    go_region_held3 (fun w' : World => (∀ a : Addr, (wr.cell? a).isSome = true → w'.cell? a = wr.cell? a) ∧ Later wr w') (first | assumption | exact keep_call (by assumption) (by assumption) | exact keep_call (by assumption) ((Later.refl _).alloc _) | exact keep_init _ | exact ⟨Later.keeps (by assumption), by assumption⟩ | exact ⟨Later.keeps (by repeat' (with_reducible first | exact .refl _ | assumption | refine .drew ?_ | refine .drewN ?_ _ | refine .alloc ?_ _ | refine .put ?_ (by omega) _ | refine .trans ?_ (by assumption))), (by repeat' (with_reducible first | exact .refl _ | assumption | refine .drew ?_ | refine .drewN ?_ _ | refine .alloc ?_ _ | refine .put ?_ (by omega) _ | refine .trans ?_ (by assumption)))⟩) ((first | (go_at_call 237; (with_reducible refine (HP.out _).mono ?_); rintro e w2 ⟨rfl, hb2⟩)))
    all_goals
     rename_i hHw
     go_wp2
     go_roundw
     case rel => exact ⟨k + 1, by omega, by go_num, Hn.out, hb.trans hHw.2⟩
     case measure => simp [intOf]; omega
  ·go_wp2
   go_ret
   exact ⟨ret_bool (by rw [He.out, List.drop_eq_nil_of_le (by omega)]; rfl), hl.trans hb⟩
set_option maxHeartbeats 2000000 in
theorem ref15_apart (A B : Option Addr) (c d : Nat) (p l : List Pt) (w : World) (hn : p.length ≤ 65536) (hm : l.length ≤ 65536) (hp : Pts w A p) (hq : Pts w B l) (hsp : AllSm p) (hsl : AllSm l) :
  Calls Tryz.prog 217 #[.slice A p.length c, .slice B l.length d] w (Ret (.bool (apartB p l)) w) := by
 go_enter Tryz.func217, Tryz.ntmps217
 go_wp2
 go_loopw [5] (fun ii wr => ∃ k : Nat, k ≤ p.length ∧ ii = .int .i64 k ∧ apartB p l = apartGo p l (p.length - k) k ∧ Later w wr) (fun ii _ => p.length - (intOf ii).toNat)
 case atStart => exact ⟨0, by omega, rfl, rfl, Later.refl _⟩
 case round =>
  obtain ⟨k, hk, rfl, he, hb⟩ := hrel
  have He := Lib.hid he
  clear he
  by_cases hlt : k < p.length
  ·have hm1 : (k + 1) % p.length < p.length := Nat.mod_lt _ (by omega)
   obtain ⟨b, o, rfl, hat⟩ := (hp.later hb) (by omega)
   obtain ⟨e1, e2⟩ := hat.get hlt
   obtain ⟨f1, f2⟩ := hat.get hm1
   rw [← gp_eq] at e1 e2 f1 f2
   have hbz : b < wr.heap.size := World.block_lt_of_cell? _ _ e1
   have hnil : ¬ p = [] := by intro h; rw [h] at hlt; simp at hlt
   have hi0 : (0 : Int) ≤ (k : Int) := by omega
   have hi2 : (k : Int) < (p.length : Int) := by omega
   have hw1 : IntKind.i64.wrap ((k : Int) + 1) = (k : Int) + 1 := IntWalk.i64_in _ (by omega)
   have ht1 : ((k : Int) + 1).tmod (p.length : Int) = ((k : Int) + 1) % (p.length : Int) := Int.tmod_eq_emod_of_nonneg (by omega)
   have hi1 : (0 : Int) ≤ ((k : Int) + 1) % (p.length : Int) ∧ ((k : Int) + 1) % (p.length : Int) < (p.length : Int) := ⟨Int.emod_nonneg _ (by omega), Int.emod_lt_of_pos _ (by omega)⟩
   have hn1 : (((k : Int) + 1) % (p.length : Int)).toNat = (k + 1) % p.length := toNat_emod k 1 p.length
   have HB := Lib.hid (fun W (hW : Later wr W) => ref15_beyond (gp p k) (gp p ((k + 1) % p.length)) B d l W (hsp _) (hsp _) hm (hq.later (hb.trans hW)) hsl)
   have hstep : apartGo p l (p.length - k) k = if beyondB (gp p k) (gp p ((k + 1) % p.length)) l = true then true else apartGo p l (p.length - (k + 1)) (k + 1) := by
    obtain ⟨f, hf⟩ : ∃ f, p.length - k = f + 1 := ⟨p.length - k - 1, by omega⟩
    rw [hf, apartGo, show p.length - (k + 1) = f by omega]
   have Hst := Lib.hid hstep
   clear hstep
   cases hbe : beyondB (gp p k) (gp p ((k + 1) % p.length)) l with
   | true =>
    rw [hbe] at HB Hst
    clear hbe
    go_wp2
    go_region_held3 (fun w' : World => (∀ a : Addr, (wr.cell? a).isSome = true → w'.cell? a = wr.cell? a) ∧ Later wr w') (first | assumption | exact keep_call (by assumption) (by assumption) | exact keep_call (by assumption) ((Later.refl _).alloc _) | exact keep_init _ | exact ⟨Later.keeps (by assumption), by assumption⟩ | exact ⟨Later.keeps (by repeat' (with_reducible first | exact .refl _ | assumption | refine .drew ?_ | refine .drewN ?_ _ | refine .alloc ?_ _ | refine .put ?_ (by omega) _ | refine .trans ?_ (by assumption))), (by repeat' (with_reducible first | exact .refl _ | assumption | refine .drew ?_ | refine .drewN ?_ _ | refine .alloc ?_ _ | refine .put ?_ (by omega) _ | refine .trans ?_ (by assumption)))⟩) ((first | (go_at_call 232; (with_reducible refine (HB.out _ (by first | exact (Later.refl _).drew | exact (by assumption : _ ∧ Later wr _).2)).mono ?_); rintro e w2 ⟨rfl, hb2⟩)))
    all_goals
     rename_i hHw
     go_wp2
     go_ret
     exact ⟨ret_bool (by rw [He.out, Hst.out]; rfl), hb.trans hHw.2⟩
   | false =>
    rw [hbe] at HB Hst
    clear hbe
    go_wp2
    go_region_held3 (fun w' : World => (∀ a : Addr, (wr.cell? a).isSome = true → w'.cell? a = wr.cell? a) ∧ Later wr w') (first | assumption | exact keep_call (by assumption) (by assumption) | exact keep_call (by assumption) ((Later.refl _).alloc _) | exact keep_init _ | exact ⟨Later.keeps (by assumption), by assumption⟩ | exact ⟨Later.keeps (by repeat' (with_reducible first | exact .refl _ | assumption | refine .drew ?_ | refine .drewN ?_ _ | refine .alloc ?_ _ | refine .put ?_ (by omega) _ | refine .trans ?_ (by assumption))), (by repeat' (with_reducible first | exact .refl _ | assumption | refine .drew ?_ | refine .drewN ?_ _ | refine .alloc ?_ _ | refine .put ?_ (by omega) _ | refine .trans ?_ (by assumption)))⟩) ((first | (go_at_call 232; (with_reducible refine (HB.out _ (by first | exact (Later.refl _).drew | exact (by assumption : _ ∧ Later wr _).2)).mono ?_); rintro e w2 ⟨rfl, hb2⟩)))
    all_goals
     rename_i hHw
     go_wp2
     go_roundw
     case rel => exact ⟨k + 1, by omega, by go_num, by rw [He.out, Hst.out]; rfl, hb.trans hHw.2⟩
     case measure => simp [intOf]; omega
  ·go_wp2
   go_ret
   exact ⟨ret_bool (by rw [He.out, show p.length - k = 0 by omega]; rfl), hb⟩
set_option maxHeartbeats 2000000 in
theorem ref15_meets (A B : Option Addr) (c d : Nat) (p l : List Pt) (w : World) (hn : p.length ≤ 65536) (hm : l.length ≤ 65536) (hp : Pts w A p) (hq : Pts w B l) (hsp : AllSm p) (hsl : AllSm l) :
  Calls Tryz.prog 178 #[.slice A p.length c, .slice B l.length d] w (Ret (.bool (meetsB p l)) w) := by
 have H1 := Lib.hid (fun W (hW : Later w W) => ref15_apart A B c d p l W hn hm (hp.later hW) (hq.later hW) hsp hsl)
 have H2 := Lib.hid (fun W (hW : Later w W) => ref15_apart B A d c l p W hm hn (hq.later hW) (hp.later hW) hsl hsp)
 unfold meetsB
 cases h1 : apartB p l with
 | true =>
  rw [h1] at H1
  clear h1
  go_enter Tryz.func178, Tryz.ntmps178
  go_wp2_with (first
   | (go_at_call 217; (with_reducible refine (H1.out _ (by repeat' (with_reducible first | exact .refl _ | assumption | refine .drew ?_ | refine .drewN ?_ _ | refine .alloc ?_ _ | refine .put ?_ (by omega) _ | refine .trans ?_ (by assumption)))).mono ?_); rintro e w1 ⟨rfl, hb1⟩))
  go_ret
  exact ⟨ret_bool rfl, (by repeat' (with_reducible first | exact .refl _ | assumption | refine .drew ?_ | refine .drewN ?_ _ | refine .alloc ?_ _ | refine .put ?_ (by omega) _ | refine .trans ?_ (by assumption)))⟩
 | false =>
  rw [h1] at H1
  clear h1
  cases h2 : apartB l p with
  | true =>
   rw [h2] at H2
   clear h2
   go_enter Tryz.func178, Tryz.ntmps178
   go_wp2_with (first
    | (go_at_call 217; (with_reducible refine (H1.out _ (by repeat' (with_reducible first | exact .refl _ | assumption | refine .drew ?_ | refine .drewN ?_ _ | refine .alloc ?_ _ | refine .put ?_ (by omega) _ | refine .trans ?_ (by assumption)))).mono ?_); rintro e w1 ⟨rfl, hb1⟩)
    | (go_at_call 217; (with_reducible refine (H2.out _ (by repeat' (with_reducible first | exact .refl _ | assumption | refine .drew ?_ | refine .drewN ?_ _ | refine .alloc ?_ _ | refine .put ?_ (by omega) _ | refine .trans ?_ (by assumption)))).mono ?_); rintro e w2 ⟨rfl, hb2⟩))
   go_ret
   exact ⟨ret_bool rfl, (by repeat' (with_reducible first | exact .refl _ | assumption | refine .drew ?_ | refine .drewN ?_ _ | refine .alloc ?_ _ | refine .put ?_ (by omega) _ | refine .trans ?_ (by assumption)))⟩
  | false =>
   rw [h2] at H2
   clear h2
   go_enter Tryz.func178, Tryz.ntmps178
   go_wp2_with (first
    | (go_at_call 217; (with_reducible refine (H1.out _ (by repeat' (with_reducible first | exact .refl _ | assumption | refine .drew ?_ | refine .drewN ?_ _ | refine .alloc ?_ _ | refine .put ?_ (by omega) _ | refine .trans ?_ (by assumption)))).mono ?_); rintro e w1 ⟨rfl, hb1⟩)
    | (go_at_call 217; (with_reducible refine (H2.out _ (by repeat' (with_reducible first | exact .refl _ | assumption | refine .drew ?_ | refine .drewN ?_ _ | refine .alloc ?_ _ | refine .put ?_ (by omega) _ | refine .trans ?_ (by assumption)))).mono ?_); rintro e w2 ⟨rfl, hb2⟩))
   go_ret
   exact ⟨ret_bool rfl, (by repeat' (with_reducible first | exact .refl _ | assumption | refine .drew ?_ | refine .drewN ?_ _ | refine .alloc ?_ _ | refine .put ?_ (by omega) _ | refine .trans ?_ (by assumption)))⟩
end Go.Proofs.YtdhakoecjmaebaaGreat
