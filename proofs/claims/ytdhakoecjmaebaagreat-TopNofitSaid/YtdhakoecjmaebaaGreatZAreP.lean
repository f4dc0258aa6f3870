/-
  place.Poly returns a polygon in memory of its own; polygon.Area2 at a polygon that passes.
-/
import Derived.Test.YtdhakoecjmaebaaGreatZPl
import Derived.Test.YtdhakoecjmaebaaGreatZTurnP
import Derived.Test.YtdhakoecjmaebaaGreatZMoveQ
import Derived.Test.YtdhakoecjmaebaaGreatZDTab
import Derived.Test.YtdhakoecjmaebaaGreatZRefT
namespace Go.Proofs.YtdhakoecjmaebaaGreat
open Go.RowKit
set_option linter.unusedSimpArgs false
set_option linter.unusedVariables false

/-- The points, in a block of the call's own. -/
def RetPtsF (ps : List Pt) (w : World) (e : Ending) (w' : World) : Prop := ∃ g c, e = .returned (.slice (some ⟨g, 0, none⟩) ps.length c) ∧ w.heap.size ≤ g ∧ ps.length ≤ c ∧ c ≤ maxLen ∧ PtsAt w' g 0 ps ∧ Later w w'
set_option maxHeartbeats 2000000 in
theorem polyline_MoveF (A : Option Addr) (c : Nat) (ps : List Pt) (dx dy : Int) (w : World) (hn : ps.length ≤ 65536) (hp : Pts w A ps) (hps : ∀ p ∈ ps, NearP 1048576 p) (hd : NearP 1048576 ⟨dx, dy⟩) :
    Calls Tryz.prog 59 #[.slice A ps.length c, .agg #[.int .i64 dx, .int .i64 dy]] w (RetPtsF (ps.map (mvP ⟨dx, dy⟩)) w) := by
  obtain ⟨i0, hi, hz0, hz1, hz2⟩ := info_parts info_spot
  have hmk := fun W => run_make_rows (P := Tryz.prog) 28 29 i0 _ Tryz.underlying28 hi hz0 ps.length (by rw [hz2]; omega) (by omega) W
  rw [hz1] at hmk
  have hms : (madeCells (Value.agg #[Value.int IntKind.i64 0, Value.int IntKind.i64 0]).cells (ps.length * 2)).size = ps.length * 2 := size_madeCells _ _
  generalize madeCells (Value.agg #[Value.int IntKind.i64 0, Value.int IntKind.i64 0]).cells (ps.length * 2) = Z at *
  clear hi hz0 hz1 hz2
  unfold NearP at hd
  simp only [] at hd
  have Hms := Lib.hid hms
  clear hms
  go_enter Tryz.func59, Tryz.ntmps59
  go_wp2
  refine name_world (fun W hW => ?_)
  have hl : Later w W := by rw [hW]; exact (by repeat' (with_reducible first | exact Later.refl _ | assumption | refine Later.drew ?_ | refine Later.drewN ?_ _ | refine Later.alloc ?_ _ | refine Later.put ?_ (by omega) _ | refine Later.trans ?_ (by assumption)))
  have B0 : Blk W w.heap.size 29 #[.int .i64 dx, .int .i64 dy] := by rw [hW]; exact (by repeat' (with_reducible first | assumption | (refine Blk.newAt ?_; simp; done) | refine Blk.alloc ?_ _ | refine Blk.drew ?_ | refine Blk.drewN ?_ _ | refine Blk.later ?_ (by assumption)))
  have hR : RowP W (w.heap.size + 1) ps.length 0 (fun i => i) (mvP ⟨dx, dy⟩) ps := by
    refine ⟨fun i => Z.getD i undef, ?_, fun i p _ h => by omega⟩
    have := World.rowIs_alloc (w.alloc (.cells #[.int .i64 dx, .int .i64 dy] 29)) Z 29 (fun i => Z.getD i undef) (fun i hi => by simp [hi])
    rw [World.size_alloc, Hms.out] at this
    rw [hW]
    exact this
  clear hW hmk
  generalize hNe : w.heap.size = N at *
  have HN := Lib.hid hNe
  clear hNe
  go_loopw [13] (fun iv wr => ∃ k : Nat, k ≤ ps.length ∧ iv = .int .i64 k ∧ Later w wr ∧ Blk wr N 29 #[.int .i64 dx, .int .i64 dy] ∧ RowP wr (N + 1) ps.length k (fun i => i) (mvP ⟨dx, dy⟩) ps) (fun iv _ => ps.length - (intOf iv).toNat)
  case atStart => exact ⟨0, by omega, rfl, hl, B0, hR⟩
  case round =>
    clear hl B0 hR
    obtain ⟨k, hk, rfl, hb, B0, hR⟩ := hrel
    by_cases hlt : k < ps.length
    · obtain ⟨b, o, rfl, e1, e2⟩ := (hp.later hb).at_ hlt
      have hbz : b < wr.heap.size := World.block_lt_of_cell? _ _ e1
      have hpk := hps _ (List.getElem_mem hlt)
      have Hk := Lib.hid (List.getElem?_eq_getElem hlt)
      generalize ps[k] = p at *
      obtain ⟨px, py⟩ := p
      unfold NearP at hpk
      simp only [] at hpk e1 e2
      obtain ⟨⟨u, v, r0, r1⟩, f0, f1, hz⟩ := hR.cell hlt
      have HR := Lib.hid hR
      have HB := Lib.hid B0
      have c0 : wr.cell? ⟨N, 0, none⟩ = some (.int .i64 dx) := B0.cell 0
      have c1 : wr.cell? ⟨N, 1, none⟩ = some (.int .i64 dy) := B0.cell 1
      have zN := B0.lt
      have hk0 : (0 : Int) ≤ (k : Int) := by omega
      have hk1 : (k : Int) < (ps.length : Int) := by omega
      clear hR B0
      go_wp2
      go_roundw
      case rel => exact ⟨k + 1, by omega, by go_num, ((hb.put (by rw [HN.out]; omega) _).put (by rw [HN.out]; omega) _).alloc _, ((HB.out.far (by omega) _).far (by omega) _).alloc _, (HR.out.put Hk.out (fun _ _ _ _ h => h) rfl rfl).alloc _⟩
      case measure => simp [intOf]; omega
    · go_wp2
      go_ret
      refine ⟨N + 1, ps.length, by simp, by rw [HN.out]; omega, by simp, by unfold maxLen; omega, fun i q hq => ?_, hb⟩
      rw [List.getElem?_map, Option.map_eq_some_iff] at hq
      obtain ⟨p, hp', rfl⟩ := hq
      obtain ⟨F, h1, h2⟩ := hR
      have hil := (List.getElem?_eq_some_iff.1 hp').1
      obtain ⟨a, b⟩ := h2 i p hp' (by omega)
      rw [Nat.zero_add, h1.cell (by omega), h1.cell (by omega), a, b]
      exact ⟨rfl, rfl⟩

set_option maxHeartbeats 1000000 in
theorem polygon_MoveF (A : Option Addr) (c : Nat) (ps : List Pt) (dx dy : Int) (w : World) (hn : ps.length ≤ 65536) (hp : Pts w A ps) (hps : ∀ p ∈ ps, NearP 1048576 p) (hd : NearP 1048576 ⟨dx, dy⟩) :
    Calls Tryz.prog 28 #[.slice A ps.length c, .agg #[.int .i64 dx, .int .i64 dy]] w (RetPtsF (ps.map (mvP ⟨dx, dy⟩)) w) := by
  have HM := Lib.hid (fun W hW => polyline_MoveF A c ps dx dy W hn hW hps hd)
  go_enter Tryz.func28, Tryz.ntmps28
  go_wp2_with (first | (go_at_call 59; (with_reducible refine (HM.out _ (hp.later (by repeat' (with_reducible first | exact Later.refl _ | assumption | refine Later.drew ?_ | refine Later.drewN ?_ _ | refine Later.alloc ?_ _ | refine Later.put ?_ (by omega) _ | refine Later.trans ?_ (by assumption))))).mono ?_); rintro e w1 ⟨g1, c1, rfl, hg, h1, h2, h3, hb1⟩))
  go_ret
  have hl : Later w w1 := (by repeat' (with_reducible first | exact Later.refl _ | assumption | refine Later.drew ?_ | refine Later.drewN ?_ _ | refine Later.alloc ?_ _ | refine Later.put ?_ (by omega) _ | refine Later.trans ?_ (by assumption)))
  exact ⟨g1, c1, by simp, by first | (simp at hg; omega) | omega, h1, h2, h3, hl⟩

/-- The polygon, in a block of the call's own. -/
def PolyF (r : List Pt) (w : World) (e : Ending) (w' : World) : Prop := ∃ g c, e = .returned (.tuple #[.slice (some ⟨g, 0, none⟩) r.length c, .int .i64 0]) ∧ w.heap.size ≤ g ∧ r.length ≤ c ∧ c ≤ maxLen ∧ PtsAt w' g 0 r ∧ Later w w'
set_option maxHeartbeats 4000000 in
theorem place_Poly_fresh (C : Option Addr) (cc : Nat) (l : List Sh) (p : Pu) (w : World) (hs : Shapes w C l) (hl : l.length ≤ 65536) (hlen : ∀ s ∈ l, s.ps.length ≤ 1099511627776) (hok : (polyR l p).2 = 0) :
    Calls Tryz.prog 9 #[.slice C l.length cc, p.agg] w (PolyF (polyR l p).1 w) := by
  have hk : p.sh.toNat < l.length ∧ ¬ (p.sh < 0 ∨ (l.length : Int) ≤ p.sh ∨ outsideB p.x p.y = true) := by
    unfold polyR at hok
    split at hok
    · cases hok
    · rename_i h; exact ⟨by omega, h⟩
  obtain ⟨hk, hnot⟩ := hk
  have hg : gs l p.sh.toNat = l[p.sh.toNat] := by rw [gs]; simp [hk]
  have hR : polyR l p = (placedPs p (l[p.sh.toNat]).ps, 0) ∧ checkI (l[p.sh.toNat]).ps = 0 ∧ checkI (placedPs p (l[p.sh.toNat]).ps) = 0 := by
    unfold polyR at hok ⊢
    rw [if_neg hnot, hg] at hok ⊢
    split at hok
    · rename_i h; exact absurd hok h
    · rename_i h
      rw [if_neg h]
      split at hok
      · rename_i h2; exact absurd hok h2
      · rename_i h2
        rw [if_neg h2]
        exact ⟨rfl, by simpa using h, by simpa using h2⟩
  obtain ⟨e, hc, hc2⟩ := hR
  rw [e]
  have hsh : p.sh = (p.sh.toNat : Int) := by omega
  have ho : outsideB p.x p.y = false := by
    rcases ho : outsideB p.x p.y with _ | _
    · rfl
    · exact absurd (.inr (.inr ho)) hnot
  have hlen := hlen _ (List.getElem_mem hk)
  clear hok e hnot hg
  generalize p.sh.toNat = k at *
  have HB := Lib.hid (fun W => place_beyond p.x p.y W)
  rw [ho] at HB
  have hnr := outside_near ho
  unfold Pu.agg
  obtain ⟨sh, fl, q, x, y⟩ := p
  simp only [] at hsh HB hnr hc2 ⊢
  subst hsh
  obtain ⟨b, o, rfl, e0, _, _, _, _, hok⟩ := hs.at_ hk
  obtain ⟨h1, h2, h3, _⟩ := hok
  generalize l[k] = s at *
  obtain ⟨pa, pc, ps, gr, mt, ax, ay⟩ := s
  simp only [] at e0 h1 h2 h3 hlen hc hc2 ⊢
  have d1 : decide ((k : Int) < 0) = false := by simp
  have d2 : decide (l.length ≤ k) = false := by simp; omega
  have hk0 : (0 : Int) ≤ (k : Int) := by omega
  have hk1 : (k : Int) < (l.length : Int) := by omega
  have hbz0 : b < w.heap.size := World.block_lt_of_cell? _ _ e0
  have HC := Lib.hid (fun W (hW : Pts W pa ps) => polygon_Check pa pc ps W hlen h1 hW)
  have hps := near_of_check hc
  have h40 := len_of_check hc
  rw [hc] at HC
  have HT := Lib.hid (fun W (hW : Pts W pa ps) => turn_Poly fl q pa pc ps W (by omega) hW hps)
  have htn := turnPs_near (f := fl) (q := q) hps
  have htl := turnPs_len fl q ps
  have HM := Lib.hid (fun A1 c1 W (hW : Pts W A1 (turnPs fl q ps)) => polygon_MoveF A1 c1 (turnPs fl q ps) x y W (by rw [htl]; omega) hW htn hnr)
  have hpl : (placedPs ⟨(k : Int), fl, q, x, y⟩ ps).length ≤ 40 := by unfold placedPs; rw [List.length_map, htl]; exact h40
  have HM' : ∀ A1 c1 W, Pts W A1 (turnPs fl q ps) → Calls Tryz.prog 28 #[.slice A1 (turnPs fl q ps).length c1, .agg #[.int .i64 x, .int .i64 y]] W (RetPtsF (placedPs ⟨(k : Int), fl, q, x, y⟩ ps) W) := fun A1 c1 W h => HM.out A1 c1 W h
  have HM2 := Lib.hid HM'
  clear HM HM' hc htn htl
  generalize placedPs ⟨(k : Int), fl, q, x, y⟩ ps = r at *
  generalize turnPs fl q ps = t at *
  have HC2 := Lib.hid (fun A1 c1 W (h1 : r.length ≤ c1) (hW : Pts W A1 r) => polygon_Check A1 c1 r W (by omega) h1 hW)
  rw [hc2] at HC2
  clear hc2
  go_enter Tryz.func9, Tryz.ntmps9
  go_upto_region 7 with (first | (go_at_call 26; (with_reducible refine (HB.out _).mono ?_); rintro e w1 ⟨rfl, hb1⟩; have e1 : w1.cell? ⟨b, o + k * 5, none⟩ = some (.slice pa ps.length pc) := hb1.cell (Later.cell ((Later.refl w).alloc _) e0); have c0 : w1.cell? ⟨w.heap.size, 0, none⟩ = some (.int .i64 k) := hb1.cell (by simp [go_sem]); have c1 : w1.cell? ⟨w.heap.size, 1, none⟩ = some (.bool fl) := hb1.cell (by simp [go_sem]); have c2 : w1.cell? ⟨w.heap.size, 2, none⟩ = some (.int .i64 q) := hb1.cell (by simp [go_sem]); have c3 : w1.cell? ⟨w.heap.size, 3, none⟩ = some (.int .i64 x) := hb1.cell (by simp [go_sem]); have c4 : w1.cell? ⟨w.heap.size, 4, none⟩ = some (.int .i64 y) := hb1.cell (by simp [go_sem]); have hbz : b < w1.heap.size := World.block_lt_of_cell? _ _ e1) | (go_at_call 27; (with_reducible refine (HC.out _ (h3.later (by repeat' (with_reducible first | exact Later.refl _ | assumption | refine Later.drew ?_ | refine Later.drewN ?_ _ | refine Later.alloc ?_ _ | refine Later.put ?_ (by omega) _ | refine Later.trans ?_ (by assumption))))).mono ?_); rintro e w2 ⟨rfl, hb2⟩))
  have hl2 : Later w w2 := (by repeat' (with_reducible first | exact Later.refl _ | assumption | refine Later.drew ?_ | refine Later.drewN ?_ _ | refine Later.alloc ?_ _ | refine Later.put ?_ (by omega) _ | refine Later.trans ?_ (by assumption)))
  have m1 := hb2.cell c1
  have m2 := hb2.cell c2
  have m3 := hb2.cell c3
  have m4 := hb2.cell c4
  have hp2 := h3.later hl2
  clear e1 c0 c1 c2 c3 c4 hb1 hb2
  go_region_held3 (fun w' : World => (∀ a : Addr, (w2.cell? a).isSome = true → w'.cell? a = w2.cell? a) ∧ Later w2 w') (first | assumption | exact keep_call (by assumption) (by assumption) | exact keep_call (by assumption) ((Later.refl _).alloc _) | exact keep_init _)
    (first | (go_at_call 17; (with_reducible refine (HT.out _ (hp2.later (by (have hk := (by assumption : _ ∧ Later w2 _).2); exact hk))).mono ?_); rintro e w3 ⟨A3, c3, rfl, g1, g2, g3, hb3⟩) | (go_at_call 28; (with_reducible refine (HM2.out _ _ _ g3).mono ?_); rintro e w4 ⟨g7, c4, rfl, gf, g4, g5, g6, hb4⟩))
  rename_i hHw
  have hl4 := hl2.trans hHw.2
  clear hHw m1 m2 m3 m4
  have g8 : Pts w4 (some ⟨g7, 0, none⟩) r := fun _ => ⟨g7, 0, rfl, g6⟩
  go_wp2_with (first | (go_at_call 27; (with_reducible refine (HC2.out _ _ _ g4 g8).mono ?_); rintro e w5 ⟨rfl, hb5⟩))
  go_ret2
  exact ⟨g7, c4, rfl, by have h23 := hl2.size; have h34 := hb3.size; first | (simp at h34; omega) | omega, g4, g5, g6.later hb5, hl4.trans hb5⟩

/- Areas. -/
theorem area_bound {ps : List Pt} (h : checkI ps = 0) : -4503599627370496 ≤ areaI ps ∧ areaI ps ≤ 4503599627370496 := by
  have h40 := len_of_check h
  have hsm := small_of_check h
  have key : ∀ (f i : Nat) (s : Int), (-35184372088832 * (f : Int) + s ≤ areaGo ps f i s ∧ areaGo ps f i s ≤ 35184372088832 * (f : Int) + s) := by
    intro f
    induction f with
    | zero => intro i s; rw [areaGo]; omega
    | succ f ih =>
      intro i s
      rw [areaGo]
      have ht := area_term (gp ps i) (gp ps ((i + 1) % ps.length)) (hsm _) (hsm _)
      have := ih (i + 1) (s + ((gp ps i).x * (gp ps ((i + 1) % ps.length)).y - (gp ps i).y * (gp ps ((i + 1) % ps.length)).x))
      omega
  have := key ps.length 0 0
  unfold areaI
  omega
set_option maxHeartbeats 1000000 in
theorem polygon_Area2 (A : Option Addr) (c : Nat) (ps : List Pt) (w : World) (hn : ps.length ≤ 1099511627776) (hcap : ps.length ≤ c) (hp : Pts w A ps) (hok : checkI ps = 0) :
    Calls Tryz.prog 14 #[.slice A ps.length c] w (Ret (.int .i64 (areaI ps)) w) := by
  have hC := polygon_Check A c ps w hn hcap hp
  have h40 := len_of_check hok
  have hsm := small_of_check hok
  rw [hok] at hC
  have h3 : 0 < ps.length := by
    unfold checkI at hok
    split at hok
    · cases hok
    · split at hok
      · cases hok
      · omega
  obtain ⟨b, o, rfl, hat⟩ := hp h3
  have HA := Lib.hid (fun W (hW : Later w W) => polygon_area b o c ps W (by omega) (hat.later hW) hsm)
  have HC := Lib.hid hC
  clear hC hok
  generalize areaI ps = n at *
  go_enter Tryz.func14, Tryz.ntmps14
  go_wp2_with (first | (go_at_call 27; (with_reducible refine HC.out.mono ?_); rintro e w1 ⟨rfl, hb1⟩) | (go_at_call 31; (with_reducible refine (HA.out _ hb1).mono ?_); rintro e w2 ⟨rfl, hb2⟩))
  go_ret
  exact ⟨rfl, hb1.trans hb2⟩

end Go.Proofs.YtdhakoecjmaebaaGreat
/-
  PlaceArea: plain facts; turn.Apply at any spot.
-/
namespace Go.Proofs.YtdhakoecjmaebaaGreat
open Go.RowKit
set_option linter.unusedSimpArgs false
set_option linter.unusedVariables false

/- The box of a polygon on the bed. -/
theorem fold_lo {bl bw : Int} : ∀ (l : List Pt) (a : Pt), (0 ≤ a.x ∧ 0 ≤ a.y) → (∀ p ∈ l, 0 ≤ p.x ∧ 0 ≤ p.y) → 0 ≤ (l.foldl loP a).x ∧ 0 ≤ (l.foldl loP a).y := by
  intro l
  induction l with
  | nil => intro a h _; exact h
  | cons q l ih =>
    intro a h hl
    have hq := hl q (List.mem_cons_self ..)
    exact ih _ (by unfold loP; simp only []; omega) fun p hp => hl p (List.mem_cons_of_mem _ hp)
theorem fold_hi {bl bw : Int} : ∀ (l : List Pt) (a : Pt), (a.x ≤ bl ∧ a.y ≤ bw) → (∀ p ∈ l, p.x ≤ bl ∧ p.y ≤ bw) → (l.foldl hiP a).x ≤ bl ∧ (l.foldl hiP a).y ≤ bw := by
  intro l
  induction l with
  | nil => intro a h _; exact h
  | cons q l ih =>
    intro a h hl
    have hq := hl q (List.mem_cons_self ..)
    exact ih _ (by unfold hiP; simp only []; omega) fun p hp => hl p (List.mem_cons_of_mem _ hp)
theorem box_on {bl bw : Int} {ps : List Pt} (h : onGo bl bw ps = true) (hn : 0 < ps.length) : 0 ≤ (loOf ps).x ∧ 0 ≤ (loOf ps).y ∧ (hiOf ps).x ≤ bl ∧ (hiOf ps).y ≤ bw := by
  have h' := onGo_iff.1 h
  have h0 := h' (gp ps 0) (by rw [gp_eq hn]; exact List.getElem_mem _)
  have a := fold_lo (bl := bl) (bw := bw) ps (gp ps 0) ⟨h0.1, h0.2.2.1⟩ fun p hp => by have := h' p hp; omega
  have b := fold_hi (bl := bl) (bw := bw) ps (gp ps 0) ⟨h0.2.1, h0.2.2.2⟩ fun p hp => by have := h' p hp; omega
  exact ⟨a.1, a.2, b.1, b.2⟩
/- The extent of a valid placement. -/
theorem extIn_le {i : Nat} {bl : Int} : ∀ (ps : List Pt) (k : Nat) (m : Int), m ≤ bl → (∀ p ∈ ps, p.x ≤ bl) → extIn i ps k m ≤ bl := by
  intro ps
  induction ps with
  | nil => intro k m hm _; exact hm
  | cons p r ih =>
    intro k m hm h
    have hp := h p (List.mem_cons_self ..)
    rw [extIn]
    refine ih _ _ ?_ fun q hq => h q (List.mem_cons_of_mem _ hq)
    split <;> omega
theorem extGo_le {l : List Sh} {bl : Int} : ∀ (puts : List Pu) (i : Nat) (m : Int), m ≤ bl → (∀ p ∈ puts, (polyR l p).2 = 0 ∧ ∀ q ∈ (polyR l p).1, q.x ≤ bl) → (extGo l puts i m).2 = 0 ∧ (extGo l puts i m).1 ≤ bl := by
  intro puts
  induction puts with
  | nil => intro i m hm _; exact ⟨rfl, hm⟩
  | cons o r ih =>
    intro i m hm h
    obtain ⟨h0, h1⟩ := h o (List.mem_cons_self ..)
    rw [ext_gx h0]
    exact ih _ _ (extIn_le _ _ _ hm h1) fun p hp => h p (List.mem_cons_of_mem _ hp)
theorem ext_valid {b : Bd} {l : List Sh} {puts : List Pu} (h : ∀ p ∈ puts, Sound b l p) : (extR l puts).2 = 0 ∧ (extR l puts).1 ≤ max b.l 0 := by
  refine extGo_le puts 0 0 (by omega) fun p hp => ?_
  obtain ⟨hb, hp0, hs⟩ := h p hp
  obtain ⟨_, hon, _⟩ := self_zero.1 hs
  exact ⟨hp0, fun q hq => by have := (onGo_iff.1 hon) q hq; omega⟩
theorem sound_ok {b : Bd} {l : List Sh} {p : Pu} (h : Sound b l p) : checkI (polyR l p).1 = 0 ∧ 3 ≤ (polyR l p).1.length ∧ (polyR l p).1.length ≤ 40 := by
  obtain ⟨hb, hp, hs⟩ := h
  obtain ⟨h1, h2, h3, h4, h5, h6⟩ := poly_zero hp
  rw [h6]
  have h40 := len_of_check h5
  refine ⟨h5, ?_, h40⟩
  unfold checkI at h5
  split at h5
  · cases h5
  · split at h5
    · cases h5
    · omega
theorem area_snoc (ps : List (List Pt)) (p : List Pt) : areaSum (ps ++ [p]) = areaSum ps + max (areaI p) (-(areaI p)) := by unfold areaSum; simp
theorem area_pos (ps : List (List Pt)) : 0 ≤ areaSum ps := by
  induction ps with
  | nil => exact Int.le_refl _
  | cons a l ih =>
    have e : areaSum (a :: l) = max (areaI a) (-(areaI a)) + areaSum l := by unfold areaSum; simp
    omega
theorem area_few : ∀ (ps : List (List Pt)), (∀ p ∈ ps, checkI p = 0) → areaSum ps ≤ 4503599627370496 * (ps.length : Int) := by
  intro ps
  induction ps with
  | nil => intro _; exact Int.le_refl _
  | cons a l ih =>
    intro h
    have h1 := area_bound (h a (List.mem_cons_self ..))
    have h2 := ih fun p hp => h p (List.mem_cons_of_mem _ hp)
    have e : areaSum (a :: l) = max (areaI a) (-(areaI a)) + areaSum l := by unfold areaSum; simp
    rw [e, List.length_cons]
    omega

/-- Some spot. -/
def RetSpot (w : World) (e : Ending) (w' : World) : Prop := ∃ x y, e = .returned (.agg #[.int .i64 x, .int .i64 y]) ∧ Later w w'
set_option maxHeartbeats 2000000 in
theorem turn_Apply_any (f : Bool) (q x y : Int) (w : World) : Calls Tryz.prog 12 #[.agg #[.bool f, .int .i64 q], .agg #[.int .i64 x, .int .i64 y]] w (RetSpot w) := by
  cases f
  · go_enter Tryz.func12, Tryz.ntmps12
    go_wp2
    refine name_world (fun W hW => ?_)
    have hl : Later w W := by rw [hW]; exact (by repeat' (with_reducible first | exact Later.refl _ | assumption | refine Later.drew ?_ | refine Later.drewN ?_ _ | refine Later.alloc ?_ _ | refine Later.put ?_ (by omega) _ | refine Later.trans ?_ (by assumption)))
    have B1 : Blk W (w.heap.size + 1) 29 #[.int .i64 x, .int .i64 y] := by rw [hW]; exact (by repeat' (with_reducible first | assumption | (refine Blk.newAt ?_; simp; done) | refine Blk.alloc ?_ _ | refine Blk.drew ?_ | refine Blk.drewN ?_ _ | refine Blk.later ?_ (by assumption)))
    have B2 : Blk W (w.heap.size + 1 + 1) 29 #[.int .i64 0, .int .i64 0] := by rw [hW]; exact (by repeat' (with_reducible first | assumption | (refine Blk.newAt ?_; simp; done) | refine Blk.alloc ?_ _ | refine Blk.drew ?_ | refine Blk.drewN ?_ _ | refine Blk.later ?_ (by assumption)))
    clear hW
    have hq := qm_bd q
    have hQ : bits BinOp.and IntKind.i64 q 3 = qm q := rfl
    obtain ⟨n, hn⟩ : ∃ n : Nat, qm q = (n : Int) := ⟨(qm q).toNat, by omega⟩
    have hn3 : n ≤ 3 := by omega
    generalize hNe : w.heap.size = N at *
    have HN := Lib.hid hNe
    clear hNe
    rw [hQ, hn]
    clear hQ hn hq
    generalize x = x0 at *
    go_loopw [14] (fun iv wr => ∃ (k : Nat) (px py : Int), k ≤ n ∧ iv = .int .i64 k ∧ Later w wr ∧ Blk wr (N + 1) 29 #[.int .i64 px, .int .i64 py] ∧ Blk wr (N + 1 + 1) 29 #[.int .i64 0, .int .i64 0]) (fun iv _ => n - (intOf iv).toNat)
    case atStart => exact ⟨0, x0, y, by omega, rfl, hl, B1, B2⟩
    case round =>
      clear B1 B2 hl
      obtain ⟨k, px, py, hk, rfl, hb, C1, C2⟩ := hrel
      have c0 : wr.cell? ⟨N + 1, 0, none⟩ = some (.int .i64 px) := C1.cell 0
      have c1 : wr.cell? ⟨N + 1, 1, none⟩ = some (.int .i64 py) := C1.cell 1
      have f0 := C1.frozen 0
      have f1 := C1.frozen 1
      have hz1 := C1.lt
      by_cases hlt : k < n
      · go_wp2
        go_roundw
        case rel => exact ⟨k + 1, _, _, by omega, by go_num, (hb.put (by rw [HN.out]; omega) _).put (by rw [HN.out]; omega) _, C1.two, (C2.far (by omega) _).far (by omega) _⟩
        case measure => simp [intOf]; omega
      · have r0 : wr.cell? ⟨N + 1 + 1, 0, none⟩ = some (.int .i64 0) := C2.cell 0
        have r1 : wr.cell? ⟨N + 1 + 1, 1, none⟩ = some (.int .i64 0) := C2.cell 1
        have e0 := C2.frozen 0
        have e1 := C2.frozen 1
        have hz2 := C2.lt
        go_wp2
        refine bodyPost_ret (v := .agg #[.int .i64 px, .int .i64 py]) (by simp [results, Tryz.results12, go_sem, r0, r1]) rfl ⟨px, py, rfl, (hb.put (by rw [HN.out]; omega) _).put (by rw [HN.out]; omega) _⟩
  · go_enter Tryz.func12, Tryz.ntmps12
    go_wp2
    refine name_world (fun W hW => ?_)
    have hl : Later w W := by rw [hW]; exact (by repeat' (with_reducible first | exact Later.refl _ | assumption | refine Later.drew ?_ | refine Later.drewN ?_ _ | refine Later.alloc ?_ _ | refine Later.put ?_ (by omega) _ | refine Later.trans ?_ (by assumption)))
    have B1 : Blk W (w.heap.size + 1) 29 #[.int .i64 (wrap64 (-x)), .int .i64 y] := by rw [hW]; exact (by repeat' (with_reducible first | assumption | (refine Blk.newAt ?_; simp; done) | refine Blk.alloc ?_ _ | refine Blk.drew ?_ | refine Blk.drewN ?_ _ | refine Blk.later ?_ (by assumption)))
    have B2 : Blk W (w.heap.size + 1 + 1) 29 #[.int .i64 0, .int .i64 0] := by rw [hW]; exact (by repeat' (with_reducible first | assumption | (refine Blk.newAt ?_; simp; done) | refine Blk.alloc ?_ _ | refine Blk.drew ?_ | refine Blk.drewN ?_ _ | refine Blk.later ?_ (by assumption)))
    clear hW
    have hq := qm_bd q
    have hQ : bits BinOp.and IntKind.i64 q 3 = qm q := rfl
    obtain ⟨n, hn⟩ : ∃ n : Nat, qm q = (n : Int) := ⟨(qm q).toNat, by omega⟩
    have hn3 : n ≤ 3 := by omega
    generalize hNe : w.heap.size = N at *
    have HN := Lib.hid hNe
    clear hNe
    rw [hQ, hn]
    clear hQ hn hq
    generalize (wrap64 (-x)) = x0 at *
    go_loopw [14] (fun iv wr => ∃ (k : Nat) (px py : Int), k ≤ n ∧ iv = .int .i64 k ∧ Later w wr ∧ Blk wr (N + 1) 29 #[.int .i64 px, .int .i64 py] ∧ Blk wr (N + 1 + 1) 29 #[.int .i64 0, .int .i64 0]) (fun iv _ => n - (intOf iv).toNat)
    case atStart => exact ⟨0, x0, y, by omega, rfl, hl, B1, B2⟩
    case round =>
      clear B1 B2 hl
      obtain ⟨k, px, py, hk, rfl, hb, C1, C2⟩ := hrel
      have c0 : wr.cell? ⟨N + 1, 0, none⟩ = some (.int .i64 px) := C1.cell 0
      have c1 : wr.cell? ⟨N + 1, 1, none⟩ = some (.int .i64 py) := C1.cell 1
      have f0 := C1.frozen 0
      have f1 := C1.frozen 1
      have hz1 := C1.lt
      by_cases hlt : k < n
      · go_wp2
        go_roundw
        case rel => exact ⟨k + 1, _, _, by omega, by go_num, (hb.put (by rw [HN.out]; omega) _).put (by rw [HN.out]; omega) _, C1.two, (C2.far (by omega) _).far (by omega) _⟩
        case measure => simp [intOf]; omega
      · have r0 : wr.cell? ⟨N + 1 + 1, 0, none⟩ = some (.int .i64 0) := C2.cell 0
        have r1 : wr.cell? ⟨N + 1 + 1, 1, none⟩ = some (.int .i64 0) := C2.cell 1
        have e0 := C2.frozen 0
        have e1 := C2.frozen 1
        have hz2 := C2.lt
        go_wp2
        refine bodyPost_ret (v := .agg #[.int .i64 px, .int .i64 py]) (by simp [results, Tryz.results12, go_sem, r0, r1]) rfl ⟨px, py, rfl, (hb.put (by rw [HN.out]; omega) _).put (by rw [HN.out]; omega) _⟩

end Go.Proofs.YtdhakoecjmaebaaGreat
