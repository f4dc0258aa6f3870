/-
  PlaceArea: plain facts; turn.Apply at any spot.
-/
import Derived.Test.YtinjdlnikhcbfaaTurnQ
import Derived.Test.YtinjdlnikhcbfaaPolyF
import Derived.Test.YtinjdlnikhcbfaaEx30
import Derived.Test.YtinjdlnikhcbfaaRefT
namespace Go.Proofs.Ytinjdlnikhcbfaa
open Go.RowKit
set_option linter.unusedSimpArgs false
set_option linter.unusedVariables false

/- The box of a polygon on the bed. -/
theorem fold_lo {bl bw : Int} : ∀ (l : List Pt) (a : Pt), (0 ≤ a.x ∧ 0 ≤ a.y) → (∀ p ∈ l, 0 ≤ p.x ∧ 0 ≤ p.y) → 0 ≤ (l.foldl loP a).x ∧ 0 ≤ (l.foldl loP a).y := by
  intro l
  induction l with
  | nil => intro a h _; exact h
  | cons q l ih =>
    intro a h hl
    have hq := hl q (List.mem_cons_self ..)
    exact ih _ (by unfold loP; simp only []; omega) fun p hp => hl p (List.mem_cons_of_mem _ hp)
theorem fold_hi {bl bw : Int} : ∀ (l : List Pt) (a : Pt), (a.x ≤ bl ∧ a.y ≤ bw) → (∀ p ∈ l, p.x ≤ bl ∧ p.y ≤ bw) → (l.foldl hiP a).x ≤ bl ∧ (l.foldl hiP a).y ≤ bw := by
  intro l
  induction l with
  | nil => intro a h _; exact h
  | cons q l ih =>
    intro a h hl
    have hq := hl q (List.mem_cons_self ..)
    exact ih _ (by unfold hiP; simp only []; omega) fun p hp => hl p (List.mem_cons_of_mem _ hp)
theorem box_on {bl bw : Int} {ps : List Pt} (h : onGo bl bw ps = true) (hn : 0 < ps.length) : 0 ≤ (loOf ps).x ∧ 0 ≤ (loOf ps).y ∧ (hiOf ps).x ≤ bl ∧ (hiOf ps).y ≤ bw := by
  have h' := onGo_iff.1 h
  have h0 := h' (gp ps 0) (by rw [gp_eq hn]; exact List.getElem_mem _)
  have a := fold_lo (bl := bl) (bw := bw) ps (gp ps 0) ⟨h0.1, h0.2.2.1⟩ fun p hp => by have := h' p hp; omega
  have b := fold_hi (bl := bl) (bw := bw) ps (gp ps 0) ⟨h0.2.1, h0.2.2.2⟩ fun p hp => by have := h' p hp; omega
  exact ⟨a.1, a.2, b.1, b.2⟩
/- The extent of a valid placement. -/
theorem extIn_le {i : Nat} {bl : Int} : ∀ (ps : List Pt) (k : Nat) (m : Int), m ≤ bl → (∀ p ∈ ps, p.x ≤ bl) → extIn i ps k m ≤ bl := by
  intro ps
  induction ps with
  | nil => intro k m hm _; exact hm
  | cons p r ih =>
    intro k m hm h
    have hp := h p (List.mem_cons_self ..)
    rw [extIn]
    refine ih _ _ ?_ fun q hq => h q (List.mem_cons_of_mem _ hq)
    split <;> omega
theorem extGo_le {l : List Sh} {bl : Int} : ∀ (puts : List Pu) (i : Nat) (m : Int), m ≤ bl → (∀ p ∈ puts, (polyR l p).2 = 0 ∧ ∀ q ∈ (polyR l p).1, q.x ≤ bl) → (extGo l puts i m).2 = 0 ∧ (extGo l puts i m).1 ≤ bl := by
  intro puts
  induction puts with
  | nil => intro i m hm _; exact ⟨rfl, hm⟩
  | cons o r ih =>
    intro i m hm h
    obtain ⟨h0, h1⟩ := h o (List.mem_cons_self ..)
    rw [ext_go h0]
    exact ih _ _ (extIn_le _ _ _ hm h1) fun p hp => h p (List.mem_cons_of_mem _ hp)
theorem ext_valid {b : Bd} {l : List Sh} {puts : List Pu} (h : ∀ p ∈ puts, Sound b l p) : (extR l puts).2 = 0 ∧ (extR l puts).1 ≤ max b.l 0 := by
  refine extGo_le puts 0 0 (by omega) fun p hp => ?_
  obtain ⟨hb, hp0, hs⟩ := h p hp
  obtain ⟨_, hon, _⟩ := self_zero.1 hs
  exact ⟨hp0, fun q hq => by have := (onGo_iff.1 hon) q hq; omega⟩
/-- Overlap does not ask for the order. -/
theorem over_swap {a b : List Pt} (ha : checkI a = 0) (hb : checkI b = 0) (h : (overR a b).1 = false) : (overR b a).1 = false := by
  rcases hx : (overR b a).1 with _ | _
  · rfl
  · obtain ⟨q, ⟨h1, h2⟩, _, _⟩ := both_of hb ha hx [] []
    exact absurd ⟨h2, h1⟩ (not_both ha hb h q)
theorem sound_ok {b : Bd} {l : List Sh} {p : Pu} (h : Sound b l p) : checkI (polyR l p).1 = 0 ∧ 3 ≤ (polyR l p).1.length ∧ (polyR l p).1.length ≤ 40 := by
  obtain ⟨hb, hp, hs⟩ := h
  obtain ⟨h1, h2, h3, h4, h5, h6⟩ := poly_zero hp
  rw [h6]
  have h40 := len_of_check h5
  refine ⟨h5, ?_, h40⟩
  unfold checkI at h5
  split at h5
  · cases h5
  · split at h5
    · cases h5
    · omega
theorem area_snoc (ps : List (List Pt)) (p : List Pt) : areaSum (ps ++ [p]) = areaSum ps + max (areaI p) (-(areaI p)) := by unfold areaSum; simp
theorem area_pos (ps : List (List Pt)) : 0 ≤ areaSum ps := by
  induction ps with
  | nil => exact Int.le_refl _
  | cons a l ih =>
    have e : areaSum (a :: l) = max (areaI a) (-(areaI a)) + areaSum l := by unfold areaSum; simp
    omega
theorem area_few : ∀ (ps : List (List Pt)), (∀ p ∈ ps, checkI p = 0) → areaSum ps ≤ 4503599627370496 * (ps.length : Int) := by
  intro ps
  induction ps with
  | nil => intro _; exact Int.le_refl _
  | cons a l ih =>
    intro h
    have h1 := area_bound (h a (List.mem_cons_self ..))
    have h2 := ih fun p hp => h p (List.mem_cons_of_mem _ hp)
    have e : areaSum (a :: l) = max (areaI a) (-(areaI a)) + areaSum l := by unfold areaSum; simp
    rw [e, List.length_cons]
    omega

/-- Some spot. -/
def RetSpot (w : World) (e : Ending) (w' : World) : Prop := ∃ x y, e = .returned (.agg #[.int .i64 x, .int .i64 y]) ∧ Later w w'
set_option maxHeartbeats 2000000 in
theorem turn_Apply_any (f : Bool) (q x y : Int) (w : World) : Calls Try.prog 40 #[.agg #[.bool f, .int .i64 q], .agg #[.int .i64 x, .int .i64 y]] w (RetSpot w) := by
  cases f
  · go_enter Try.func40, Try.ntmps40
    go_wp2
    refine name_world (fun W hW => ?_)
    have hl : Later w W := by rw [hW]; exact (by repeat' (with_reducible first | exact Later.refl _ | assumption | refine Later.drew ?_ | refine Later.drewN ?_ _ | refine Later.alloc ?_ _ | refine Later.put ?_ (by omega) _ | refine Later.trans ?_ (by assumption)))
    have B1 : Blk W (w.heap.size + 1) 86 #[.int .i64 x, .int .i64 y] := by rw [hW]; exact (by repeat' (with_reducible first | assumption | (refine Blk.newAt ?_; simp; done) | refine Blk.alloc ?_ _ | refine Blk.drew ?_ | refine Blk.drewN ?_ _ | refine Blk.later ?_ (by assumption)))
    have B2 : Blk W (w.heap.size + 1 + 1) 86 #[.int .i64 0, .int .i64 0] := by rw [hW]; exact (by repeat' (with_reducible first | assumption | (refine Blk.newAt ?_; simp; done) | refine Blk.alloc ?_ _ | refine Blk.drew ?_ | refine Blk.drewN ?_ _ | refine Blk.later ?_ (by assumption)))
    clear hW
    have hq := qm_bd q
    have hQ : bits BinOp.and IntKind.i64 q 3 = qm q := rfl
    obtain ⟨n, hn⟩ : ∃ n : Nat, qm q = (n : Int) := ⟨(qm q).toNat, by omega⟩
    have hn3 : n ≤ 3 := by omega
    generalize hNe : w.heap.size = N at *
    have HN := Lib.hid hNe
    clear hNe
    rw [hQ, hn]
    clear hQ hn hq
    generalize x = x0 at *
    go_loopw [14] (fun iv wr => ∃ (k : Nat) (px py : Int), k ≤ n ∧ iv = .int .i64 k ∧ Later w wr ∧ Blk wr (N + 1) 86 #[.int .i64 px, .int .i64 py] ∧ Blk wr (N + 1 + 1) 86 #[.int .i64 0, .int .i64 0]) (fun iv _ => n - (intOf iv).toNat)
    case atStart => exact ⟨0, x0, y, by omega, rfl, hl, B1, B2⟩
    case round =>
      clear B1 B2 hl
      obtain ⟨k, px, py, hk, rfl, hb, C1, C2⟩ := hrel
      have c0 : wr.cell? ⟨N + 1, 0, none⟩ = some (.int .i64 px) := C1.cell 0
      have c1 : wr.cell? ⟨N + 1, 1, none⟩ = some (.int .i64 py) := C1.cell 1
      have f0 := C1.frozen 0
      have f1 := C1.frozen 1
      have hz1 := C1.lt
      by_cases hlt : k < n
      · go_wp2
        go_roundw
        case rel => exact ⟨k + 1, _, _, by omega, by go_num, (hb.put (by rw [HN.out]; omega) _).put (by rw [HN.out]; omega) _, C1.two, (C2.far (by omega) _).far (by omega) _⟩
        case measure => simp [intOf]; omega
      · have r0 : wr.cell? ⟨N + 1 + 1, 0, none⟩ = some (.int .i64 0) := C2.cell 0
        have r1 : wr.cell? ⟨N + 1 + 1, 1, none⟩ = some (.int .i64 0) := C2.cell 1
        have e0 := C2.frozen 0
        have e1 := C2.frozen 1
        have hz2 := C2.lt
        go_wp2
        refine bodyPost_ret (v := .agg #[.int .i64 px, .int .i64 py]) (by simp [results, Try.results40, go_sem, r0, r1]) rfl ⟨px, py, rfl, (hb.put (by rw [HN.out]; omega) _).put (by rw [HN.out]; omega) _⟩
  · go_enter Try.func40, Try.ntmps40
    go_wp2
    refine name_world (fun W hW => ?_)
    have hl : Later w W := by rw [hW]; exact (by repeat' (with_reducible first | exact Later.refl _ | assumption | refine Later.drew ?_ | refine Later.drewN ?_ _ | refine Later.alloc ?_ _ | refine Later.put ?_ (by omega) _ | refine Later.trans ?_ (by assumption)))
    have B1 : Blk W (w.heap.size + 1) 86 #[.int .i64 (wrap64 (-x)), .int .i64 y] := by rw [hW]; exact (by repeat' (with_reducible first | assumption | (refine Blk.newAt ?_; simp; done) | refine Blk.alloc ?_ _ | refine Blk.drew ?_ | refine Blk.drewN ?_ _ | refine Blk.later ?_ (by assumption)))
    have B2 : Blk W (w.heap.size + 1 + 1) 86 #[.int .i64 0, .int .i64 0] := by rw [hW]; exact (by repeat' (with_reducible first | assumption | (refine Blk.newAt ?_; simp; done) | refine Blk.alloc ?_ _ | refine Blk.drew ?_ | refine Blk.drewN ?_ _ | refine Blk.later ?_ (by assumption)))
    clear hW
    have hq := qm_bd q
    have hQ : bits BinOp.and IntKind.i64 q 3 = qm q := rfl
    obtain ⟨n, hn⟩ : ∃ n : Nat, qm q = (n : Int) := ⟨(qm q).toNat, by omega⟩
    have hn3 : n ≤ 3 := by omega
    generalize hNe : w.heap.size = N at *
    have HN := Lib.hid hNe
    clear hNe
    rw [hQ, hn]
    clear hQ hn hq
    generalize (wrap64 (-x)) = x0 at *
    go_loopw [14] (fun iv wr => ∃ (k : Nat) (px py : Int), k ≤ n ∧ iv = .int .i64 k ∧ Later w wr ∧ Blk wr (N + 1) 86 #[.int .i64 px, .int .i64 py] ∧ Blk wr (N + 1 + 1) 86 #[.int .i64 0, .int .i64 0]) (fun iv _ => n - (intOf iv).toNat)
    case atStart => exact ⟨0, x0, y, by omega, rfl, hl, B1, B2⟩
    case round =>
      clear B1 B2 hl
      obtain ⟨k, px, py, hk, rfl, hb, C1, C2⟩ := hrel
      have c0 : wr.cell? ⟨N + 1, 0, none⟩ = some (.int .i64 px) := C1.cell 0
      have c1 : wr.cell? ⟨N + 1, 1, none⟩ = some (.int .i64 py) := C1.cell 1
      have f0 := C1.frozen 0
      have f1 := C1.frozen 1
      have hz1 := C1.lt
      by_cases hlt : k < n
      · go_wp2
        go_roundw
        case rel => exact ⟨k + 1, _, _, by omega, by go_num, (hb.put (by rw [HN.out]; omega) _).put (by rw [HN.out]; omega) _, C1.two, (C2.far (by omega) _).far (by omega) _⟩
        case measure => simp [intOf]; omega
      · have r0 : wr.cell? ⟨N + 1 + 1, 0, none⟩ = some (.int .i64 0) := C2.cell 0
        have r1 : wr.cell? ⟨N + 1 + 1, 1, none⟩ = some (.int .i64 0) := C2.cell 1
        have e0 := C2.frozen 0
        have e1 := C2.frozen 1
        have hz2 := C2.lt
        go_wp2
        refine bodyPost_ret (v := .agg #[.int .i64 px, .int .i64 py]) (by simp [results, Try.results40, go_sem, r0, r1]) rfl ⟨px, py, rfl, (hb.put (by rw [HN.out]; omega) _).put (by rw [HN.out]; omega) _⟩

end Go.Proofs.Ytinjdlnikhcbfaa
