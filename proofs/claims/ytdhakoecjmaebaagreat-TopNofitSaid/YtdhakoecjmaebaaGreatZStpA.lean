/-
  The walk of fill.least at endings.
-/
import Derived.Test.YtdhakoecjmaebaaGreatZLeaB
namespace Go.Proofs.YtdhakoecjmaebaaGreat
open Go.RowKit Go.Lib
set_option linter.unusedSimpArgs false
set_option linter.unusedVariables false

theorem Blk.six {w : World} {g : Nat} {t : TypeId} {a b c d e f a' b' c' d' e' f' : Value} (h : Blk w g t #[a, b, c, d, e, f]) :
    Blk ((((((w.setCell ⟨g, 0, none⟩ a').setCell ⟨g, 1, none⟩ b').setCell ⟨g, 2, none⟩ c').setCell ⟨g, 3, none⟩ d').setCell ⟨g, 4, none⟩ e').setCell ⟨g, 5, none⟩ f') g t #[a', b', c', d', e', f'] := (((((h.set_ 0 a').set_ 1 b').set_ 2 c').set_ 3 d').set_ 4 e').set_ 5 f'
def zeroEn : En := ⟨⟨0, false, 0, 0, 0⟩, 0⟩
/-- The first one of the least elements, or zeros. -/
def bestL : List En → En
  | [] => zeroEn
  | e :: es => leastEn e es
theorem least_snoc : ∀ (es : List En) (z x : En), leastEn z (es ++ [x]) = if cmpEn x (leastEn z es) < 0 then x else leastEn z es
  | [], z, x => rfl
  | e :: es, z, x => by
    rw [List.cons_append, leastEn, leastEn, least_snoc es]
theorem best_next {l : List En} {k : Nat} (h : k < l.length) : bestL (l.take (k + 1)) = if k = 0 ∨ cmpEn l[k] (bestL (l.take k)) < 0 then l[k] else bestL (l.take k) := by
  obtain _ | ⟨e, l⟩ := l
  · simp at h
  · rcases k with _ | k
    · simp [bestL, leastEn]
    · have h' : k < l.length := by simpa using h
      rw [List.take_succ_cons, List.take_succ_cons, bestL, bestL, List.take_add_one, List.getElem?_eq_getElem h']
      rw [show (some l[k]).toList = [l[k]] from rfl, least_snoc, List.getElem_cons_succ]
      simp
def enV (e : En) : Value := .agg #[.int .i64 e.p.sh, .bool e.p.fl, .int .i64 e.p.q, .int .i64 e.p.x, .int .i64 e.p.y, .int .i64 e.r]
set_option maxHeartbeats 4000000 in
set_option maxRecDepth 100000 in
theorem fill_least (A : Option Addr) (c : Nat) (l : List En) (w : World) (hn : l.length ≤ 65536) (hp : Ens w A l) :
    Calls Tryz.prog 54 #[.slice A l.length c, .func (.func 55) #[] #[]] w (Ret (.tuple #[enV (bestL l), .bool (decide (0 < l.length))]) w) := by
  have HR := Lib.hid (show bestL l = bestL (l.take l.length) by rw [List.take_length])
  have HC := Lib.hid fill_compareEndings
  have HN := Lib.hid (fun k (h : k < l.length) => best_next h)
  generalize bestL l = R0 at *
  go_enter Tryz.func54, Tryz.ntmps54
  go_upto_region 2 with fail
  refine name_world (fun W hW => ?_)
  have hl : Later w W := by rw [hW]; exact (by repeat' (with_reducible first | exact Later.refl _ | assumption | refine Later.drew ?_ | refine Later.drewN ?_ _ | refine Later.alloc ?_ _ | refine Later.put ?_ (by omega) _ | refine Later.trans ?_ (by assumption)))
  have B0 : Blk W w.heap.size 128 #[.int .i64 0, .bool false, .int .i64 0, .int .i64 0, .int .i64 0, .int .i64 0] := by rw [hW]; exact (by repeat' (with_reducible first | assumption | (refine Blk.newAt ?_; simp; done) | refine Blk.alloc ?_ _ | refine Blk.drew ?_ | refine Blk.drewN ?_ _ | refine Blk.later ?_ (by assumption)))
  have B1 : Blk W (w.heap.size + 1) 128 #[.int .i64 0, .bool false, .int .i64 0, .int .i64 0, .int .i64 0, .int .i64 0] := by rw [hW]; exact (by repeat' (with_reducible first | assumption | (refine Blk.newAt ?_; simp; done) | refine Blk.alloc ?_ _ | refine Blk.drew ?_ | refine Blk.drewN ?_ _ | refine Blk.later ?_ (by assumption)))
  clear hW
  obtain ⟨gr_, hgr⟩ : ∃ g, g = w.heap.size := ⟨_, rfl⟩
  obtain ⟨gb, hgbe⟩ : ∃ g, g = w.heap.size + 1 := ⟨_, rfl⟩
  have hga : w.heap.size ≤ gr_ := by omega
  have hgb : w.heap.size ≤ gb := by omega
  have hne : gr_ ≠ gb := by omega
  rw [← hgbe] at B1
  rw [← hgbe]
  rw [← hgr] at B0
  rw [← hgr]
  clear hgr hgbe
  go_upto_region 3 with fail
  go_loopw [11] (fun iv wr => ∃ (k : Nat) (e : En), k ≤ l.length ∧ iv = .int .i64 k ∧ e = bestL (l.take k) ∧ Later w wr ∧ Blk wr gb 128 #[.int .i64 e.p.sh, .bool e.p.fl, .int .i64 e.p.q, .int .i64 e.p.x, .int .i64 e.p.y, .int .i64 e.r] ∧ Blk wr gr_ 128 #[.int .i64 0, .bool false, .int .i64 0, .int .i64 0, .int .i64 0, .int .i64 0]) (fun iv _ => l.length - (intOf iv).toNat)
  case atStart => exact ⟨0, zeroEn, by omega, rfl, rfl, hl, B1, B0⟩
  case round =>
    clear hl B0 B1
    obtain ⟨k, eb, hk, rfl, he, hb, D, R⟩ := hrel
    have He := Lib.hid he
    clear he
    by_cases hlt : k < l.length
    · obtain ⟨b, o, rfl, x1, x2, x3, x4, x5, x6⟩ := Ens.at_ (ListAt.later hp (fun _ h => h) hb) hlt
      have zb := World.block_lt_of_cell? _ _ x1
      have Hn0 := Lib.hid (HN.out k hlt)
      rw [← He.out] at Hn0
      generalize l[k] = e at *
      have HCk := Lib.hid (fun W => HC.out e eb W)
      obtain ⟨⟨e1, e2, e3, e4, e5⟩, e6⟩ := e
      obtain ⟨⟨f1, f2, f3, f4, f5⟩, f6⟩ := eb
      simp only [] at x1 x2 x3 x4 x5 x6 HCk D
      generalize cmpEn ⟨⟨e1, e2, e3, e4, e5⟩, e6⟩ ⟨⟨f1, f2, f3, f4, f5⟩, f6⟩ = m at *
      go_upto_region 5 with fail
      refine name_world (fun Wp hWp => ?_)
      have hbp : Later wr Wp := by rw [hWp]; exact (by repeat' (with_reducible first | exact Later.refl _ | assumption | refine Later.drew ?_ | refine Later.drewN ?_ _ | refine Later.alloc ?_ _ | refine Later.put ?_ (by omega) _ | refine Later.trans ?_ (by assumption)))
      have Dp : Blk Wp wr.heap.size 128 #[.int .i64 e1, .bool e2, .int .i64 e3, .int .i64 e4, .int .i64 e5, .int .i64 e6] := by rw [hWp]; exact (by repeat' (with_reducible first | assumption | (refine Blk.newAt ?_; simp; done) | refine Blk.alloc ?_ _ | refine Blk.drew ?_ | refine Blk.drewN ?_ _ | refine Blk.later ?_ (by assumption)))
      have Db := D.later hbp
      have Rb := R.later hbp
      have hlp := hb.trans hbp
      clear hWp x1 x2 x3 x4 x5 x6 zb D R hb
      generalize wr.heap.size = gx at *
      have k0 : Wp.cell? ⟨gx, 0, none⟩ = some (.int .i64 e1) := Dp.cell 0
      have k1 : Wp.cell? ⟨gx, 1, none⟩ = some (.bool e2) := Dp.cell 1
      have k2 : Wp.cell? ⟨gx, 2, none⟩ = some (.int .i64 e3) := Dp.cell 2
      have k3 : Wp.cell? ⟨gx, 3, none⟩ = some (.int .i64 e4) := Dp.cell 3
      have k4 : Wp.cell? ⟨gx, 4, none⟩ = some (.int .i64 e5) := Dp.cell 4
      have k5 : Wp.cell? ⟨gx, 5, none⟩ = some (.int .i64 e6) := Dp.cell 5
      have zx := Dp.lt
      have b0 : Wp.cell? ⟨gb, 0, none⟩ = some (.int .i64 f1) := Db.cell 0
      have b1 : Wp.cell? ⟨gb, 1, none⟩ = some (.bool f2) := Db.cell 1
      have b2 : Wp.cell? ⟨gb, 2, none⟩ = some (.int .i64 f3) := Db.cell 2
      have b3 : Wp.cell? ⟨gb, 3, none⟩ = some (.int .i64 f4) := Db.cell 3
      have b4 : Wp.cell? ⟨gb, 4, none⟩ = some (.int .i64 f5) := Db.cell 4
      have b5 : Wp.cell? ⟨gb, 5, none⟩ = some (.int .i64 f6) := Db.cell 5
      have zb := Db.lt
      by_cases hk0 : k = 0
      · have Hn := Lib.hid (show bestL (l.take (k + 1)) = ⟨⟨e1, e2, e3, e4, e5⟩, e6⟩ by rw [Hn0.out, if_pos (Or.inl hk0)])
        have dk : ((k : Int) == 0) = true := by simp; omega
        have fz0 := Db.frozen 0
        have fz1 := Db.frozen 1
        have fz2 := Db.frozen 2
        have fz3 := Db.frozen 3
        have fz4 := Db.frozen 4
        have fz5 := Db.frozen 5
        have Dq := Db
        have R := Rb
        go_wp2
        go_roundw
        case rel => exact ⟨k + 1, ⟨⟨e1, e2, e3, e4, e5⟩, e6⟩, by omega, by go_num, Hn.out.symm, ((((((hlp).put hgb _).put hgb _).put hgb _).put hgb _).put hgb _).put hgb _, Dq.six, ((((((R.far hne _).far hne _).far hne _).far hne _).far hne _).far hne _)⟩
        case measure => simp [intOf]; omega
      · have dk : ((k : Int) == 0) = false := by simp; omega
        by_cases hm : m < 0
        · have Hn := Lib.hid (show bestL (l.take (k + 1)) = ⟨⟨e1, e2, e3, e4, e5⟩, e6⟩ by rw [Hn0.out, if_pos (Or.inr hm)])
          go_upto_region 6 with (go_at_call 55; (with_reducible refine (HCk.out _).mono ?_); rintro e w5 ⟨rfl, hb5⟩)
          have hl5 := hlp.trans hb5
          have D5 := Dp.later hb5
          have Dq := Db.later hb5
          have R := Rb.later hb5
          clear k0 k1 k2 k3 k4 k5 zx b0 b1 b2 b3 b4 b5 zb
          have k0 : w5.cell? ⟨gx, 0, none⟩ = some (.int .i64 e1) := D5.cell 0
          have k1 : w5.cell? ⟨gx, 1, none⟩ = some (.bool e2) := D5.cell 1
          have k2 : w5.cell? ⟨gx, 2, none⟩ = some (.int .i64 e3) := D5.cell 2
          have k3 : w5.cell? ⟨gx, 3, none⟩ = some (.int .i64 e4) := D5.cell 3
          have k4 : w5.cell? ⟨gx, 4, none⟩ = some (.int .i64 e5) := D5.cell 4
          have k5 : w5.cell? ⟨gx, 5, none⟩ = some (.int .i64 e6) := D5.cell 5
          have zx := D5.lt
          have b0 : w5.cell? ⟨gb, 0, none⟩ = some (.int .i64 f1) := Dq.cell 0
          have b1 : w5.cell? ⟨gb, 1, none⟩ = some (.bool f2) := Dq.cell 1
          have b2 : w5.cell? ⟨gb, 2, none⟩ = some (.int .i64 f3) := Dq.cell 2
          have b3 : w5.cell? ⟨gb, 3, none⟩ = some (.int .i64 f4) := Dq.cell 3
          have b4 : w5.cell? ⟨gb, 4, none⟩ = some (.int .i64 f5) := Dq.cell 4
          have b5 : w5.cell? ⟨gb, 5, none⟩ = some (.int .i64 f6) := Dq.cell 5
          have zb := Dq.lt
          have fz0 := Dq.frozen 0
          have fz1 := Dq.frozen 1
          have fz2 := Dq.frozen 2
          have fz3 := Dq.frozen 3
          have fz4 := Dq.frozen 4
          have fz5 := Dq.frozen 5
          go_wp2
          go_roundw
          case rel => exact ⟨k + 1, ⟨⟨e1, e2, e3, e4, e5⟩, e6⟩, by omega, by go_num, Hn.out.symm, ((((((hl5).put hgb _).put hgb _).put hgb _).put hgb _).put hgb _).put hgb _, Dq.six, ((((((R.far hne _).far hne _).far hne _).far hne _).far hne _).far hne _)⟩
          case measure => simp [intOf]; omega
        · have Hn := Lib.hid (show bestL (l.take (k + 1)) = ⟨⟨f1, f2, f3, f4, f5⟩, f6⟩ by rw [Hn0.out, if_neg (by omega)])
          go_wp2_with (go_at_call 55; (with_reducible refine (HCk.out _).mono ?_); rintro e w5 ⟨rfl, hb5⟩)
          go_roundw
          case rel => exact ⟨k + 1, ⟨⟨f1, f2, f3, f4, f5⟩, f6⟩, by omega, by go_num, Hn.out.symm, hlp.trans hb5, Db.later hb5, Rb.later hb5⟩
          case measure => simp [intOf]; omega
    · have hke : k = l.length := by omega
      subst hke
      have hR : R0 = eb := by rw [HR.out, ← He.out]
      subst hR
      obtain ⟨⟨f1, f2, f3, f4, f5⟩, f6⟩ := R0
      simp only [] at D
      have b0 : wr.cell? ⟨gb, 0, none⟩ = some (.int .i64 f1) := D.cell 0
      have b1 : wr.cell? ⟨gb, 1, none⟩ = some (.bool f2) := D.cell 1
      have b2 : wr.cell? ⟨gb, 2, none⟩ = some (.int .i64 f3) := D.cell 2
      have b3 : wr.cell? ⟨gb, 3, none⟩ = some (.int .i64 f4) := D.cell 3
      have b4 : wr.cell? ⟨gb, 4, none⟩ = some (.int .i64 f5) := D.cell 4
      have b5 : wr.cell? ⟨gb, 5, none⟩ = some (.int .i64 f6) := D.cell 5
      have zb := D.lt
      have r0 : wr.cell? ⟨gr_, 0, none⟩ = some (.int .i64 0) := R.cell 0
      have r1 : wr.cell? ⟨gr_, 1, none⟩ = some (.bool false) := R.cell 1
      have r2 : wr.cell? ⟨gr_, 2, none⟩ = some (.int .i64 0) := R.cell 2
      have r3 : wr.cell? ⟨gr_, 3, none⟩ = some (.int .i64 0) := R.cell 3
      have r4 : wr.cell? ⟨gr_, 4, none⟩ = some (.int .i64 0) := R.cell 4
      have r5 : wr.cell? ⟨gr_, 5, none⟩ = some (.int .i64 0) := R.cell 5
      have fz0 := R.frozen 0
      have fz1 := R.frozen 1
      have fz2 := R.frozen 2
      have fz3 := R.frozen 3
      have fz4 := R.frozen 4
      have fz5 := R.frozen 5
      have zr := R.lt
      go_wp2
      refine bodyPost_ret (v := .tuple #[.agg #[.int .i64 f1, .bool f2, .int .i64 f3, .int .i64 f4, .int .i64 f5, .int .i64 f6], .bool (decide ((l.length : Int) > 0))]) (by simp [results, Tryz.results54, go_sem, r0, r1, r2, r3, r4, r5]) rfl ⟨by simp [enV], ?_⟩
      exact (((((hb.put hga _).put hga _).put hga _).put hga _).put hga _).put hga _
end Go.Proofs.YtdhakoecjmaebaaGreat
/-
  The walk of fill.Step, where nothing fails but the search for a place.
-/
namespace Go.Proofs.YtdhakoecjmaebaaGreat
open Go.RowKit Go.Lib
set_option linter.unusedSimpArgs false
set_option linter.unusedVariables false

@[go_sem] theorem build_put0 (w : World) : (Instr.build 44 #[]).run Tryz.prog w = .ok (.agg #[.int .i64 0, .bool false, .int .i64 0, .int .i64 0, .int .i64 0]) w := run_build w 44 _ _ (by kernel_rfl)
@[go_sem] theorem build_turn0 (w : World) : (Instr.build 42 #[]).run Tryz.prog w = .ok (.agg #[.bool false, .int .i64 0]) w := run_build w 42 _ _ (by kernel_rfl)
@[go_sem] theorem build_putT (s : Int) (f : Bool) (q x y : Int) (w : World) : (Instr.build 44 #[(0, .int .i64 s), (1, .agg #[.bool f, .int .i64 q]), (2, .agg #[.int .i64 x, .int .i64 y])]).run Tryz.prog w = .ok (.agg #[.int .i64 s, .bool f, .int .i64 q, .int .i64 x, .int .i64 y]) w := run_build w 44 _ _ (by kernel_rfl)
@[go_sem] theorem build_ending (s : Int) (f : Bool) (q x y r : Int) (w : World) : (Instr.build 128 #[(0, .agg #[.int .i64 s, .bool f, .int .i64 q, .int .i64 x, .int .i64 y]), (1, .int .i64 r)]).run Tryz.prog w = .ok (.agg #[.int .i64 s, .bool f, .int .i64 q, .int .i64 x, .int .i64 y, .int .i64 r]) w := run_build w 128 _ _ (by kernel_rfl)

/-- What one turn yields. -/
def endOf (b : Bd) (l : List Sh) (puts : List Pu) (sh : Int) (s : Sh) (placed : List (List Pt)) (q : Int) : List En :=
  match firstFit b l puts sh q (candR b s false q (polyR l ⟨sh, false, q, 0, 0⟩).1 placed) with
  | some p => [⟨p, p.x + (hiOf (polyR l ⟨sh, false, q, 0, 0⟩).1).x⟩]
  | none => []
theorem ends_all {b : Bd} {l : List Sh} {puts : List Pu} {sh : Int} {s : Sh} {placed : List (List Pt)} : ∀ {qs : List Int} {acc : List En}, (∀ q ∈ qs, (polyR l ⟨sh, false, q, 0, 0⟩).2 = 0) →
    endsR b l puts sh s placed qs acc = (acc ++ qs.flatMap (endOf b l puts sh s placed), 0)
  | [], acc, _ => by simp [endsR]
  | q :: qs, acc, h => by
    have h0 := h q (List.mem_cons_self ..)
    have ih := fun a => ends_all (b := b) (l := l) (puts := puts) (sh := sh) (s := s) (placed := placed) (qs := qs) (acc := a) fun x hx => h x (List.mem_cons_of_mem _ hx)
    rw [endsR, if_neg (by simpa using h0), List.flatMap_cons]
    rcases hf : firstFit b l puts sh q (candR b s false q (polyR l ⟨sh, false, q, 0, 0⟩).1 placed) with _ | p
    · have e : endOf b l puts sh s placed q = [] := by unfold endOf; rw [hf]
      simp only [e, List.nil_append]
      exact ih acc
    · have e : endOf b l puts sh s placed q = [⟨p, p.x + (hiOf (polyR l ⟨sh, false, q, 0, 0⟩).1).x⟩] := by unfold endOf; rw [hf]
      rw [e, ← List.append_assoc]
      exact ih _
theorem ends_next {f : Int → List En} {qs : List Int} {k : Nat} (h : k < qs.length) : (qs.take (k + 1)).flatMap f = (qs.take k).flatMap f ++ f qs[k] := by
  rw [List.take_add_one, List.getElem?_eq_getElem h, List.flatMap_append]
  simp
theorem step_of {b : Bd} {l : List Sh} {puts : List Pu} {sh : Int} (h0 : prepE b l puts sh false 0 = 0) (h1 : ∀ q ∈ turnsR (gs l sh.toNat).gr, (polyR l ⟨sh, false, q, 0, 0⟩).2 = 0) :
    stepR b l puts sh = if (turnsR (gs l sh.toNat).gr).flatMap (endOf b l puts sh (gs l sh.toNat) (polysR l puts).1) = [] then (zeroPu, 18) else ((bestL ((turnsR (gs l sh.toNat).gr).flatMap (endOf b l puts sh (gs l sh.toNat) (polysR l puts).1))).p, 0) := by
  unfold stepR
  rw [if_neg (by simpa using h0), ends_all h1, if_neg (by simp)]
  simp only [List.nil_append]
  generalize (turnsR (gs l sh.toNat).gr).flatMap (endOf b l puts sh (gs l sh.toNat) (polysR l puts).1) = es
  obtain _ | ⟨e, es⟩ := es
  · rw [if_pos rfl]
  · rw [if_neg (by simp)]
    rfl
theorem fit_next {b : Bd} {l : List Sh} {puts : List Pu} {sh q : Int} {vs : List Pt} {k : Nat} (h : k < vs.length) : firstFit b l puts sh q (vs.drop k) = if fitsR b l puts ⟨sh, false, q, vs[k].x, vs[k].y⟩ = 0 then some ⟨sh, false, q, vs[k].x, vs[k].y⟩ else firstFit b l puts sh q (vs.drop (k + 1)) := by
  rw [List.drop_eq_getElem_cons h, firstFit]
theorem end_q {b : Bd} {l : List Sh} {puts : List Pu} {sh : Int} {s : Sh} {placed : List (List Pt)} {q : Int} : ∀ e ∈ endOf b l puts sh s placed q, e.p.q = q := by
  have key : ∀ (vs : List Pt) (p : Pu), firstFit b l puts sh q vs = some p → p.q = q := by
    intro vs
    induction vs with
    | nil => intro p h; cases h
    | cons v vs ih =>
      intro p h
      rw [firstFit] at h
      split at h
      · cases h; rfl
      · exact ih p h
  intro e he
  unfold endOf at he
  split at he
  · rename_i p hp
    rw [List.mem_singleton.1 he]
    exact key _ p hp
  · cases he
theorem cand_near {b : Bd} {s : Sh} {f : Bool} {q : Int} {t : List Pt} {placed : List (List Pt)} (kt : checkI t = 0) (hb : 1 ≤ b.w ∧ b.w ≤ 1048576) : ∀ p ∈ candR b s f q t placed, NearP 4194304 p := by
  intro p hp
  unfold candR at hp
  rw [sort_mem] at hp
  unfold keptR at hp
  have key : ∀ (l acc : List Pt), (∀ x ∈ l, NearP 4194304 x) → (∀ x ∈ acc, NearP 4194304 x) → ∀ x ∈ l.foldl (fun acc p => match settleR b.rx b.ry s f q p with | some a => addP acc a | none => acc) acc, NearP 4194304 x := by
    intro l
    induction l with
    | nil => intro acc _ h; exact h
    | cons v l ih =>
      intro acc h1 h2
      rw [List.foldl_cons]
      refine ih _ (fun x hx => h1 x (List.mem_cons_of_mem _ hx)) ?_
      rcases hst : settleR b.rx b.ry s f q v with _ | a
      · simpa only [hst] using h2
      · intro x hx
        simp only [hst] at hx
        rw [add_mem] at hx
        rcases hx with hx | rfl
        · exact h2 x hx
        · exact settle_near hst (h1 v (List.mem_cons_self ..))
  exact key _ [] (places_near kt hb) (by simp) p hp
theorem cand_len {b : Bd} {s : Sh} {f : Bool} {q : Int} {t : List Pt} {placed : List (List Pt)} (nt : t.length ≤ 6) (np : ∀ q ∈ placed, q.length ≤ 6) (nl : placed.length ≤ 3) : (candR b s f q t placed).length ≤ 42338 := by
  unfold candR
  rw [sort_len]
  refine Nat.le_trans ?_ (places_len (bw := b.w) nt np nl)
  generalize placesR b.w t placed = L
  have key : ∀ k, k ≤ L.length → (keptR b s f q (L.take k)).length ≤ k := by
    intro k
    induction k with
    | zero => intro _; exact Nat.le_refl _
    | succ k ih =>
      intro hk
      have h := ih (by omega)
      rw [kept_next (show k < L.length by omega)]
      split
      · rename_i a _
        have := addAll_len [a] (keptR b s f q (L.take k))
        simp only [List.length_singleton] at this
        omega
      · omega
  have := key L.length (Nat.le_refl _)
  rwa [List.take_length] at this
end Go.Proofs.YtdhakoecjmaebaaGreat
