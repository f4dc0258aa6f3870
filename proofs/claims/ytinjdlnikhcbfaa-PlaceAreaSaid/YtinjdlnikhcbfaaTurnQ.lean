/-
  A valid placement, turned by half a turn about the middle of the bed: plain; the walk of turn.Compose.
-/
import Derived.Test.YtinjdlnikhcbfaaTurnP
import Derived.Test.YtinjdlnikhcbfaaMoveQ
namespace Go.Proofs.Ytinjdlnikhcbfaa
open Go.RowKit
set_option linter.unusedSimpArgs false
set_option linter.unusedVariables false

theorem qm_small {n : Int} (h0 : 0 ≤ n) (h5 : n ≤ 5) : qm n = n % 4 := by
  have h : n = 0 ∨ n = 1 ∨ n = 2 ∨ n = 3 ∨ n = 4 ∨ n = 5 := by omega
  rcases h with rfl | rfl | rfl | rfl | rfl | rfl <;> decide
def ngP (p : Pt) : Pt := ⟨-p.x, -p.y⟩
theorem rot_two (p : Pt) : rot (rot p) = ngP p := by unfold rot ngP; simp
theorem rot_ng (p : Pt) : rot (ngP p) = ngP (rot p) := by unfold rot ngP; simp
theorem ng_ng (p : Pt) : ngP (ngP p) = p := by unfold ngP; simp
/-- Two more quarters. -/
theorem apply_half (f : Bool) (q : Int) (p : Pt) : applyP f (qm (qm q + 2)) p = ngP (applyP f q p) := by
  have hq := qm_bd q
  unfold applyP
  generalize flipP f p = r
  rw [qm_small (n := qm q + 2) (by omega) (by omega), qm_small (n := (qm q + 2) % 4) (by omega) (by omega)]
  have h : qm q = 0 ∨ qm q = 1 ∨ qm q = 2 ∨ qm q = 3 := by omega
  rcases h with h | h | h | h <;> rw [h]
  · show rot (rot r) = ngP r; exact rot_two r
  · show rot (rot (rot r)) = ngP (rot r); exact rot_two _
  · show r = ngP (rot (rot r)); rw [rot_two, ng_ng]
  · show rot r = ngP (rot (rot (rot r))); rw [rot_two (rot r), ng_ng]
/-- A put, turned by half a turn about the middle of the bed. -/
def htPu (b : Bd) (p : Pu) : Pu := ⟨p.sh, p.fl, qm (qm p.q + 2), b.l - p.x, b.w - p.y⟩
theorem placed_ht (b : Bd) (p : Pu) (s : List Pt) : placedPs (htPu b p) s = (placedPs p s).map (hpP ⟨b.l, b.w⟩) := by
  have e : ∀ v, mvP ⟨b.l - p.x, b.w - p.y⟩ (applyP p.fl (qm (qm p.q + 2)) v) = hpP ⟨b.l, b.w⟩ (mvP ⟨p.x, p.y⟩ (applyP p.fl p.q v)) := by
    intro v
    rw [apply_half]
    unfold mvP hpP ngP
    simp only [Pt.mk.injEq]
    omega
  unfold placedPs turnPs htPu
  simp only []
  split
  · rw [List.map_reverse, List.map_reverse, List.map_reverse, List.map_map, List.map_map, List.map_map]
    congr 1
    exact List.map_congr_left fun v _ => e v
  · rw [List.map_map, List.map_map, List.map_map]
    exact List.map_congr_left fun v _ => e v
section
variable {b : Bd} {l : List Sh}
theorem poly_ht {p : Pu} (h : Sound b l p) (hn : outsideB (b.l - p.x) (b.w - p.y) = false) : polyR l (htPu b p) = ((polyR l p).1.map (hpP ⟨b.l, b.w⟩), 0) ∧ checkI ((polyR l p).1.map (hpP ⟨b.l, b.w⟩)) = 0 ∧ checkI (polyR l p).1 = 0 := by
  obtain ⟨hb, hp, hs⟩ := h
  obtain ⟨h1, h2, h3, h4, h5, h6⟩ := poly_zero hp
  obtain ⟨_, hon, _⟩ := self_zero.1 hs
  rw [h6] at hon ⊢
  have hck : checkI ((placedPs p (gs l p.sh.toNat).ps).map (hpP ⟨b.l, b.w⟩)) = 0 := by
    refine checkH _ h5 fun q hq => ?_
    have := (onGo_iff.1 hon) q hq
    exact out_false (by simp only []; omega)
  refine ⟨?_, hck, h5⟩
  have := poly_of (l := l) (p := htPu b p) h1 h2 hn h4 (by rw [placed_ht]; exact hck)
  rw [this, placed_ht]
  rfl
theorem sound_ht {p : Pu} (h : Sound b l p) (hn : outsideB (b.l - p.x) (b.w - p.y) = false) (hg : (gs l p.sh.toNat).gr ≠ 1) (hm : (gs l p.sh.toNat).mt = false) : Sound b l (htPu b p) := by
  obtain ⟨hpm, _, _⟩ := poly_ht h hn
  obtain ⟨hb, hp, hs⟩ := h
  obtain ⟨ha, hon, hmt⟩ := self_zero.1 hs
  refine ⟨hb, by rw [hpm], self_zero.2 ⟨?_, ?_, fun hmt' => ?_⟩⟩
  · change allowB (gs l p.sh.toNat).gr p.fl (qm (qm p.q + 2)) = true
    have hq := qm_bd p.q
    unfold allowB at ha ⊢
    rw [qm_small (n := qm p.q + 2) (by omega) (by omega), qm_small (n := (qm p.q + 2) % 4) (by omega) (by omega)]
    split at ha
    · cases ha
    · rename_i h1
      rw [if_neg h1, if_neg hg]
      try rw [if_neg hg] at ha
      split at ha
      · rename_i h2
        rw [if_pos h2]
        simp only [Bool.or_eq_true, beq_iff_eq] at ha ⊢
        omega
      · rename_i h2
        rw [if_neg h2]
        exact ha
  · rw [hpm, onGo_iff]
    intro q hq
    obtain ⟨r, hr, rfl⟩ := List.mem_map.1 hq
    have := (onGo_iff.1 hon) r hr
    simp only [hpP]
    omega
  · have : (gs l p.sh.toNat).mt = true := hmt'
    rw [hm] at this
    cases this
theorem pcheck_ht {puts : List Pu} (hn : puts.length ≤ 60) (h : pcheckR b l puts = 0) (hl : ∀ s ∈ l, s.gr ≠ 1 ∧ s.mt = false) (hm : ∀ p ∈ puts, outsideB (b.l - p.x) (b.w - p.y) = false) : pcheckR b l (puts.map (htPu b)) = 0 := by
  rw [pcheck_pairs hn] at h
  rw [pcheck_pairs (by simpa using hn)]
  obtain ⟨h1, h2⟩ := h
  constructor
  · intro p hp
    obtain ⟨q, hq, rfl⟩ := List.mem_map.1 hp
    obtain ⟨p1, p2, _⟩ := poly_zero (h1 q hq).2.1
    have hlt : q.sh.toNat < l.length := by omega
    have hs := hl _ (List.getElem_mem hlt)
    have e : gs l q.sh.toNat = l[q.sh.toNat] := by unfold gs; simp [hlt]
    exact sound_ht (h1 q hq) (hm q hq) (by rw [e]; exact hs.1) (by rw [e]; exact hs.2)
  · rw [List.pairwise_map]
    refine h2.imp_of_mem fun {o p} ho hp hap => ?_
    obtain ⟨e1, c1, c1'⟩ := poly_ht (h1 o ho) (hm o ho)
    obtain ⟨e2, c2, c2'⟩ := poly_ht (h1 p hp) (hm p hp)
    rw [e1, e2]
    exact ⟨over_err c1 c2, overH c1' c2' c1 c2 hap.2⟩
/-- The polygons of a valid placement have together at most the area of the bed. -/
theorem pcheck_area {puts : List Pu} (hn : puts.length ≤ 60) (h : pcheckR b l puts = 0) (h0 : 0 < puts.length) : areaSum (puts.map fun p => (polyR l p).1) ≤ 2 * (b.l * b.w) := by
  rw [pcheck_pairs hn] at h
  obtain ⟨h1, h2⟩ := h
  have hb : 1 ≤ b.l ∧ 1 ≤ b.w := by
    have := (h1 _ (List.getElem_mem h0)).1
    omega
  refine areas_fit (by omega) (by omega) (fun q hq => ?_) (fun q hq r hr => ?_) ?_
  · obtain ⟨p, hp, rfl⟩ := List.mem_map.1 hq
    obtain ⟨_, hp0, _⟩ := h1 p hp
    obtain ⟨_, _, _, _, h5, h6⟩ := poly_zero hp0
    rw [h6]; exact h5
  · obtain ⟨p, hp, rfl⟩ := List.mem_map.1 hq
    obtain ⟨_, hp0, hs⟩ := h1 p hp
    obtain ⟨_, hon, _⟩ := self_zero.1 hs
    have := (onGo_iff.1 hon) r hr
    omega
  · rw [List.pairwise_map]
    exact h2.imp fun hap => hap.2
end

set_option maxHeartbeats 4000000 in
theorem turn_Compose2 (f : Bool) (q : Int) (w : World) : Calls Try.prog 38 #[.agg #[.bool f, .int .i64 q], .agg #[.bool false, .int .i64 2]] w (Ret (.agg #[.bool f, .int .i64 (qm (qm q + 2))]) w) := by
  have hq := qm_bd q
  have e2 : qm 2 = 2 := by decide
  have HA := Lib.hid (fun W => turn_Norm f q W)
  have HB := Lib.hid (fun W => turn_Norm false 2 W)
  rw [e2] at HB
  generalize qm q = m at *
  have HC := Lib.hid (fun W => turn_Norm f (m + 2) W)
  generalize qm (m + 2) = r at *
  go_enter Try.func38, Try.ntmps38
  go_upto_region 1 with fail
  refine name_world (fun W1 hW1 => ?_)
  have hl1 : Later w W1 := by rw [hW1]; exact (by repeat' (with_reducible first | exact Later.refl _ | assumption | refine Later.drew ?_ | refine Later.drewN ?_ _ | refine Later.alloc ?_ _ | refine Later.put ?_ (by omega) _ | refine Later.trans ?_ (by assumption)))
  have D2 : Blk W1 w.heap.size 88 #[.bool f, .int .i64 q] := by rw [hW1]; exact (by repeat' (with_reducible first | assumption | (refine Blk.newAt ?_; simp; done) | refine Blk.alloc ?_ _ | refine Blk.drew ?_ | refine Blk.drewN ?_ _ | refine Blk.later ?_ (by assumption)))
  have D3 : Blk W1 (w.heap.size + 1) 88 #[.bool false, .int .i64 2] := by rw [hW1]; exact (by repeat' (with_reducible first | assumption | (refine Blk.newAt ?_; simp; done) | refine Blk.alloc ?_ _ | refine Blk.drew ?_ | refine Blk.drewN ?_ _ | refine Blk.later ?_ (by assumption)))
  have D4 : Blk W1 (w.heap.size + 1 + 1) 88 #[.bool false, .int .i64 0] := by rw [hW1]; exact (by repeat' (with_reducible first | assumption | (refine Blk.newAt ?_; simp; done) | refine Blk.alloc ?_ _ | refine Blk.drew ?_ | refine Blk.drewN ?_ _ | refine Blk.later ?_ (by assumption)))
  clear hW1
  have hg2 : w.heap.size ≤ w.heap.size := Nat.le_refl _
  have n32 : w.heap.size + 1 ≠ w.heap.size := by omega
  have n42 : w.heap.size + 1 + 1 ≠ w.heap.size := by omega
  have n43 : w.heap.size + 1 + 1 ≠ w.heap.size + 1 := by omega
  have n23 : w.heap.size ≠ w.heap.size + 1 := by omega
  have hg3 : w.heap.size ≤ w.heap.size + 1 := by omega
  have hg4 : w.heap.size ≤ w.heap.size + 1 + 1 := by omega
  generalize hgg4 : w.heap.size + 1 + 1 = g4 at *
  generalize hgg3 : w.heap.size + 1 = g3 at *
  generalize hgg2 : w.heap.size = g2 at *
  have a0 : W1.cell? ⟨g2, 0, none⟩ = some (.bool f) := D2.cell 0
  have a1 : W1.cell? ⟨g2, 1, none⟩ = some (.int .i64 q) := D2.cell 1
  have b0 : W1.cell? ⟨g3, 0, none⟩ = some (.bool false) := D3.cell 0
  have b1 : W1.cell? ⟨g3, 1, none⟩ = some (.int .i64 2) := D3.cell 1
  have z2 := D2.lt
  have z3 := D3.lt
  have z4 := D4.lt
  go_cut [5] (fun v wx => Blk wx g2 88 #[.bool f, .int .i64 m] ∧ Blk wx g3 88 #[.bool false, .int .i64 2] ∧ Blk wx g4 88 #[.bool false, .int .i64 0] ∧ Later w wx)
  case first =>
    go_region_with (first | (go_at_call 77; (with_reducible refine (HA.out _).mono ?_); rintro e wc1 ⟨rfl, hbc1⟩; have b0 : wc1.cell? ⟨g3, 0, none⟩ = some (.bool false) := hbc1.cell b0; have b1 : wc1.cell? ⟨g3, 1, none⟩ = some (.int .i64 2) := hbc1.cell b1; have z3 : g3 < wc1.heap.size := World.block_lt_of_cell? _ _ b0) | (go_at_call 77; (with_reducible refine (HB.out _).mono ?_); rintro e wc2 ⟨rfl, hbc2⟩; have D2c : Blk wc2 g2 88 #[.bool f, .int .i64 q] := Blk.later (Blk.later (by first | exact D2 | exact D2.drew) hbc1) hbc2; have D3c : Blk wc2 g3 88 #[.bool false, .int .i64 2] := Blk.later (Blk.later (by first | exact D3 | exact D3.drew) hbc1) hbc2; have z2 : g2 < wc2.heap.size := D2c.lt; have z3 : g3 < wc2.heap.size := D3c.lt; have f0 : wc2.frozen? ⟨g2, 0, none⟩ = false := D2c.frozen 0; have f1 : wc2.frozen? ⟨g2, 1, none⟩ = false := D2c.frozen 1; have f2 : wc2.frozen? ⟨g3, 0, none⟩ = false := D3c.frozen 0; have f3 : wc2.frozen? ⟨g3, 1, none⟩ = false := D3c.frozen 1; have a0 : wc2.cell? ⟨g2, 0, none⟩ = some (.bool f) := D2c.cell 0; have a1 : wc2.cell? ⟨g2, 1, none⟩ = some (.int .i64 q) := D2c.cell 1; have b0 : wc2.cell? ⟨g3, 0, none⟩ = some (.bool false) := D3c.cell 0; have b1 : wc2.cell? ⟨g3, 1, none⟩ = some (.int .i64 2) := D3c.cell 1))
    all_goals
      go_wp2_with fail
      go_meet
      exact ⟨(D2c.two.far n23 _).far n23 _, ((D3c.far n32 _).far n32 _).two, (((((Blk.later (Blk.later (by first | exact D4 | exact D4.drew) hbc1) hbc2).far n42 _).far n42 _).far n43 _).far n43 _), ((((Later.trans (Later.trans (by first | exact hl1 | exact hl1.drew) hbc1) hbc2).put (Nat.le_of_eq hgg2) _).put (Nat.le_of_eq hgg2) _).put (by omega) _).put (by omega) _⟩
  case rest =>
  obtain ⟨E2, E3, E4, hlc⟩ := hcut
  have a0 : wc.cell? ⟨g2, 0, none⟩ = some (.bool f) := E2.cell 0
  have a1 : wc.cell? ⟨g2, 1, none⟩ = some (.int .i64 m) := E2.cell 1
  have b0 : wc.cell? ⟨g3, 0, none⟩ = some (.bool false) := E3.cell 0
  have b1 : wc.cell? ⟨g3, 1, none⟩ = some (.int .i64 2) := E3.cell 1
  have z2 := E2.lt
  have z3 := E3.lt
  have vm : IntKind.i64.wrap (m + 2) = m + 2 := IntWalk.i64_in _ (by omega)
  have hfb : (f != false) = f := by cases f <;> rfl
  go_upto_region 5 with (first | (go_at_call 77; (with_reducible refine (HC.out _).mono ?_); rintro e wd1 ⟨rfl, hbd1⟩; have c0 : wd1.cell? ⟨g4, 0, none⟩ = some (.bool false) := hbd1.cell (E4.cell 0); have c1 : wd1.cell? ⟨g4, 1, none⟩ = some (.int .i64 0) := hbd1.cell (E4.cell 1); have f0 : wd1.frozen? ⟨g4, 0, none⟩ = false := (E4.later hbd1).frozen 0; have f1 : wd1.frozen? ⟨g4, 1, none⟩ = false := (E4.later hbd1).frozen 1; have z4 : g4 < wd1.heap.size := (E4.later hbd1).lt))
  refine bodyPost_ret (v := .agg #[.bool f, .int .i64 r]) (by simp [results, Try.results38, go_sem, c0, c1]) rfl ⟨rfl, ((hlc.trans hbd1).put (by omega) _).put (by omega) _⟩

end Go.Proofs.Ytinjdlnikhcbfaa
