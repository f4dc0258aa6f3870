/-
  The walks of place's small functions: bounds, stripes, turns of one point.
  The walks of stripe.Same and of turns of one point.
  The walks of turn.Allowed, polyline.Move, polygon.Move, turn.Poly.
  Shapes and puts in memory; the walk of place.Poly.
-/
import Derived.Test.YtdhakoecjmaebaaGreatZDam
import Derived.StillTailTactics
import Derived.Laws.BitsAllLaws
import Derived.Laws.BitsLemmas
import Derived.Test.YtdhakoecjmaebaaGreatZSplit
import Derived.Deep.OwnRows
/- The walks of place's small functions: bounds, stripes, turns of one point. -/
namespace Go.Proofs.YtdhakoecjmaebaaGreat
open Go.RowKit
set_option linter.unusedSimpArgs false
set_option linter.unusedVariables false

set_option maxHeartbeats 400000 in
theorem place_beyond (x y : Int) (w : World) : Calls Tryz.prog 26 #[.agg #[.int .i64 x, .int .i64 y]] w (Ret (.bool (outsideB x y)) w) := by
  go_enter Tryz.func26, Tryz.ntmps26
  go_wp2
  all_goals
    go_ret
    exact ⟨ret_bool (by simp [outsideB] <;> omega), (Later.refl _).alloc _⟩

def periodI (n : Int) : Int := if n < 1 ∨ 1048576 < n then 0 else n
theorem period_bd (n : Int) : 0 ≤ periodI n ∧ periodI n ≤ 1048576 := by unfold periodI; split <;> omega
set_option maxHeartbeats 400000 in
theorem stripe_period (n : Int) (w : World) : Calls Tryz.prog 100 #[.int .i64 n] w (Pure (.int .i64 (periodI n)) w) := by
  go_enter Tryz.func100, Tryz.ntmps100
  by_cases h : n < 1
  · have d1 : decide (n < 1) = true := by simpa using h
    have H := Lib.hid (show periodI n = 0 by unfold periodI; rw [if_pos (.inl h)])
    go_wp2
    go_ret
    exact ⟨ret_int H.out.symm, rfl⟩
  · have d1 : decide (n < 1) = false := by simpa using h
    by_cases h2 : 1048576 < n
    · have d2 : decide (1048576 < n) = true := by simpa using h2
      have H := Lib.hid (show periodI n = 0 by unfold periodI; rw [if_pos (.inr h2)])
      go_wp2
      go_ret
      exact ⟨ret_int H.out.symm, rfl⟩
    · have d2 : decide (1048576 < n) = false := by simpa using h2
      have H := Lib.hid (show periodI n = n by unfold periodI; rw [if_neg (by omega)])
      go_wp2
      go_ret
      exact ⟨ret_int H.out.symm, rfl⟩

def limI (n : Int) : Int := min (max n (-1048576)) 1048576
theorem lim_bd (n : Int) : -1048576 ≤ limI n ∧ limI n ≤ 1048576 := by unfold limI; omega
attribute [local go_sem] ite_min ite_max
set_option maxHeartbeats 400000 in
theorem stripe_limited (n : Int) (w : World) : Calls Tryz.prog 62 #[.int .i64 n] w (Pure (.int .i64 (limI n)) w) := by
  go_enter Tryz.func62, Tryz.ntmps62
  go_wp2
  go_ret
  exact ⟨ret_int (by unfold limI; omega), rfl⟩

def modI (n p : Int) : Int := if p = 0 then 0 else (n.tmod p + p).tmod p
theorem tmod_bd {n p : Int} (hp : 0 < p) : -p < n.tmod p ∧ n.tmod p < p := by
  constructor
  · rcases Int.le_total 0 n with h | h
    · have := Int.tmod_nonneg p h; omega
    · have h1 : (-n).tmod p = -(n.tmod p) := Int.neg_tmod ..
      have h2 := Int.tmod_lt_of_pos (-n) hp
      omega
  · exact Int.tmod_lt_of_pos n hp
theorem mod_bd {n p : Int} (hp : 0 ≤ p) (h : p ≤ 1048576) : 0 ≤ modI n p ∧ modI n p ≤ 1048576 := by
  unfold modI
  split
  · omega
  · have h1 := tmod_bd (n := n) (p := p) (by omega)
    have h2 := tmod_bd (n := n.tmod p + p) (p := p) (by omega)
    have h3 := Int.tmod_nonneg p (show 0 ≤ n.tmod p + p by omega)
    omega
set_option maxHeartbeats 400000 in
theorem stripe_modulo (n p : Int) (w : World) (hn : -1048576 ≤ n ∧ n ≤ 1048576) (hp : 0 ≤ p ∧ p ≤ 1048576) : Calls Tryz.prog 61 #[.int .i64 n, .int .i64 p] w (Pure (.int .i64 (modI n p)) w) := by
  go_enter Tryz.func61, Tryz.ntmps61
  by_cases h : p = 0
  · subst h
    go_wp2
    go_ret
    exact ⟨ret_int rfl, rfl⟩
  · have d : (p == 0) = false := by simpa using h
    have h1 := tmod_bd (n := n) (p := p) (by omega)
    have H := Lib.hid (show modI n p = (n.tmod p + p).tmod p by unfold modI; rw [if_neg h])
    have hw : IntKind.i64.wrap (n.tmod p + p) = n.tmod p + p := IntWalk.i64_in _ (by omega)
    go_wp2
    go_ret
    refine ⟨ret_int ?_, rfl⟩
    rw [H.out]
    exact (Int.tmod_eq_emod_of_nonneg (by omega)).symm

@[go_sem] theorem build_repeat (a b : Int) (w : World) : (Instr.build 23 #[(0, .int .i64 a), (1, .int .i64 b)]).run Tryz.prog w = .ok (.agg #[.int .i64 a, .int .i64 b]) w := run_build w 23 _ _ (by kernel_rfl)
@[go_sem] theorem build_turn (a : Bool) (b : Int) (w : World) : (Instr.build 42 #[(0, .bool a), (1, .int .i64 b)]).run Tryz.prog w = .ok (.agg #[.bool a, .int .i64 b]) w := run_build w 42 _ _ (by kernel_rfl)

theorem still_of {P : Program} {f : FuncId} {args : Array Value} {W : World} {v : Value} (h : Calls P f args W (Pure v W)) : Calls P f args W (fun e w'' => e = .returned v ∧ w'' = W) := h.mono fun _ _ ⟨he, hw⟩ => ⟨he, hw.symm⟩


set_option maxHeartbeats 1000000 in
set_option maxRecDepth 100000 in
theorem stripe_Norm (a b : Int) (w : World) : Calls Tryz.prog 60 #[.agg #[.int .i64 a, .int .i64 b]] w (Ret (.agg #[.int .i64 (periodI a), .int .i64 (periodI b)]) w) := by
  go_enter Tryz.func60, Tryz.ntmps60
  go_wp2
  refine name_world (fun W hW => ?_)
  have hl : Later w W := by rw [hW]; exact (by repeat' (with_reducible first | exact Later.refl _ | assumption | refine Later.drew ?_ | refine Later.drewN ?_ _ | refine Later.alloc ?_ _ | refine Later.put ?_ (by omega) _ | refine Later.trans ?_ (by assumption)))
  have B0 : Blk W w.heap.size 23 #[.int .i64 a, .int .i64 b] := by rw [hW]; exact (by repeat' (with_reducible first | assumption | (refine Blk.newAt ?_; simp; done) | refine Blk.alloc ?_ _ | refine Blk.drew ?_ | refine Blk.drewN ?_ _ | refine Blk.later ?_ (by assumption)))
  have B1 : Blk W (w.heap.size + 1) 23 #[.int .i64 0, .int .i64 0] := by rw [hW]; exact (by repeat' (with_reducible first | assumption | (refine Blk.newAt ?_; simp; done) | refine Blk.alloc ?_ _ | refine Blk.drew ?_ | refine Blk.drewN ?_ _ | refine Blk.later ?_ (by assumption)))
  have c0 : W.cell? ⟨w.heap.size, 0, none⟩ = some (.int .i64 a) := B0.cell 0
  have c1 : W.cell? ⟨w.heap.size, 1, none⟩ = some (.int .i64 b) := B0.cell 1
  have r0 : W.cell? ⟨w.heap.size + 1, 0, none⟩ = some (.int .i64 0) := B1.cell 0
  have r1 : W.cell? ⟨w.heap.size + 1, 1, none⟩ = some (.int .i64 0) := B1.cell 1
  have f0 := B1.frozen 0
  have f1 := B1.frozen 1
  clear hW
  refine wp_region_still_tail 7 (by kernel_rfl) (by kernel_rfl) ?_
  simp only [List.take_succ_cons, List.take_zero, List.drop_succ_cons, List.drop_zero]
  repeat (first | still_step | (refine wpStill_step (fun K hK => ?_); go_simp; (with_reducible refine ⟨_, still_of (stripe_period _ _), hK _ ?_⟩); clear hK K))
  (try refine wpStill_nil ?_)
  change wpList _ _ _ _ _ W.drew
  go_wp2
  refine bodyPost_ret (v := .agg #[.int .i64 (periodI a), .int .i64 (periodI b)]) (by simp [results, Tryz.results60, go_sem, r0, r1]) rfl ⟨rfl, ?_⟩
  exact (by repeat' (with_reducible first | exact Later.refl _ | assumption | refine Later.drew ?_ | refine Later.drewN ?_ _ | refine Later.alloc ?_ _ | refine Later.put ?_ (by omega) _ | refine Later.trans ?_ (by assumption)))

def phP (rx ry : Int) (p : Pt) : Pt := ⟨modI (limI p.x) (periodI rx), modI (limI p.y) (periodI ry)⟩
set_option maxHeartbeats 2000000 in
set_option maxRecDepth 100000 in
theorem stripe_Phase (a b x y : Int) (w : World) : Calls Tryz.prog 30 #[.agg #[.int .i64 a, .int .i64 b], .agg #[.int .i64 x, .int .i64 y]] w (Ret (ptV (phP a b ⟨x, y⟩)) w) := by
  have hpa := period_bd a
  have hpb := period_bd b
  have hlx := lim_bd x
  have hly := lim_bd y
  have Hm1 := Lib.hid (fun W => stripe_modulo (limI x) (periodI a) W hlx hpa)
  have Hm2 := Lib.hid (fun W => stripe_modulo (limI y) (periodI b) W hly hpb)
  have HN := Lib.hid (fun W => stripe_Norm a b W)
  unfold ptV phP
  simp only []
  generalize modI (limI x) (periodI a) = m1 at *
  generalize modI (limI y) (periodI b) = m2 at *
  generalize periodI a = pa at *
  generalize periodI b = pb at *
  go_enter Tryz.func30, Tryz.ntmps30
  go_wp2_with (first | (go_at_call 60; refine (HN.out _).mono ?_; rintro e w1 ⟨rfl, hb1⟩; have k0 : w1.cell? ⟨w.heap.size, 0, none⟩ = some (.int .i64 a) := hb1.cell (by simp [go_sem]); have k1 : w1.cell? ⟨w.heap.size, 1, none⟩ = some (.int .i64 b) := hb1.cell (by simp [go_sem]); have B0 : Blk w1 w.heap.size 23 #[.int .i64 a, .int .i64 b] := Blk.later (by repeat' (with_reducible first | assumption | (refine Blk.newAt ?_; simp; done) | refine Blk.alloc ?_ _ | refine Blk.drew ?_ | refine Blk.drewN ?_ _ | refine Blk.later ?_ (by assumption))) hb1; have B1 : Blk w1 (w.heap.size + 1) 29 #[.int .i64 x, .int .i64 y] := Blk.later (by repeat' (with_reducible first | assumption | (refine Blk.newAt ?_; simp; done) | refine Blk.alloc ?_ _ | refine Blk.drew ?_ | refine Blk.drewN ?_ _ | refine Blk.later ?_ (by assumption))) hb1; have B2 : Blk w1 (w.heap.size + 1 + 1) 29 #[.int .i64 0, .int .i64 0] := Blk.later (by repeat' (with_reducible first | assumption | (refine Blk.newAt ?_; simp; done) | refine Blk.alloc ?_ _ | refine Blk.drew ?_ | refine Blk.drewN ?_ _ | refine Blk.later ?_ (by assumption))) hb1; have g0 := B0.frozen 0; have g1 := B0.frozen 1))
  refine name_world (fun W hW => ?_)
  have hl : Later w W := by rw [hW]; exact (((((Later.refl w).alloc _).alloc _).alloc _).trans hb1 |>.put (Nat.le_refl _) _).put (Nat.le_refl _) _
  have C0 : Blk W w.heap.size 23 #[.int .i64 pa, .int .i64 pb] := by rw [hW]; exact B0.two
  have C1 : Blk W (w.heap.size + 1) 29 #[.int .i64 x, .int .i64 y] := by rw [hW]; exact (B1.far (by omega) _).far (by omega) _
  have C2 : Blk W (w.heap.size + 1 + 1) 29 #[.int .i64 0, .int .i64 0] := by rw [hW]; exact (B2.far (by omega) _).far (by omega) _
  have c0 : W.cell? ⟨w.heap.size, 0, none⟩ = some (.int .i64 pa) := C0.cell 0
  have c1 : W.cell? ⟨w.heap.size, 1, none⟩ = some (.int .i64 pb) := C0.cell 1
  have d0 : W.cell? ⟨w.heap.size + 1, 0, none⟩ = some (.int .i64 x) := C1.cell 0
  have d1 : W.cell? ⟨w.heap.size + 1, 1, none⟩ = some (.int .i64 y) := C1.cell 1
  have r0 : W.cell? ⟨w.heap.size + 1 + 1, 0, none⟩ = some (.int .i64 0) := C2.cell 0
  have r1 : W.cell? ⟨w.heap.size + 1 + 1, 1, none⟩ = some (.int .i64 0) := C2.cell 1
  have f0 := C2.frozen 0
  have f1 := C2.frozen 1
  clear hW k0 k1 B0 B1 B2 g0 g1 hb1
  refine wp_region_still_tail 13 (by kernel_rfl) (by kernel_rfl) ?_
  simp only [List.take_succ_cons, List.take_zero, List.drop_succ_cons, List.drop_zero]
  repeat (first | still_step | (refine wpStill_step (fun K hK => ?_); go_simp; (with_reducible refine ⟨_, still_of (stripe_limited _ _), hK _ ?_⟩); clear hK K) | (refine wpStill_step (fun K hK => ?_); go_simp; (with_reducible refine ⟨_, still_of (Hm1.out _), hK _ ?_⟩); clear hK K) | (refine wpStill_step (fun K hK => ?_); go_simp; (with_reducible refine ⟨_, still_of (Hm2.out _), hK _ ?_⟩); clear hK K))
  (try refine wpStill_nil ?_)
  change wpList _ _ _ _ _ W.drew
  go_wp2
  refine bodyPost_ret (v := .agg #[.int .i64 m1, .int .i64 m2]) (by simp [results, Tryz.results30, go_sem, r0, r1]) rfl ⟨rfl, ?_⟩
  exact (hl.put (by omega) _ |>.put (by omega) _).drew

end Go.Proofs.YtdhakoecjmaebaaGreat

/- The walks of stripe.Same and of turns of one point. -/
namespace Go.Proofs.YtdhakoecjmaebaaGreat
open Go.RowKit
set_option linter.unusedSimpArgs false
set_option linter.unusedVariables false

def sameP (rx ry : Int) (p q : Pt) : Bool := (phP rx ry p).x == (phP rx ry q).x && (phP rx ry p).y == (phP rx ry q).y
set_option maxHeartbeats 2000000 in
theorem stripe_Same (a b x y z v : Int) (w : World) : Calls Tryz.prog 13 #[.agg #[.int .i64 a, .int .i64 b], .agg #[.int .i64 x, .int .i64 y], .agg #[.int .i64 z, .int .i64 v]] w (Ret (.bool (sameP a b ⟨x, y⟩ ⟨z, v⟩)) w) := by
  have H1 := Lib.hid (fun W => stripe_Phase a b x y W)
  have H2 := Lib.hid (fun W => stripe_Phase a b z v W)
  unfold sameP
  unfold ptV at H1 H2
  generalize phP a b ⟨x, y⟩ = p at *
  generalize phP a b ⟨z, v⟩ = q at *
  obtain ⟨px, py⟩ := p
  obtain ⟨qx, qy⟩ := q
  simp only [] at H1 H2
  have hq := eql_spot px py qx qy
  go_enter Tryz.func13, Tryz.ntmps13
  go_wp2
  refine name_world (fun W hW => ?_)
  have hl : Later w W := by rw [hW]; exact (by repeat' (with_reducible first | exact Later.refl _ | assumption | refine Later.drew ?_ | refine Later.drewN ?_ _ | refine Later.alloc ?_ _ | refine Later.put ?_ (by omega) _ | refine Later.trans ?_ (by assumption)))
  have B0 : Blk W w.heap.size 23 #[.int .i64 a, .int .i64 b] := by rw [hW]; exact (by repeat' (with_reducible first | assumption | (refine Blk.newAt ?_; simp; done) | refine Blk.alloc ?_ _ | refine Blk.drew ?_ | refine Blk.drewN ?_ _ | refine Blk.later ?_ (by assumption)))
  have B1 : Blk W (w.heap.size + 1) 29 #[.int .i64 x, .int .i64 y] := by rw [hW]; exact (by repeat' (with_reducible first | assumption | (refine Blk.newAt ?_; simp; done) | refine Blk.alloc ?_ _ | refine Blk.drew ?_ | refine Blk.drewN ?_ _ | refine Blk.later ?_ (by assumption)))
  have B2 : Blk W (w.heap.size + 1 + 1) 29 #[.int .i64 z, .int .i64 v] := by rw [hW]; exact (by repeat' (with_reducible first | assumption | (refine Blk.newAt ?_; simp; done) | refine Blk.alloc ?_ _ | refine Blk.drew ?_ | refine Blk.drewN ?_ _ | refine Blk.later ?_ (by assumption)))
  have c0 : W.cell? ⟨w.heap.size, 0, none⟩ = some (.int .i64 a) := B0.cell 0
  have c1 : W.cell? ⟨w.heap.size, 1, none⟩ = some (.int .i64 b) := B0.cell 1
  have d0 : W.cell? ⟨w.heap.size + 1, 0, none⟩ = some (.int .i64 x) := B1.cell 0
  have d1 : W.cell? ⟨w.heap.size + 1, 1, none⟩ = some (.int .i64 y) := B1.cell 1
  have r0 : W.cell? ⟨w.heap.size + 1 + 1, 0, none⟩ = some (.int .i64 z) := B2.cell 0
  have r1 : W.cell? ⟨w.heap.size + 1 + 1, 1, none⟩ = some (.int .i64 v) := B2.cell 1
  clear hW B0 B1 B2
  go_region_held3 (fun w' : World => (∀ a : Addr, (W.cell? a).isSome = true → w'.cell? a = W.cell? a) ∧ Later W w') (first | assumption | exact keep_call (by assumption) (by assumption) | exact keep_call (by assumption) ((Later.refl _).alloc _) | exact keep_init _)
    (first | (go_at_call 30; (with_reducible refine (H1.out _).mono ?_); rintro e w1 ⟨rfl, hb1⟩) | (go_at_call 30; (with_reducible refine (H2.out _).mono ?_); rintro e w1 ⟨rfl, hb1⟩))
  all_goals
    rename_i hHw
    go_wp2
    go_ret
    exact ⟨rfl, hl.trans hHw.2⟩

/-- The quarters of a turn that count. -/
def qm (q : Int) : Int := bits .and .i64 q 3
theorem qm_bd (q : Int) : 0 ≤ qm q ∧ qm q ≤ 3 := by
  have hx : ((BitVec.ofInt 64 q) &&& (BitVec.ofInt 64 3)).toNat ≤ 3 := by
    rw [BitVec.toNat_and]
    exact Nat.and_le_right
  show 0 ≤ IntKind.i64.wrap ((BitVec.ofInt 64 q &&& BitVec.ofInt 64 3).toNat : Int) ∧ IntKind.i64.wrap ((BitVec.ofInt 64 q &&& BitVec.ofInt 64 3).toNat : Int) ≤ 3
  rw [IntWalk.i64_in _ (by omega)]
  omega

set_option maxHeartbeats 1000000 in
theorem turn_Norm (f : Bool) (q : Int) (w : World) : Calls Tryz.prog 29 #[.agg #[.bool f, .int .i64 q]] w (Ret (.agg #[.bool f, .int .i64 (qm q)]) w) := by
  go_enter Tryz.func29, Tryz.ntmps29
  go_wp2
  refine bodyPost_ret (v := .agg #[.bool f, .int .i64 (qm q)]) (by simp [results, Tryz.results29, go_sem, qm]) rfl ⟨rfl, ?_⟩
  exact (by repeat' (with_reducible first | exact Later.refl _ | assumption | refine Later.drew ?_ | refine Later.drewN ?_ _ | refine Later.alloc ?_ _ | refine Later.put ?_ (by omega) _ | refine Later.trans ?_ (by assumption)))

def rot (p : Pt) : Pt := ⟨-p.y, p.x⟩
def rotN : Nat → Pt → Pt
  | 0, p => p
  | n + 1, p => rotN n (rot p)
def flipP (f : Bool) (p : Pt) : Pt := if f = true then ⟨-p.x, p.y⟩ else p
def applyP (f : Bool) (q : Int) (p : Pt) : Pt := rotN (qm q).toNat (flipP f p)
/-- Within n of the origin, in both coordinates. -/
def NearP (n : Int) (p : Pt) : Prop := -n ≤ p.x ∧ p.x ≤ n ∧ -n ≤ p.y ∧ p.y ≤ n
theorem rot_near {n : Int} {p : Pt} (h : NearP n p) : NearP n (rot p) := by unfold NearP rot at *; simp only []; omega
theorem rotN_near {n : Int} : ∀ (k : Nat) {p : Pt}, NearP n p → NearP n (rotN k p) := by
  intro k
  induction k with
  | zero => intro p h; exact h
  | succ k ih => intro p h; exact ih (rot_near h)
theorem flip_near {n : Int} {f : Bool} {p : Pt} (h : NearP n p) : NearP n (flipP f p) := by
  unfold flipP
  split
  · unfold NearP at *; simp only []; omega
  · exact h
theorem apply_near {n : Int} {f : Bool} {q : Int} {p : Pt} (h : NearP n p) : NearP n (applyP f q p) := rotN_near _ (flip_near h)


set_option maxHeartbeats 2000000 in
theorem turn_Apply (f : Bool) (q x y : Int) (w : World) (hp : NearP 1048576 ⟨x, y⟩) : Calls Tryz.prog 12 #[.agg #[.bool f, .int .i64 q], .agg #[.int .i64 x, .int .i64 y]] w (Ret (ptV (applyP f q ⟨x, y⟩)) w) := by
  have hp' := hp
  unfold NearP at hp'
  simp only [] at hp'
  cases f
  · go_enter Tryz.func12, Tryz.ntmps12
    go_wp2
    refine name_world (fun W hW => ?_)
    have hl : Later w W := by rw [hW]; exact (by repeat' (with_reducible first | exact Later.refl _ | assumption | refine Later.drew ?_ | refine Later.drewN ?_ _ | refine Later.alloc ?_ _ | refine Later.put ?_ (by omega) _ | refine Later.trans ?_ (by assumption)))
    have B1 : Blk W (w.heap.size + 1) 29 #[.int .i64 x, .int .i64 y] := by rw [hW]; exact (by repeat' (with_reducible first | assumption | (refine Blk.newAt ?_; simp; done) | refine Blk.alloc ?_ _ | refine Blk.drew ?_ | refine Blk.drewN ?_ _ | refine Blk.later ?_ (by assumption)))
    have B2 : Blk W (w.heap.size + 1 + 1) 29 #[.int .i64 0, .int .i64 0] := by rw [hW]; exact (by repeat' (with_reducible first | assumption | (refine Blk.newAt ?_; simp; done) | refine Blk.alloc ?_ _ | refine Blk.drew ?_ | refine Blk.drewN ?_ _ | refine Blk.later ?_ (by assumption)))
    clear hW
    have hq := qm_bd q
    have hQ : bits BinOp.and IntKind.i64 q 3 = qm q := rfl
    obtain ⟨n, hn⟩ : ∃ n : Nat, qm q = (n : Int) := ⟨(qm q).toNat, by omega⟩
    have hn3 : n ≤ 3 := by omega
    have Hn := Lib.hid hn
    have Ha := Lib.hid (show applyP false q ⟨x, y⟩ = rotN n ⟨x, y⟩ by unfold applyP; rw [hn, Int.toNat_natCast]; rfl)
    generalize hNe : w.heap.size = N at *
    have HN := Lib.hid hNe
    clear hNe
    rw [hQ, hn]
    clear hQ hn hq
    go_loopw [14] (fun iv wr => ∃ (k : Nat) (px py : Int), k ≤ n ∧ iv = .int .i64 k ∧ rotN n ⟨x, y⟩ = rotN (n - k) ⟨px, py⟩ ∧ NearP 1048576 ⟨px, py⟩ ∧ Later w wr ∧ Blk wr (N + 1) 29 #[.int .i64 px, .int .i64 py] ∧ Blk wr (N + 1 + 1) 29 #[.int .i64 0, .int .i64 0]) (fun iv _ => n - (intOf iv).toNat)
    case atStart => exact ⟨0, x, y, by omega, rfl, rfl, by unfold NearP at *; simp only [] at *; omega, hl, B1, B2⟩
    case round =>
      clear B1 B2 hl
      obtain ⟨k, px, py, hk, rfl, he, hnr, hb, C1, C2⟩ := hrel
      have He := Lib.hid he
      clear he
      have hnr' := hnr
      unfold NearP at hnr'
      simp only [] at hnr'
      have c0 : wr.cell? ⟨N + 1, 0, none⟩ = some (.int .i64 px) := C1.cell 0
      have c1 : wr.cell? ⟨N + 1, 1, none⟩ = some (.int .i64 py) := C1.cell 1
      have f0 := C1.frozen 0
      have f1 := C1.frozen 1
      have hz1 := C1.lt
      by_cases hlt : k < n
      · go_wp2
        go_roundw
        case rel => exact ⟨k + 1, -py, px, by omega, by go_num, by rw [He.out, show n - k = (n - (k + 1)) + 1 by omega]; rfl, by unfold NearP; simp only []; omega, (hb.put (by rw [HN.out]; omega) _).put (by rw [HN.out]; omega) _, C1.two, (C2.far (by omega) _).far (by omega) _⟩
        case measure => simp [intOf]; omega
      · have r0 : wr.cell? ⟨N + 1 + 1, 0, none⟩ = some (.int .i64 0) := C2.cell 0
        have r1 : wr.cell? ⟨N + 1 + 1, 1, none⟩ = some (.int .i64 0) := C2.cell 1
        have e0 := C2.frozen 0
        have e1 := C2.frozen 1
        have hz2 := C2.lt
        go_wp2
        refine bodyPost_ret (v := .agg #[.int .i64 px, .int .i64 py]) (by simp [results, Tryz.results12, go_sem, r0, r1]) rfl ⟨?_, (hb.put (by rw [HN.out]; omega) _).put (by rw [HN.out]; omega) _⟩
        rw [Ha.out, He.out, show n - k = 0 by omega]
        rfl
  · go_enter Tryz.func12, Tryz.ntmps12
    go_wp2
    refine name_world (fun W hW => ?_)
    have hl : Later w W := by rw [hW]; exact (by repeat' (with_reducible first | exact Later.refl _ | assumption | refine Later.drew ?_ | refine Later.drewN ?_ _ | refine Later.alloc ?_ _ | refine Later.put ?_ (by omega) _ | refine Later.trans ?_ (by assumption)))
    have B1 : Blk W (w.heap.size + 1) 29 #[.int .i64 (-x), .int .i64 y] := by rw [hW]; exact (by repeat' (with_reducible first | assumption | (refine Blk.newAt ?_; simp; done) | refine Blk.alloc ?_ _ | refine Blk.drew ?_ | refine Blk.drewN ?_ _ | refine Blk.later ?_ (by assumption)))
    have B2 : Blk W (w.heap.size + 1 + 1) 29 #[.int .i64 0, .int .i64 0] := by rw [hW]; exact (by repeat' (with_reducible first | assumption | (refine Blk.newAt ?_; simp; done) | refine Blk.alloc ?_ _ | refine Blk.drew ?_ | refine Blk.drewN ?_ _ | refine Blk.later ?_ (by assumption)))
    clear hW
    have hq := qm_bd q
    have hQ : bits BinOp.and IntKind.i64 q 3 = qm q := rfl
    obtain ⟨n, hn⟩ : ∃ n : Nat, qm q = (n : Int) := ⟨(qm q).toNat, by omega⟩
    have hn3 : n ≤ 3 := by omega
    have Hn := Lib.hid hn
    have Ha := Lib.hid (show applyP true q ⟨x, y⟩ = rotN n ⟨(-x), y⟩ by unfold applyP; rw [hn, Int.toNat_natCast]; rfl)
    generalize hNe : w.heap.size = N at *
    have HN := Lib.hid hNe
    clear hNe
    rw [hQ, hn]
    clear hQ hn hq
    go_loopw [14] (fun iv wr => ∃ (k : Nat) (px py : Int), k ≤ n ∧ iv = .int .i64 k ∧ rotN n ⟨(-x), y⟩ = rotN (n - k) ⟨px, py⟩ ∧ NearP 1048576 ⟨px, py⟩ ∧ Later w wr ∧ Blk wr (N + 1) 29 #[.int .i64 px, .int .i64 py] ∧ Blk wr (N + 1 + 1) 29 #[.int .i64 0, .int .i64 0]) (fun iv _ => n - (intOf iv).toNat)
    case atStart => exact ⟨0, (-x), y, by omega, rfl, rfl, by unfold NearP at *; simp only [] at *; omega, hl, B1, B2⟩
    case round =>
      clear B1 B2 hl
      obtain ⟨k, px, py, hk, rfl, he, hnr, hb, C1, C2⟩ := hrel
      have He := Lib.hid he
      clear he
      have hnr' := hnr
      unfold NearP at hnr'
      simp only [] at hnr'
      have c0 : wr.cell? ⟨N + 1, 0, none⟩ = some (.int .i64 px) := C1.cell 0
      have c1 : wr.cell? ⟨N + 1, 1, none⟩ = some (.int .i64 py) := C1.cell 1
      have f0 := C1.frozen 0
      have f1 := C1.frozen 1
      have hz1 := C1.lt
      by_cases hlt : k < n
      · go_wp2
        go_roundw
        case rel => exact ⟨k + 1, -py, px, by omega, by go_num, by rw [He.out, show n - k = (n - (k + 1)) + 1 by omega]; rfl, by unfold NearP; simp only []; omega, (hb.put (by rw [HN.out]; omega) _).put (by rw [HN.out]; omega) _, C1.two, (C2.far (by omega) _).far (by omega) _⟩
        case measure => simp [intOf]; omega
      · have r0 : wr.cell? ⟨N + 1 + 1, 0, none⟩ = some (.int .i64 0) := C2.cell 0
        have r1 : wr.cell? ⟨N + 1 + 1, 1, none⟩ = some (.int .i64 0) := C2.cell 1
        have e0 := C2.frozen 0
        have e1 := C2.frozen 1
        have hz2 := C2.lt
        go_wp2
        refine bodyPost_ret (v := .agg #[.int .i64 px, .int .i64 py]) (by simp [results, Tryz.results12, go_sem, r0, r1]) rfl ⟨?_, (hb.put (by rw [HN.out]; omega) _).put (by rw [HN.out]; omega) _⟩
        rw [Ha.out, He.out, show n - k = 0 by omega]
        rfl

end Go.Proofs.YtdhakoecjmaebaaGreat

/- The walks of turn.Allowed, polyline.Move, polygon.Move, turn.Poly. -/
namespace Go.Proofs.YtdhakoecjmaebaaGreat
open Go.RowKit
set_option linter.unusedSimpArgs false
set_option linter.unusedVariables false

def allowB (g : Int) (f : Bool) (q : Int) : Bool := if f = true then false else if g = 1 then qm q == 0 else if g = 2 then (qm q == 0 || qm q == 2) else g == 4
set_option maxHeartbeats 2000000 in
theorem turn_Allowed (g : Int) (f : Bool) (q : Int) (w : World) : Calls Tryz.prog 11 #[.int .i64 g, .bool false, .agg #[.bool f, .int .i64 q]] w (Ret (.bool (allowB g f q)) w) := by
  have HN := Lib.hid (fun W => turn_Norm f q W)
  generalize hv : allowB g f q = v
  have Hv := Lib.hid hv
  clear hv
  unfold allowB at Hv
  generalize qm q = m at *
  go_enter Tryz.func11, Tryz.ntmps11
  go_upto_region 2 with (first | (go_at_call 29; (with_reducible refine (HN.out _).mono ?_); rintro e w1 ⟨rfl, hb1⟩; have B0 : Blk w1 w.heap.size 42 #[.bool f, .int .i64 q] := Blk.later (by repeat' (with_reducible first | assumption | (refine Blk.newAt ?_; simp; done) | refine Blk.alloc ?_ _ | refine Blk.drew ?_ | refine Blk.drewN ?_ _ | refine Blk.later ?_ (by assumption))) hb1; have c0 : w1.cell? ⟨w.heap.size, 0, none⟩ = some (.bool f) := B0.cell 0; have c1 : w1.cell? ⟨w.heap.size, 1, none⟩ = some (.int .i64 q) := B0.cell 1; have f0 := B0.frozen 0; have f1 := B0.frozen 1))
  have hl1 : Later w w1 := (by repeat' (with_reducible first | exact Later.refl _ | assumption | refine Later.drew ?_ | refine Later.drewN ?_ _ | refine Later.alloc ?_ _ | refine Later.put ?_ (by omega) _ | refine Later.trans ?_ (by assumption)))
  refine name_world (fun W hW => ?_)
  have hl : Later w W := by rw [hW]; exact (hl1.put (Nat.le_refl _) _).put (Nat.le_refl _) _
  have C0 : Blk W w.heap.size 42 #[.bool f, .int .i64 m] := by rw [hW]; exact B0.two
  have d0 : W.cell? ⟨w.heap.size, 0, none⟩ = some (.bool f) := C0.cell 0
  have d1 : W.cell? ⟨w.heap.size, 1, none⟩ = some (.int .i64 m) := C0.cell 1
  clear hW B0 c0 c1 f0 f1 hb1 hl1 C0 HN
  cases f
  · by_cases h1 : g = 1
    · subst h1
      go_wp2
      go_ret
      exact ⟨ret_bool (by rw [← Hv.out]; rfl), hl⟩
    · have e1 : (g == 1) = false := by simpa using h1
      by_cases h2 : g = 2
      · subst h2
        rcases hm : (m == 0) with _ | _
        · go_wp2
          go_ret
          exact ⟨ret_bool (by rw [← Hv.out, hm]; rfl), hl⟩
        · go_wp2
          go_ret
          exact ⟨ret_bool (by rw [← Hv.out, hm]; rfl), hl⟩
      · have e2 : (g == 2) = false := by simpa using h2
        rcases h4 : (g == 4) with _ | _
        · go_wp2
          go_ret
          exact ⟨ret_bool (by rw [← Hv.out, if_neg (by simp), if_neg h1, if_neg h2, h4]), hl⟩
        · go_wp2
          go_ret
          exact ⟨ret_bool (by rw [← Hv.out, if_neg (by simp), if_neg h1, if_neg h2, h4]), hl⟩
  · go_wp2
    go_ret
    exact ⟨ret_bool (by rw [← Hv.out]; rfl), hl⟩

def mvP (d : Pt) (p : Pt) : Pt := ⟨p.x + d.x, p.y + d.y⟩
/-- A new row of points of which the places `pos i`, i below k, are filled. -/
def RowP (wr : World) (R n k : Nat) (pos : Nat → Nat) (g : Pt → Pt) (ps : List Pt) : Prop :=
  ∃ F : Nat → Value, wr.rowIs R 29 (n * 2) F ∧ ∀ i p, ps[i]? = some p → i < k → F (pos i * 2) = .int .i64 (g p).x ∧ F (pos i * 2 + 1) = .int .i64 (g p).y
theorem RowP.later {w w' : World} {R n k : Nat} {pos : Nat → Nat} {g : Pt → Pt} {ps : List Pt} (h : RowP w R n k pos g ps) (hk : Later w w') : RowP w' R n k pos g ps :=
  let ⟨F, h1, h2⟩ := h; ⟨F, h1.of_block (hk.block R h1.lt), h2⟩
theorem RowP.alloc {w : World} {R n k : Nat} {pos : Nat → Nat} {g : Pt → Pt} {ps : List Pt} (h : RowP w R n k pos g ps) (o : Obj) : RowP (w.alloc o) R n k pos g ps :=
  let ⟨F, h1, h2⟩ := h; ⟨F, h1.alloc o, h2⟩
theorem RowP.put {w : World} {R n k : Nat} {pos : Nat → Nat} {g : Pt → Pt} {ps : List Pt} (h : RowP w R n k pos g ps) {p : Pt} (hp : ps[k]? = some p) (hinj : ∀ i j, i < ps.length → j < ps.length → pos i = pos j → i = j) {x y : Int} (hx : x = (g p).x) (hy : y = (g p).y) :
    RowP ((w.setCell ⟨R, pos k * 2, none⟩ (.int .i64 x)).setCell ⟨R, pos k * 2 + 1, none⟩ (.int .i64 y)) R n (k + 1) pos g ps := by
  obtain ⟨F, h1, h2⟩ := h
  refine ⟨_, (h1.set _ _).set _ _, fun i q hq hi => ?_⟩
  have hil := (List.getElem?_eq_some_iff.1 hq).1
  have hkl := (List.getElem?_eq_some_iff.1 hp).1
  by_cases hik : i = k
  · subst hik
    rw [hp] at hq
    cases hq
    subst hx hy
    constructor
    · rw [if_neg (by omega), if_pos rfl]
    · rw [if_pos rfl]
  · have hne : pos i ≠ pos k := fun h => hik (hinj i k hil hkl h)
    obtain ⟨a, b⟩ := h2 i q hq (by omega)
    rw [if_neg (by omega), if_neg (by omega), if_neg (by omega), if_neg (by omega)]
    exact ⟨a, b⟩
theorem RowP.cell {w : World} {R n k : Nat} {pos : Nat → Nat} {g : Pt → Pt} {ps : List Pt} (h : RowP w R n k pos g ps) {i : Nat} (hi : i < n) :
    (∃ u v, w.cell? ⟨R, i * 2, none⟩ = some u ∧ w.cell? ⟨R, i * 2 + 1, none⟩ = some v) ∧ w.frozen? ⟨R, i * 2, none⟩ = false ∧ w.frozen? ⟨R, i * 2 + 1, none⟩ = false ∧ R < w.heap.size := by
  obtain ⟨F, h1, h2⟩ := h
  exact ⟨⟨_, _, h1.cell (by omega), h1.cell (by omega)⟩, h1.frozen _, h1.frozen _, h1.lt⟩

set_option maxHeartbeats 2000000 in
theorem polyline_Move (A : Option Addr) (c : Nat) (ps : List Pt) (dx dy : Int) (w : World) (hn : ps.length ≤ 65536) (hp : Pts w A ps) (hps : ∀ p ∈ ps, NearP 1048576 p) (hd : NearP 1048576 ⟨dx, dy⟩) :
    Calls Tryz.prog 59 #[.slice A ps.length c, .agg #[.int .i64 dx, .int .i64 dy]] w (RetPts (ps.map (mvP ⟨dx, dy⟩)) w) := by
  obtain ⟨i0, hi, hz0, hz1, hz2⟩ := info_parts info_spot
  have hmk := fun W => run_make_rows (P := Tryz.prog) 28 29 i0 _ Tryz.underlying28 hi hz0 ps.length (by rw [hz2]; omega) (by omega) W
  rw [hz1] at hmk
  have hms : (madeCells (Value.agg #[Value.int IntKind.i64 0, Value.int IntKind.i64 0]).cells (ps.length * 2)).size = ps.length * 2 := size_madeCells _ _
  generalize madeCells (Value.agg #[Value.int IntKind.i64 0, Value.int IntKind.i64 0]).cells (ps.length * 2) = Z at *
  clear hi hz0 hz1 hz2
  unfold NearP at hd
  simp only [] at hd
  have Hms := Lib.hid hms
  clear hms
  go_enter Tryz.func59, Tryz.ntmps59
  go_wp2
  refine name_world (fun W hW => ?_)
  have hl : Later w W := by rw [hW]; exact (by repeat' (with_reducible first | exact Later.refl _ | assumption | refine Later.drew ?_ | refine Later.drewN ?_ _ | refine Later.alloc ?_ _ | refine Later.put ?_ (by omega) _ | refine Later.trans ?_ (by assumption)))
  have B0 : Blk W w.heap.size 29 #[.int .i64 dx, .int .i64 dy] := by rw [hW]; exact (by repeat' (with_reducible first | assumption | (refine Blk.newAt ?_; simp; done) | refine Blk.alloc ?_ _ | refine Blk.drew ?_ | refine Blk.drewN ?_ _ | refine Blk.later ?_ (by assumption)))
  have hR : RowP W (w.heap.size + 1) ps.length 0 (fun i => i) (mvP ⟨dx, dy⟩) ps := by
    refine ⟨fun i => Z.getD i undef, ?_, fun i p _ h => by omega⟩
    have := World.rowIs_alloc (w.alloc (.cells #[.int .i64 dx, .int .i64 dy] 29)) Z 29 (fun i => Z.getD i undef) (fun i hi => by simp [hi])
    rw [World.size_alloc, Hms.out] at this
    rw [hW]
    exact this
  clear hW hmk
  generalize hNe : w.heap.size = N at *
  have HN := Lib.hid hNe
  clear hNe
  go_loopw [13] (fun iv wr => ∃ k : Nat, k ≤ ps.length ∧ iv = .int .i64 k ∧ Later w wr ∧ Blk wr N 29 #[.int .i64 dx, .int .i64 dy] ∧ RowP wr (N + 1) ps.length k (fun i => i) (mvP ⟨dx, dy⟩) ps) (fun iv _ => ps.length - (intOf iv).toNat)
  case atStart => exact ⟨0, by omega, rfl, hl, B0, hR⟩
  case round =>
    clear hl B0 hR
    obtain ⟨k, hk, rfl, hb, B0, hR⟩ := hrel
    by_cases hlt : k < ps.length
    · obtain ⟨b, o, rfl, e1, e2⟩ := (hp.later hb).at_ hlt
      have hbz : b < wr.heap.size := World.block_lt_of_cell? _ _ e1
      have hpk := hps _ (List.getElem_mem hlt)
      have Hk := Lib.hid (List.getElem?_eq_getElem hlt)
      generalize ps[k] = p at *
      obtain ⟨px, py⟩ := p
      unfold NearP at hpk
      simp only [] at hpk e1 e2
      obtain ⟨⟨u, v, r0, r1⟩, f0, f1, hz⟩ := hR.cell hlt
      have HR := Lib.hid hR
      have HB := Lib.hid B0
      have c0 : wr.cell? ⟨N, 0, none⟩ = some (.int .i64 dx) := B0.cell 0
      have c1 : wr.cell? ⟨N, 1, none⟩ = some (.int .i64 dy) := B0.cell 1
      have zN := B0.lt
      have hk0 : (0 : Int) ≤ (k : Int) := by omega
      have hk1 : (k : Int) < (ps.length : Int) := by omega
      clear hR B0
      go_wp2
      go_roundw
      case rel => exact ⟨k + 1, by omega, by go_num, ((hb.put (by rw [HN.out]; omega) _).put (by rw [HN.out]; omega) _).alloc _, ((HB.out.far (by omega) _).far (by omega) _).alloc _, (HR.out.put Hk.out (fun _ _ _ _ h => h) rfl rfl).alloc _⟩
      case measure => simp [intOf]; omega
    · go_wp2
      go_ret
      refine ⟨some ⟨N + 1, 0, none⟩, ps.length, by simp, by simp, by unfold maxLen; omega, fun h0 => ⟨N + 1, 0, rfl, fun i q hq => ?_⟩, hb⟩
      rw [List.getElem?_map, Option.map_eq_some_iff] at hq
      obtain ⟨p, hp', rfl⟩ := hq
      obtain ⟨F, h1, h2⟩ := hR
      have hil := (List.getElem?_eq_some_iff.1 hp').1
      obtain ⟨a, b⟩ := h2 i p hp' (by omega)
      rw [Nat.zero_add, h1.cell (by omega), h1.cell (by omega), a, b]
      exact ⟨rfl, rfl⟩

set_option maxHeartbeats 1000000 in
theorem polygon_Move (A : Option Addr) (c : Nat) (ps : List Pt) (dx dy : Int) (w : World) (hn : ps.length ≤ 65536) (hp : Pts w A ps) (hps : ∀ p ∈ ps, NearP 1048576 p) (hd : NearP 1048576 ⟨dx, dy⟩) :
    Calls Tryz.prog 28 #[.slice A ps.length c, .agg #[.int .i64 dx, .int .i64 dy]] w (RetPts (ps.map (mvP ⟨dx, dy⟩)) w) := by
  have HM := Lib.hid (fun W hW => polyline_Move A c ps dx dy W hn hW hps hd)
  go_enter Tryz.func28, Tryz.ntmps28
  go_wp2_with (first | (go_at_call 59; (with_reducible refine (HM.out _ (hp.later (by repeat' (with_reducible first | exact Later.refl _ | assumption | refine Later.drew ?_ | refine Later.drewN ?_ _ | refine Later.alloc ?_ _ | refine Later.put ?_ (by omega) _ | refine Later.trans ?_ (by assumption))))).mono ?_); rintro e w1 ⟨A1, c1, rfl, h1, h2, h3, hb1⟩))
  go_ret
  exact ⟨A1, c1, by simp, h1, h2, h3, (by repeat' (with_reducible first | exact Later.refl _ | assumption | refine Later.drew ?_ | refine Later.drewN ?_ _ | refine Later.alloc ?_ _ | refine Later.put ?_ (by omega) _ | refine Later.trans ?_ (by assumption)))⟩

def turnPs (f : Bool) (q : Int) (ps : List Pt) : List Pt := if f = true then (ps.map (applyP f q)).reverse else ps.map (applyP f q)

set_option maxHeartbeats 4000000 in
theorem turn_Poly (f : Bool) (q : Int) (A : Option Addr) (c : Nat) (ps : List Pt) (w : World) (hn : ps.length ≤ 65536) (hp : Pts w A ps) (hps : ∀ p ∈ ps, NearP 1048576 p) :
    Calls Tryz.prog 17 #[.agg #[.bool f, .int .i64 q], .slice A ps.length c] w (RetPts (turnPs f q ps) w) := by
  obtain ⟨i0, hi, hz0, hz1, hz2⟩ := info_parts info_spot
  have hmk := fun W => run_make_rows (P := Tryz.prog) 28 29 i0 _ Tryz.underlying28 hi hz0 ps.length (by rw [hz2]; omega) (by omega) W
  rw [hz1] at hmk
  have hms : (madeCells (Value.agg #[Value.int IntKind.i64 0, Value.int IntKind.i64 0]).cells (ps.length * 2)).size = ps.length * 2 := size_madeCells _ _
  generalize madeCells (Value.agg #[Value.int IntKind.i64 0, Value.int IntKind.i64 0]).cells (ps.length * 2) = Z at *
  clear hi hz0 hz1 hz2
  have Hms := Lib.hid hms
  clear hms
  go_enter Tryz.func17, Tryz.ntmps17
  go_wp2
  refine name_world (fun W hW => ?_)
  have hl : Later w W := by rw [hW]; exact (by repeat' (with_reducible first | exact Later.refl _ | assumption | refine Later.drew ?_ | refine Later.drewN ?_ _ | refine Later.alloc ?_ _ | refine Later.put ?_ (by omega) _ | refine Later.trans ?_ (by assumption)))
  have B0 : Blk W w.heap.size 42 #[.bool f, .int .i64 q] := by rw [hW]; exact (by repeat' (with_reducible first | assumption | (refine Blk.newAt ?_; simp; done) | refine Blk.alloc ?_ _ | refine Blk.drew ?_ | refine Blk.drewN ?_ _ | refine Blk.later ?_ (by assumption)))
  have hR : RowP W (w.heap.size + 1) ps.length 0 (fun i => if f = true then ps.length - 1 - i else i) (applyP f q) ps := by
    refine ⟨fun i => Z.getD i undef, ?_, fun i p _ h => by omega⟩
    have := World.rowIs_alloc (w.alloc (.cells #[.bool f, .int .i64 q] 42)) Z 29 (fun i => Z.getD i undef) (fun i hi => by simp [hi])
    rw [World.size_alloc, Hms.out] at this
    rw [hW]
    exact this
  clear hW hmk
  generalize hNe : w.heap.size = N at *
  have HN := Lib.hid hNe
  clear hNe
  go_loopw [13] (fun iv wr => ∃ k : Nat, k ≤ ps.length ∧ iv = .int .i64 k ∧ Later w wr ∧ Blk wr N 42 #[.bool f, .int .i64 q] ∧ RowP wr (N + 1) ps.length k (fun i => if f = true then ps.length - 1 - i else i) (applyP f q) ps) (fun iv _ => ps.length - (intOf iv).toNat)
  case atStart => exact ⟨0, by omega, rfl, hl, B0, hR⟩
  case round =>
    clear hl B0 hR
    obtain ⟨k, hk, rfl, hb, B0, hR⟩ := hrel
    by_cases hlt : k < ps.length
    · obtain ⟨b, o, rfl, e1, e2⟩ := (hp.later hb).at_ hlt
      have hbz : b < wr.heap.size := World.block_lt_of_cell? _ _ e1
      have hpk := hps _ (List.getElem_mem hlt)
      have Hk := Lib.hid (List.getElem?_eq_getElem hlt)
      generalize ps[k] = p at *
      obtain ⟨px, py⟩ := p
      simp only [] at e1 e2
      have HA := Lib.hid (fun W => turn_Apply f q px py W hpk)
      generalize hap : applyP f q ⟨px, py⟩ = ap at HA
      have Hap := Lib.hid hap
      clear hap
      obtain ⟨ax, ay⟩ := ap
      unfold ptV at HA
      simp only [] at HA
      have HR := Lib.hid hR
      have HB := Lib.hid B0
      have c0 : wr.cell? ⟨N, 0, none⟩ = some (.bool f) := B0.cell 0
      have c1 : wr.cell? ⟨N, 1, none⟩ = some (.int .i64 q) := B0.cell 1
      have zN := B0.lt
      have hk0 : (0 : Int) ≤ (k : Int) := by omega
      have hk1 : (k : Int) < (ps.length : Int) := by omega
      clear hR B0
      cases f
      · go_wp2_with (first | (go_at_call 12; (with_reducible refine (HA.out _).mono ?_); rintro e w1 ⟨rfl, hb1⟩; have hl1 : Later wr w1 := ((Later.refl _).alloc _).trans hb1; obtain ⟨⟨u, v, r0, r1⟩, f0, f1, hz⟩ := (HR.out.later hl1).cell hlt))
        go_roundw
        case rel => exact ⟨k + 1, by omega, by go_num, ((hb.trans hl1).put (by rw [HN.out]; omega) _).put (by rw [HN.out]; omega) _, ((HB.out.later hl1).far (by omega) _).far (by omega) _, (HR.out.later hl1).put Hk.out (fun _ _ _ _ h => h) (by rw [Hap.out]) (by rw [Hap.out])⟩
        case measure => simp [intOf]; omega
      · have hpos : ps.length - 1 - k < ps.length := by omega
        have hi0 : (0 : Int) ≤ (ps.length : Int) - 1 - (k : Int) := by omega
        have hi1 : (ps.length : Int) - 1 - (k : Int) < (ps.length : Int) := by omega
        go_wp2_with (first | (go_at_call 12; (with_reducible refine (HA.out _).mono ?_); rintro e w1 ⟨rfl, hb1⟩; have hl1 : Later wr w1 := ((Later.refl _).alloc _).trans hb1; obtain ⟨⟨u, v, r0, r1⟩, f0, f1, hz⟩ := (HR.out.later hl1).cell hpos))
        go_roundw
        case rel => exact ⟨k + 1, by omega, by go_num, ((hb.trans hl1).put (by rw [HN.out]; omega) _).put (by rw [HN.out]; omega) _, ((HB.out.later hl1).far (by omega) _).far (by omega) _, (HR.out.later hl1).put Hk.out (fun i j hi hj h => by simp only [if_true] at h; omega) (by rw [Hap.out]) (by rw [Hap.out])⟩
        case measure => simp [intOf]; omega
    · go_wp2
      go_ret
      refine ⟨some ⟨N + 1, 0, none⟩, ps.length, by unfold turnPs; split <;> simp, by unfold turnPs; split <;> simp, by unfold maxLen; omega, fun h0 => ⟨N + 1, 0, rfl, fun i q' hq => ?_⟩, hb⟩
      obtain ⟨F, h1, h2⟩ := hR
      unfold turnPs at hq
      cases f
      · rw [if_neg (by simp), List.getElem?_map, Option.map_eq_some_iff] at hq
        obtain ⟨p, hp', rfl⟩ := hq
        have hil := (List.getElem?_eq_some_iff.1 hp').1
        obtain ⟨a, b⟩ := h2 i p hp' (by omega)
        dsimp only at a b
        rw [if_neg (by simp)] at a b
        rw [Nat.zero_add, h1.cell (by omega), h1.cell (by omega), a, b]
        exact ⟨rfl, rfl⟩
      · rw [if_pos rfl] at hq
        have hil : i < ps.length := by have := (List.getElem?_eq_some_iff.1 hq).1; simpa using this
        rw [List.getElem?_reverse (by simpa using hil), List.getElem?_map, List.length_map, Option.map_eq_some_iff] at hq
        obtain ⟨p, hp', rfl⟩ := hq
        obtain ⟨a, b⟩ := h2 (ps.length - 1 - i) p hp' (by omega)
        dsimp only at a b
        rw [if_pos rfl, show ps.length - 1 - (ps.length - 1 - i) = i by omega] at a b
        rw [Nat.zero_add, h1.cell (by omega), h1.cell (by omega), a, b]
        exact ⟨rfl, rfl⟩

end Go.Proofs.YtdhakoecjmaebaaGreat

/- Shapes and puts in memory; the walk of place.Poly. -/
namespace Go.Proofs.YtdhakoecjmaebaaGreat
open Go.RowKit
set_option linter.unusedSimpArgs false
set_option linter.unusedVariables false

/-- A shape. -/
structure Sh where
  pa : Option Addr
  pc : Nat
  ps : List Pt
  gr : Int
  mt : Bool
  ax : Int
  ay : Int
def Sh.cells (s : Sh) : List Value := [.slice s.pa s.ps.length s.pc, .int .i64 s.gr, .bool s.mt, .int .i64 s.ax, .int .i64 s.ay]
def ShOk (w : World) (s : Sh) : Prop := s.ps.length ≤ s.pc ∧ s.pc ≤ maxLen ∧ Pts w s.pa s.ps ∧ I64 s.gr ∧ I64 s.ax ∧ I64 s.ay
theorem ShOk.later {w w' : World} {s : Sh} (h : ShOk w s) (k : Later w w') : ShOk w' s := ⟨h.1, h.2.1, h.2.2.1.later k, h.2.2.2⟩
/-- A put. -/
structure Pu where
  sh : Int
  fl : Bool
  q : Int
  x : Int
  y : Int
def Pu.cells (p : Pu) : List Value := [.int .i64 p.sh, .bool p.fl, .int .i64 p.q, .int .i64 p.x, .int .i64 p.y]
def Pu.agg (p : Pu) : Value := .agg #[.int .i64 p.sh, .bool p.fl, .int .i64 p.q, .int .i64 p.x, .int .i64 p.y]
def PuOk (w : World) (p : Pu) : Prop := I64 p.sh ∧ I64 p.q ∧ I64 p.x ∧ I64 p.y
def Shapes (w : World) (A : Option Addr) (l : List Sh) : Prop := ListAt w 5 Sh.cells ShOk A l
theorem Shapes.later {w w' : World} {A : Option Addr} {l : List Sh} (h : Shapes w A l) (k : Later w w') : Shapes w' A l := ListAt.later h (fun _ ho => ho.later k) k
def Puts (w : World) (A : Option Addr) (l : List Pu) : Prop := ListAt w 5 Pu.cells PuOk A l
theorem Puts.later {w w' : World} {A : Option Addr} {l : List Pu} (h : Puts w A l) (k : Later w w') : Puts w' A l := ListAt.later h (fun _ ho => ho) k
theorem Shapes.at_ {w : World} {A : Option Addr} {l : List Sh} (h : Shapes w A l) {k : Nat} (hk : k < l.length) :
    ∃ b o, A = some ⟨b, o, none⟩ ∧ w.cell? ⟨b, o + k * 5, none⟩ = some (.slice (l[k]).pa (l[k]).ps.length (l[k]).pc) ∧ w.cell? ⟨b, o + k * 5 + 1, none⟩ = some (.int .i64 (l[k]).gr) ∧ w.cell? ⟨b, o + k * 5 + 2, none⟩ = some (.bool (l[k]).mt) ∧
      w.cell? ⟨b, o + k * 5 + 3, none⟩ = some (.int .i64 (l[k]).ax) ∧ w.cell? ⟨b, o + k * 5 + 4, none⟩ = some (.int .i64 (l[k]).ay) ∧ ShOk w (l[k]) := by
  obtain ⟨b, o, e, hc⟩ := h (by omega)
  obtain ⟨h1, h2⟩ := hc k _ (List.getElem?_eq_getElem hk)
  exact ⟨b, o, e, h1 0 _ rfl, h1 1 _ rfl, h1 2 _ rfl, h1 3 _ rfl, h1 4 _ rfl, h2⟩
theorem Puts.at_ {w : World} {A : Option Addr} {l : List Pu} (h : Puts w A l) {k : Nat} (hk : k < l.length) :
    ∃ b o, A = some ⟨b, o, none⟩ ∧ w.cell? ⟨b, o + k * 5, none⟩ = some (.int .i64 (l[k]).sh) ∧ w.cell? ⟨b, o + k * 5 + 1, none⟩ = some (.bool (l[k]).fl) ∧ w.cell? ⟨b, o + k * 5 + 2, none⟩ = some (.int .i64 (l[k]).q) ∧
      w.cell? ⟨b, o + k * 5 + 3, none⟩ = some (.int .i64 (l[k]).x) ∧ w.cell? ⟨b, o + k * 5 + 4, none⟩ = some (.int .i64 (l[k]).y) ∧ PuOk w (l[k]) := by
  obtain ⟨b, o, e, hc⟩ := h (by omega)
  obtain ⟨h1, h2⟩ := hc k _ (List.getElem?_eq_getElem hk)
  exact ⟨b, o, e, h1 0 _ rfl, h1 1 _ rfl, h1 2 _ rfl, h1 3 _ rfl, h1 4 _ rfl, h2⟩

def gs (l : List Sh) (k : Nat) : Sh := l.getD k ⟨none, 0, [], 0, false, 0, 0⟩
/-- The placed polygon, before it is checked. -/
def placedPs (p : Pu) (s : List Pt) : List Pt := (turnPs p.fl p.q s).map (mvP ⟨p.x, p.y⟩)
/-- What place.Poly returns. -/
def polyR (l : List Sh) (p : Pu) : List Pt × Int :=
  if p.sh < 0 ∨ (l.length : Int) ≤ p.sh ∨ outsideB p.x p.y = true then ([], 3)
  else if checkI (gs l p.sh.toNat).ps ≠ 0 then ([], checkI (gs l p.sh.toNat).ps)
  else if checkI (placedPs p (gs l p.sh.toNat).ps) ≠ 0 then ([], checkI (placedPs p (gs l p.sh.toNat).ps))
  else (placedPs p (gs l p.sh.toNat).ps, 0)
def PolyPost (r : List Pt × Int) (w : World) (e : Ending) (w' : World) : Prop :=
  (r.2 = 0 ∧ ∃ A c, e = .returned (.tuple #[.slice A r.1.length c, .int .i64 0]) ∧ r.1.length ≤ c ∧ c ≤ maxLen ∧ Pts w' A r.1 ∧ Later w w') ∨
  (r.2 ≠ 0 ∧ e = .returned (.tuple #[.slice none 0 0, .int .i64 r.2]) ∧ Later w w')

theorem near_of_check {ps : List Pt} (h : checkI ps = 0) : ∀ p ∈ ps, NearP 1048576 p := by
  unfold checkI at h
  split at h
  · cases h
  · split at h
    · cases h
    · split at h
      · cases h
      · rename_i h'
        intro p hp
        have : outsideB p.x p.y = false := by
          rw [Bool.not_eq_true, List.any_eq_false] at h'
          simpa using h' p hp
        simp only [outsideB, Bool.or_eq_false_iff, decide_eq_false_iff_not] at this
        unfold NearP
        omega
theorem len_of_check {ps : List Pt} (h : checkI ps = 0) : ps.length ≤ 40 := by
  unfold checkI at h
  split at h
  · cases h
  · omega
theorem turnPs_len (f : Bool) (q : Int) (ps : List Pt) : (turnPs f q ps).length = ps.length := by unfold turnPs; split <;> simp
theorem turnPs_near {n : Int} {f : Bool} {q : Int} {ps : List Pt} (h : ∀ p ∈ ps, NearP n p) : ∀ p ∈ turnPs f q ps, NearP n p := by
  intro p hp
  unfold turnPs at hp
  split at hp
  · rw [List.mem_reverse] at hp
    obtain ⟨r, hr, rfl⟩ := List.mem_map.1 hp
    exact apply_near (h r hr)
  · obtain ⟨r, hr, rfl⟩ := List.mem_map.1 hp
    exact apply_near (h r hr)
theorem outside_near {x y : Int} (h : outsideB x y = false) : NearP 1048576 ⟨x, y⟩ := by
  simp only [outsideB, Bool.or_eq_false_iff, decide_eq_false_iff_not] at h
  unfold NearP
  simp only []
  omega

section
variable (C : Option Addr) (cc : Nat) (l : List Sh) (p : Pu) (w : World)
set_option maxHeartbeats 2000000 in
theorem place_Poly_range (hl : l.length ≤ 65536) (h : p.sh < 0 ∨ (l.length : Int) ≤ p.sh ∨ outsideB p.x p.y = true) :
    Calls Tryz.prog 9 #[.slice C l.length cc, p.agg] w (Ret (.tuple #[.slice none 0 0, .int .i64 3]) w) := by
  unfold Pu.agg
  obtain ⟨sh, fl, q, x, y⟩ := p
  simp only [] at h
  by_cases h1 : sh < 0
  · have d1 : decide (sh < 0) = true := by simpa using h1
    go_enter Tryz.func9, Tryz.ntmps9
    go_wp2
    go_ret2
    exact ⟨rfl, (by repeat' (with_reducible first | exact Later.refl _ | assumption | refine Later.drew ?_ | refine Later.drewN ?_ _ | refine Later.alloc ?_ _ | refine Later.put ?_ (by omega) _ | refine Later.trans ?_ (by assumption)))⟩
  · have d1 : decide (sh < 0) = false := by simpa using h1
    by_cases h2 : (l.length : Int) ≤ sh
    · have d2 : decide ((l.length : Int) ≤ sh) = true := by simpa using h2
      go_enter Tryz.func9, Tryz.ntmps9
      go_wp2
      go_ret2
      exact ⟨rfl, (by repeat' (with_reducible first | exact Later.refl _ | assumption | refine Later.drew ?_ | refine Later.drewN ?_ _ | refine Later.alloc ?_ _ | refine Later.put ?_ (by omega) _ | refine Later.trans ?_ (by assumption)))⟩
    · have d2 : decide ((l.length : Int) ≤ sh) = false := by simpa using h2
      have h3 : outsideB x y = true := by
        rcases h with h | h | h
        · exact absurd h h1
        · exact absurd h h2
        · exact h
      have HB := Lib.hid (fun W => place_beyond x y W)
      rw [h3] at HB
      clear h h3
      go_enter Tryz.func9, Tryz.ntmps9
      go_wp2_with (first | (go_at_call 26; (with_reducible refine (HB.out _).mono ?_); rintro e w1 ⟨rfl, hb1⟩))
      go_ret2
      exact ⟨rfl, (by repeat' (with_reducible first | exact Later.refl _ | assumption | refine Later.drew ?_ | refine Later.drewN ?_ _ | refine Later.alloc ?_ _ | refine Later.put ?_ (by omega) _ | refine Later.trans ?_ (by assumption)))⟩

set_option maxHeartbeats 4000000 in
theorem place_Poly_in (hs : Shapes w C l) (hl : l.length ≤ 65536) (k : Nat) (hk : k < l.length) (hsh : p.sh = (k : Int)) (ho : outsideB p.x p.y = false) (hlen : (l[k]).ps.length ≤ 1099511627776) :
    Calls Tryz.prog 9 #[.slice C l.length cc, p.agg] w (PolyPost (if checkI (l[k]).ps ≠ 0 then ([], checkI (l[k]).ps) else if checkI (placedPs p (l[k]).ps) ≠ 0 then ([], checkI (placedPs p (l[k]).ps)) else (placedPs p (l[k]).ps, 0)) w) := by
  have HB := Lib.hid (fun W => place_beyond p.x p.y W)
  rw [ho] at HB
  have hnr := outside_near ho
  unfold Pu.agg
  obtain ⟨sh, fl, q, x, y⟩ := p
  simp only [] at hsh HB hnr
  subst hsh
  obtain ⟨b, o, rfl, e0, _, _, _, _, hok⟩ := hs.at_ hk
  obtain ⟨h1, h2, h3, _⟩ := hok
  generalize l[k] = s at *
  obtain ⟨pa, pc, ps, gr, mt, ax, ay⟩ := s
  simp only [] at e0 h1 h2 h3 hlen
  have d1 : decide ((k : Int) < 0) = false := by simp
  have d2 : decide (l.length ≤ k) = false := by simp; omega
  have hk0 : (0 : Int) ≤ (k : Int) := by omega
  have hk1 : (k : Int) < (l.length : Int) := by omega
  have hbz0 : b < w.heap.size := World.block_lt_of_cell? _ _ e0
  have HC := Lib.hid (fun W (hW : Pts W pa ps) => polygon_Check pa pc ps W hlen h1 hW)
  show Calls _ _ _ _ (PolyPost (if checkI ps ≠ 0 then ([], checkI ps) else if checkI (placedPs ⟨(k : Int), fl, q, x, y⟩ ps) ≠ 0 then ([], checkI (placedPs ⟨(k : Int), fl, q, x, y⟩ ps)) else (placedPs ⟨(k : Int), fl, q, x, y⟩ ps, 0)) w)
  rcases Classical.em (checkI ps = 0) with hc | hc
  · have hps := near_of_check hc
    have h40 := len_of_check hc
    rw [if_neg (by simpa using hc)]
    rw [hc] at HC
    have HT := Lib.hid (fun W (hW : Pts W pa ps) => turn_Poly fl q pa pc ps W (by omega) hW hps)
    have htn := turnPs_near (f := fl) (q := q) hps
    have htl := turnPs_len fl q ps
    have HM := Lib.hid (fun A1 c1 W (hW : Pts W A1 (turnPs fl q ps)) => polygon_Move A1 c1 (turnPs fl q ps) x y W (by rw [htl]; omega) hW htn hnr)
    have hpl : (placedPs ⟨(k : Int), fl, q, x, y⟩ ps).length ≤ 40 := by unfold placedPs; rw [List.length_map, htl]; exact h40
    have HM' : ∀ A1 c1 W, Pts W A1 (turnPs fl q ps) → Calls Tryz.prog 28 #[.slice A1 (turnPs fl q ps).length c1, .agg #[.int .i64 x, .int .i64 y]] W (RetPts (placedPs ⟨(k : Int), fl, q, x, y⟩ ps) W) := fun A1 c1 W h => HM.out A1 c1 W h
    have HM2 := Lib.hid HM'
    clear HM HM' hc htn htl
    generalize placedPs ⟨(k : Int), fl, q, x, y⟩ ps = r at *
    generalize turnPs fl q ps = t at *
    have HC2 := Lib.hid (fun A1 c1 W (h1 : r.length ≤ c1) (hW : Pts W A1 r) => polygon_Check A1 c1 r W (by omega) h1 hW)
    rcases Classical.em (checkI r = 0) with hc2 | hc2
    · rw [if_neg (by simpa using hc2)]
      rw [hc2] at HC2
      clear hc2
      go_enter Tryz.func9, Tryz.ntmps9
      go_upto_region 7 with (first | (go_at_call 26; (with_reducible refine (HB.out _).mono ?_); rintro e w1 ⟨rfl, hb1⟩; have e1 : w1.cell? ⟨b, o + k * 5, none⟩ = some (.slice pa ps.length pc) := hb1.cell (Later.cell ((Later.refl w).alloc _) e0); have c0 : w1.cell? ⟨w.heap.size, 0, none⟩ = some (.int .i64 k) := hb1.cell (by simp [go_sem]); have c1 : w1.cell? ⟨w.heap.size, 1, none⟩ = some (.bool fl) := hb1.cell (by simp [go_sem]); have c2 : w1.cell? ⟨w.heap.size, 2, none⟩ = some (.int .i64 q) := hb1.cell (by simp [go_sem]); have c3 : w1.cell? ⟨w.heap.size, 3, none⟩ = some (.int .i64 x) := hb1.cell (by simp [go_sem]); have c4 : w1.cell? ⟨w.heap.size, 4, none⟩ = some (.int .i64 y) := hb1.cell (by simp [go_sem]); have hbz : b < w1.heap.size := World.block_lt_of_cell? _ _ e1) | (go_at_call 27; (with_reducible refine (HC.out _ (h3.later (by repeat' (with_reducible first | exact Later.refl _ | assumption | refine Later.drew ?_ | refine Later.drewN ?_ _ | refine Later.alloc ?_ _ | refine Later.put ?_ (by omega) _ | refine Later.trans ?_ (by assumption))))).mono ?_); rintro e w2 ⟨rfl, hb2⟩))
      have hl2 : Later w w2 := (by repeat' (with_reducible first | exact Later.refl _ | assumption | refine Later.drew ?_ | refine Later.drewN ?_ _ | refine Later.alloc ?_ _ | refine Later.put ?_ (by omega) _ | refine Later.trans ?_ (by assumption)))
      have m1 := hb2.cell c1
      have m2 := hb2.cell c2
      have m3 := hb2.cell c3
      have m4 := hb2.cell c4
      have hp2 := h3.later hl2
      clear e1 c0 c1 c2 c3 c4 hb1 hb2
      go_region_held3 (fun w' : World => (∀ a : Addr, (w2.cell? a).isSome = true → w'.cell? a = w2.cell? a) ∧ Later w2 w') (first | assumption | exact keep_call (by assumption) (by assumption) | exact keep_call (by assumption) ((Later.refl _).alloc _) | exact keep_init _)
        (first | (go_at_call 17; (with_reducible refine (HT.out _ (hp2.later (by (have hk := (by assumption : _ ∧ Later w2 _).2); exact hk))).mono ?_); rintro e w3 ⟨A3, c3, rfl, g1, g2, g3, hb3⟩) | (go_at_call 28; (with_reducible refine (HM2.out _ _ _ g3).mono ?_); rintro e w4 ⟨A4, c4, rfl, g4, g5, g6, hb4⟩))
      rename_i hHw
      have hl4 := hl2.trans hHw.2
      clear hHw m1 m2 m3 m4
      go_wp2_with (first | (go_at_call 27; (with_reducible refine (HC2.out _ _ _ g4 g6).mono ?_); rintro e w5 ⟨rfl, hb5⟩))
      go_ret2
      exact .inl ⟨rfl, A4, c4, rfl, g4, g5, g6.later hb5, hl4.trans hb5⟩
    · rw [if_pos hc2]
      have h0 : (checkI r != 0) = true := by simpa using hc2
      have Hc2 := Lib.hid hc2
      clear hc2
      generalize checkI r = er at *
      go_enter Tryz.func9, Tryz.ntmps9
      go_upto_region 7 with (first | (go_at_call 26; (with_reducible refine (HB.out _).mono ?_); rintro e w1 ⟨rfl, hb1⟩; have e1 : w1.cell? ⟨b, o + k * 5, none⟩ = some (.slice pa ps.length pc) := hb1.cell (Later.cell ((Later.refl w).alloc _) e0); have c0 : w1.cell? ⟨w.heap.size, 0, none⟩ = some (.int .i64 k) := hb1.cell (by simp [go_sem]); have c1 : w1.cell? ⟨w.heap.size, 1, none⟩ = some (.bool fl) := hb1.cell (by simp [go_sem]); have c2 : w1.cell? ⟨w.heap.size, 2, none⟩ = some (.int .i64 q) := hb1.cell (by simp [go_sem]); have c3 : w1.cell? ⟨w.heap.size, 3, none⟩ = some (.int .i64 x) := hb1.cell (by simp [go_sem]); have c4 : w1.cell? ⟨w.heap.size, 4, none⟩ = some (.int .i64 y) := hb1.cell (by simp [go_sem]); have hbz : b < w1.heap.size := World.block_lt_of_cell? _ _ e1) | (go_at_call 27; (with_reducible refine (HC.out _ (h3.later (by repeat' (with_reducible first | exact Later.refl _ | assumption | refine Later.drew ?_ | refine Later.drewN ?_ _ | refine Later.alloc ?_ _ | refine Later.put ?_ (by omega) _ | refine Later.trans ?_ (by assumption))))).mono ?_); rintro e w2 ⟨rfl, hb2⟩))
      have hl2 : Later w w2 := (by repeat' (with_reducible first | exact Later.refl _ | assumption | refine Later.drew ?_ | refine Later.drewN ?_ _ | refine Later.alloc ?_ _ | refine Later.put ?_ (by omega) _ | refine Later.trans ?_ (by assumption)))
      have m1 := hb2.cell c1
      have m2 := hb2.cell c2
      have m3 := hb2.cell c3
      have m4 := hb2.cell c4
      have hp2 := h3.later hl2
      clear e1 c0 c1 c2 c3 c4 hb1 hb2
      go_region_held3 (fun w' : World => (∀ a : Addr, (w2.cell? a).isSome = true → w'.cell? a = w2.cell? a) ∧ Later w2 w') (first | assumption | exact keep_call (by assumption) (by assumption) | exact keep_call (by assumption) ((Later.refl _).alloc _) | exact keep_init _)
        (first | (go_at_call 17; (with_reducible refine (HT.out _ (hp2.later (by (have hk := (by assumption : _ ∧ Later w2 _).2); exact hk))).mono ?_); rintro e w3 ⟨A3, c3, rfl, g1, g2, g3, hb3⟩) | (go_at_call 28; (with_reducible refine (HM2.out _ _ _ g3).mono ?_); rintro e w4 ⟨A4, c4, rfl, g4, g5, g6, hb4⟩))
      rename_i hHw
      have hl4 := hl2.trans hHw.2
      clear hHw m1 m2 m3 m4
      go_wp2_with (first | (go_at_call 27; (with_reducible refine (HC2.out _ _ _ g4 g6).mono ?_); rintro e w5 ⟨rfl, hb5⟩))
      go_ret2
      exact .inr ⟨Hc2.out, rfl, hl4.trans hb5⟩
  · rw [if_pos hc]
    have h0 : (checkI ps != 0) = true := by simpa using hc
    have Hc := Lib.hid hc
    clear hc
    generalize checkI ps = er at *
    go_enter Tryz.func9, Tryz.ntmps9
    go_wp2_with (first | (go_at_call 26; (with_reducible refine (HB.out _).mono ?_); rintro e w1 ⟨rfl, hb1⟩; have e1 : w1.cell? ⟨b, o + k * 5, none⟩ = some (.slice pa ps.length pc) := hb1.cell (Later.cell ((Later.refl w).alloc _) e0); have c0 : w1.cell? ⟨w.heap.size, 0, none⟩ = some (.int .i64 k) := hb1.cell (by simp [go_sem]); have hbz : b < w1.heap.size := World.block_lt_of_cell? _ _ e1) | (go_at_call 27; (with_reducible refine (HC.out _ (h3.later (by repeat' (with_reducible first | exact Later.refl _ | assumption | refine Later.drew ?_ | refine Later.drewN ?_ _ | refine Later.alloc ?_ _ | refine Later.put ?_ (by omega) _ | refine Later.trans ?_ (by assumption))))).mono ?_); rintro e w2 ⟨rfl, hb2⟩))
    go_ret2
    exact .inr ⟨Hc.out, rfl, (by repeat' (with_reducible first | exact Later.refl _ | assumption | refine Later.drew ?_ | refine Later.drewN ?_ _ | refine Later.alloc ?_ _ | refine Later.put ?_ (by omega) _ | refine Later.trans ?_ (by assumption)))⟩

theorem place_Poly (hs : Shapes w C l) (hl : l.length ≤ 65536) (hlen : ∀ s ∈ l, s.ps.length ≤ 1099511627776) :
    Calls Tryz.prog 9 #[.slice C l.length cc, p.agg] w (PolyPost (polyR l p) w) := by
  unfold polyR
  by_cases h : p.sh < 0 ∨ (l.length : Int) ≤ p.sh ∨ outsideB p.x p.y = true
  · rw [if_pos h]
    exact (place_Poly_range C cc l p w hl h).mono fun e w' ⟨he, hw⟩ => .inr ⟨by decide, he, hw⟩
  · rw [if_neg h]
    have hk : p.sh.toNat < l.length := by omega
    have hg : gs l p.sh.toNat = l[p.sh.toNat] := by rw [gs]; simp [hk]
    rw [hg]
    refine place_Poly_in C cc l p w hs hl p.sh.toNat hk (by omega) ?_ (hlen _ (List.getElem_mem hk))
    rcases ho : outsideB p.x p.y with _ | _
    · rfl
    · exact absurd (.inr (.inr ho)) h
end

end Go.Proofs.YtdhakoecjmaebaaGreat
