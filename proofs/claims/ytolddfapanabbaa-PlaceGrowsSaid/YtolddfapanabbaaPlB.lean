/-
  The walks of stripe.Same and of turns of one point.
-/
import Derived.Test.YtolddfapanabbaaPlA
import Derived.Laws.BitsAllLaws
import Derived.Laws.BitsLemmas
namespace Go.Proofs.Ytolddfapanabbaa
open Go.RowKit
set_option linter.unusedSimpArgs false
set_option linter.unusedVariables false

def sameP (rx ry : Int) (p q : Pt) : Bool := (phP rx ry p).x == (phP rx ry q).x && (phP rx ry p).y == (phP rx ry q).y
set_option maxHeartbeats 2000000 in
theorem stripe_Same (a b x y z v : Int) (w : World) : Calls Try.prog 93 #[.agg #[.int .i64 a, .int .i64 b], .agg #[.int .i64 x, .int .i64 y], .agg #[.int .i64 z, .int .i64 v]] w (Ret (.bool (sameP a b ⟨x, y⟩ ⟨z, v⟩)) w) := by
  have H1 := Lib.hid (fun W => stripe_Phase a b x y W)
  have H2 := Lib.hid (fun W => stripe_Phase a b z v W)
  unfold sameP
  unfold ptV at H1 H2
  generalize phP a b ⟨x, y⟩ = p at *
  generalize phP a b ⟨z, v⟩ = q at *
  obtain ⟨px, py⟩ := p
  obtain ⟨qx, qy⟩ := q
  simp only [] at H1 H2
  have hq := eql_spot px py qx qy
  go_enter Try.func93, Try.ntmps93
  go_wp2
  refine name_world (fun W hW => ?_)
  have hl : Later w W := by rw [hW]; exact (by repeat' (with_reducible first | exact Later.refl _ | assumption | refine Later.drew ?_ | refine Later.drewN ?_ _ | refine Later.alloc ?_ _ | refine Later.put ?_ (by omega) _ | refine Later.trans ?_ (by assumption)))
  have B0 : Blk W w.heap.size 39 #[.int .i64 a, .int .i64 b] := by rw [hW]; exact (by repeat' (with_reducible first | assumption | (refine Blk.newAt ?_; simp; done) | refine Blk.alloc ?_ _ | refine Blk.drew ?_ | refine Blk.drewN ?_ _ | refine Blk.later ?_ (by assumption)))
  have B1 : Blk W (w.heap.size + 1) 78 #[.int .i64 x, .int .i64 y] := by rw [hW]; exact (by repeat' (with_reducible first | assumption | (refine Blk.newAt ?_; simp; done) | refine Blk.alloc ?_ _ | refine Blk.drew ?_ | refine Blk.drewN ?_ _ | refine Blk.later ?_ (by assumption)))
  have B2 : Blk W (w.heap.size + 1 + 1) 78 #[.int .i64 z, .int .i64 v] := by rw [hW]; exact (by repeat' (with_reducible first | assumption | (refine Blk.newAt ?_; simp; done) | refine Blk.alloc ?_ _ | refine Blk.drew ?_ | refine Blk.drewN ?_ _ | refine Blk.later ?_ (by assumption)))
  have c0 : W.cell? ⟨w.heap.size, 0, none⟩ = some (.int .i64 a) := B0.cell 0
  have c1 : W.cell? ⟨w.heap.size, 1, none⟩ = some (.int .i64 b) := B0.cell 1
  have d0 : W.cell? ⟨w.heap.size + 1, 0, none⟩ = some (.int .i64 x) := B1.cell 0
  have d1 : W.cell? ⟨w.heap.size + 1, 1, none⟩ = some (.int .i64 y) := B1.cell 1
  have r0 : W.cell? ⟨w.heap.size + 1 + 1, 0, none⟩ = some (.int .i64 z) := B2.cell 0
  have r1 : W.cell? ⟨w.heap.size + 1 + 1, 1, none⟩ = some (.int .i64 v) := B2.cell 1
  clear hW B0 B1 B2
  go_region_held3 (fun w' : World => (∀ a : Addr, (W.cell? a).isSome = true → w'.cell? a = W.cell? a) ∧ Later W w') (first | assumption | exact keep_call (by assumption) (by assumption) | exact keep_call (by assumption) ((Later.refl _).alloc _) | exact keep_init _)
    (first | (go_at_call 118; (with_reducible refine (H1.out _).mono ?_); rintro e w1 ⟨rfl, hb1⟩) | (go_at_call 118; (with_reducible refine (H2.out _).mono ?_); rintro e w1 ⟨rfl, hb1⟩))
  all_goals
    rename_i hHw
    go_wp2
    go_ret
    exact ⟨rfl, hl.trans hHw.2⟩

/-- The quarters of a turn that count. -/
def qm (q : Int) : Int := bits .and .i64 q 3
theorem qm_bd (q : Int) : 0 ≤ qm q ∧ qm q ≤ 3 := by
  have hx : ((BitVec.ofInt 64 q) &&& (BitVec.ofInt 64 3)).toNat ≤ 3 := by
    rw [BitVec.toNat_and]
    exact Nat.and_le_right
  show 0 ≤ IntKind.i64.wrap ((BitVec.ofInt 64 q &&& BitVec.ofInt 64 3).toNat : Int) ∧ IntKind.i64.wrap ((BitVec.ofInt 64 q &&& BitVec.ofInt 64 3).toNat : Int) ≤ 3
  rw [IntWalk.i64_in _ (by omega)]
  omega

set_option maxHeartbeats 1000000 in
theorem turn_Norm (f : Bool) (q : Int) (w : World) : Calls Try.prog 92 #[.agg #[.bool f, .int .i64 q]] w (Ret (.agg #[.bool f, .int .i64 (qm q)]) w) := by
  go_enter Try.func92, Try.ntmps92
  go_wp2
  refine bodyPost_ret (v := .agg #[.bool f, .int .i64 (qm q)]) (by simp [results, Try.results92, go_sem, qm]) rfl ⟨rfl, ?_⟩
  exact (by repeat' (with_reducible first | exact Later.refl _ | assumption | refine Later.drew ?_ | refine Later.drewN ?_ _ | refine Later.alloc ?_ _ | refine Later.put ?_ (by omega) _ | refine Later.trans ?_ (by assumption)))

def rot (p : Pt) : Pt := ⟨-p.y, p.x⟩
def rotN : Nat → Pt → Pt
  | 0, p => p
  | n + 1, p => rotN n (rot p)
def flipP (f : Bool) (p : Pt) : Pt := if f = true then ⟨-p.x, p.y⟩ else p
def applyP (f : Bool) (q : Int) (p : Pt) : Pt := rotN (qm q).toNat (flipP f p)
/-- Within n of the origin, in both coordinates. -/
def NearP (n : Int) (p : Pt) : Prop := -n ≤ p.x ∧ p.x ≤ n ∧ -n ≤ p.y ∧ p.y ≤ n
theorem rot_near {n : Int} {p : Pt} (h : NearP n p) : NearP n (rot p) := by unfold NearP rot at *; simp only []; omega
theorem rotN_near {n : Int} : ∀ (k : Nat) {p : Pt}, NearP n p → NearP n (rotN k p) := by
  intro k
  induction k with
  | zero => intro p h; exact h
  | succ k ih => intro p h; exact ih (rot_near h)
theorem flip_near {n : Int} {f : Bool} {p : Pt} (h : NearP n p) : NearP n (flipP f p) := by
  unfold flipP
  split
  · unfold NearP at *; simp only []; omega
  · exact h
theorem apply_near {n : Int} {f : Bool} {q : Int} {p : Pt} (h : NearP n p) : NearP n (applyP f q p) := rotN_near _ (flip_near h)


set_option maxHeartbeats 2000000 in
theorem turn_Apply (f : Bool) (q x y : Int) (w : World) (hp : NearP 1048576 ⟨x, y⟩) : Calls Try.prog 87 #[.agg #[.bool f, .int .i64 q], .agg #[.int .i64 x, .int .i64 y]] w (Ret (ptV (applyP f q ⟨x, y⟩)) w) := by
  have hp' := hp
  unfold NearP at hp'
  simp only [] at hp'
  cases f
  · go_enter Try.func87, Try.ntmps87
    go_wp2
    refine name_world (fun W hW => ?_)
    have hl : Later w W := by rw [hW]; exact (by repeat' (with_reducible first | exact Later.refl _ | assumption | refine Later.drew ?_ | refine Later.drewN ?_ _ | refine Later.alloc ?_ _ | refine Later.put ?_ (by omega) _ | refine Later.trans ?_ (by assumption)))
    have B1 : Blk W (w.heap.size + 1) 78 #[.int .i64 x, .int .i64 y] := by rw [hW]; exact (by repeat' (with_reducible first | assumption | (refine Blk.newAt ?_; simp; done) | refine Blk.alloc ?_ _ | refine Blk.drew ?_ | refine Blk.drewN ?_ _ | refine Blk.later ?_ (by assumption)))
    have B2 : Blk W (w.heap.size + 1 + 1) 78 #[.int .i64 0, .int .i64 0] := by rw [hW]; exact (by repeat' (with_reducible first | assumption | (refine Blk.newAt ?_; simp; done) | refine Blk.alloc ?_ _ | refine Blk.drew ?_ | refine Blk.drewN ?_ _ | refine Blk.later ?_ (by assumption)))
    clear hW
    have hq := qm_bd q
    have hQ : bits BinOp.and IntKind.i64 q 3 = qm q := rfl
    obtain ⟨n, hn⟩ : ∃ n : Nat, qm q = (n : Int) := ⟨(qm q).toNat, by omega⟩
    have hn3 : n ≤ 3 := by omega
    have Hn := Lib.hid hn
    have Ha := Lib.hid (show applyP false q ⟨x, y⟩ = rotN n ⟨x, y⟩ by unfold applyP; rw [hn, Int.toNat_natCast]; rfl)
    generalize hNe : w.heap.size = N at *
    have HN := Lib.hid hNe
    clear hNe
    rw [hQ, hn]
    clear hQ hn hq
    go_loopw [14] (fun iv wr => ∃ (k : Nat) (px py : Int), k ≤ n ∧ iv = .int .i64 k ∧ rotN n ⟨x, y⟩ = rotN (n - k) ⟨px, py⟩ ∧ NearP 1048576 ⟨px, py⟩ ∧ Later w wr ∧ Blk wr (N + 1) 78 #[.int .i64 px, .int .i64 py] ∧ Blk wr (N + 1 + 1) 78 #[.int .i64 0, .int .i64 0]) (fun iv _ => n - (intOf iv).toNat)
    case atStart => exact ⟨0, x, y, by omega, rfl, rfl, by unfold NearP at *; simp only [] at *; omega, hl, B1, B2⟩
    case round =>
      clear B1 B2 hl
      obtain ⟨k, px, py, hk, rfl, he, hnr, hb, C1, C2⟩ := hrel
      have He := Lib.hid he
      clear he
      have hnr' := hnr
      unfold NearP at hnr'
      simp only [] at hnr'
      have c0 : wr.cell? ⟨N + 1, 0, none⟩ = some (.int .i64 px) := C1.cell 0
      have c1 : wr.cell? ⟨N + 1, 1, none⟩ = some (.int .i64 py) := C1.cell 1
      have f0 := C1.frozen 0
      have f1 := C1.frozen 1
      have hz1 := C1.lt
      by_cases hlt : k < n
      · go_wp2
        go_roundw
        case rel => exact ⟨k + 1, -py, px, by omega, by go_num, by rw [He.out, show n - k = (n - (k + 1)) + 1 by omega]; rfl, by unfold NearP; simp only []; omega, (hb.put (by rw [HN.out]; omega) _).put (by rw [HN.out]; omega) _, C1.two, (C2.far (by omega) _).far (by omega) _⟩
        case measure => simp [intOf]; omega
      · have r0 : wr.cell? ⟨N + 1 + 1, 0, none⟩ = some (.int .i64 0) := C2.cell 0
        have r1 : wr.cell? ⟨N + 1 + 1, 1, none⟩ = some (.int .i64 0) := C2.cell 1
        have e0 := C2.frozen 0
        have e1 := C2.frozen 1
        have hz2 := C2.lt
        go_wp2
        refine bodyPost_ret (v := .agg #[.int .i64 px, .int .i64 py]) (by simp [results, Try.results87, go_sem, r0, r1]) rfl ⟨?_, (hb.put (by rw [HN.out]; omega) _).put (by rw [HN.out]; omega) _⟩
        rw [Ha.out, He.out, show n - k = 0 by omega]
        rfl
  · go_enter Try.func87, Try.ntmps87
    go_wp2
    refine name_world (fun W hW => ?_)
    have hl : Later w W := by rw [hW]; exact (by repeat' (with_reducible first | exact Later.refl _ | assumption | refine Later.drew ?_ | refine Later.drewN ?_ _ | refine Later.alloc ?_ _ | refine Later.put ?_ (by omega) _ | refine Later.trans ?_ (by assumption)))
    have B1 : Blk W (w.heap.size + 1) 78 #[.int .i64 (-x), .int .i64 y] := by rw [hW]; exact (by repeat' (with_reducible first | assumption | (refine Blk.newAt ?_; simp; done) | refine Blk.alloc ?_ _ | refine Blk.drew ?_ | refine Blk.drewN ?_ _ | refine Blk.later ?_ (by assumption)))
    have B2 : Blk W (w.heap.size + 1 + 1) 78 #[.int .i64 0, .int .i64 0] := by rw [hW]; exact (by repeat' (with_reducible first | assumption | (refine Blk.newAt ?_; simp; done) | refine Blk.alloc ?_ _ | refine Blk.drew ?_ | refine Blk.drewN ?_ _ | refine Blk.later ?_ (by assumption)))
    clear hW
    have hq := qm_bd q
    have hQ : bits BinOp.and IntKind.i64 q 3 = qm q := rfl
    obtain ⟨n, hn⟩ : ∃ n : Nat, qm q = (n : Int) := ⟨(qm q).toNat, by omega⟩
    have hn3 : n ≤ 3 := by omega
    have Hn := Lib.hid hn
    have Ha := Lib.hid (show applyP true q ⟨x, y⟩ = rotN n ⟨(-x), y⟩ by unfold applyP; rw [hn, Int.toNat_natCast]; rfl)
    generalize hNe : w.heap.size = N at *
    have HN := Lib.hid hNe
    clear hNe
    rw [hQ, hn]
    clear hQ hn hq
    go_loopw [14] (fun iv wr => ∃ (k : Nat) (px py : Int), k ≤ n ∧ iv = .int .i64 k ∧ rotN n ⟨(-x), y⟩ = rotN (n - k) ⟨px, py⟩ ∧ NearP 1048576 ⟨px, py⟩ ∧ Later w wr ∧ Blk wr (N + 1) 78 #[.int .i64 px, .int .i64 py] ∧ Blk wr (N + 1 + 1) 78 #[.int .i64 0, .int .i64 0]) (fun iv _ => n - (intOf iv).toNat)
    case atStart => exact ⟨0, (-x), y, by omega, rfl, rfl, by unfold NearP at *; simp only [] at *; omega, hl, B1, B2⟩
    case round =>
      clear B1 B2 hl
      obtain ⟨k, px, py, hk, rfl, he, hnr, hb, C1, C2⟩ := hrel
      have He := Lib.hid he
      clear he
      have hnr' := hnr
      unfold NearP at hnr'
      simp only [] at hnr'
      have c0 : wr.cell? ⟨N + 1, 0, none⟩ = some (.int .i64 px) := C1.cell 0
      have c1 : wr.cell? ⟨N + 1, 1, none⟩ = some (.int .i64 py) := C1.cell 1
      have f0 := C1.frozen 0
      have f1 := C1.frozen 1
      have hz1 := C1.lt
      by_cases hlt : k < n
      · go_wp2
        go_roundw
        case rel => exact ⟨k + 1, -py, px, by omega, by go_num, by rw [He.out, show n - k = (n - (k + 1)) + 1 by omega]; rfl, by unfold NearP; simp only []; omega, (hb.put (by rw [HN.out]; omega) _).put (by rw [HN.out]; omega) _, C1.two, (C2.far (by omega) _).far (by omega) _⟩
        case measure => simp [intOf]; omega
      · have r0 : wr.cell? ⟨N + 1 + 1, 0, none⟩ = some (.int .i64 0) := C2.cell 0
        have r1 : wr.cell? ⟨N + 1 + 1, 1, none⟩ = some (.int .i64 0) := C2.cell 1
        have e0 := C2.frozen 0
        have e1 := C2.frozen 1
        have hz2 := C2.lt
        go_wp2
        refine bodyPost_ret (v := .agg #[.int .i64 px, .int .i64 py]) (by simp [results, Try.results87, go_sem, r0, r1]) rfl ⟨?_, (hb.put (by rw [HN.out]; omega) _).put (by rw [HN.out]; omega) _⟩
        rw [Ha.out, He.out, show n - k = 0 by omega]
        rfl

end Go.Proofs.Ytolddfapanabbaa
