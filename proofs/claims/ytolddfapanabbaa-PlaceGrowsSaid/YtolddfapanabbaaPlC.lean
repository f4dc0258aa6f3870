/-
  The walks of turn.Allowed, polyline.Move, polygon.Move, turn.Poly.
-/
import Derived.Test.YtolddfapanabbaaPlB
import Derived.Test.YtolddfapanabbaaSplit
import Derived.Deep.OwnRows
namespace Go.Proofs.Ytolddfapanabbaa
open Go.RowKit
set_option linter.unusedSimpArgs false
set_option linter.unusedVariables false

def allowB (g : Int) (f : Bool) (q : Int) : Bool := if f = true then false else if g = 1 then qm q == 0 else if g = 2 then (qm q == 0 || qm q == 2) else g == 4
set_option maxHeartbeats 2000000 in
theorem turn_Allowed (g : Int) (f : Bool) (q : Int) (w : World) : Calls Try.prog 59 #[.int .i64 g, .bool false, .agg #[.bool f, .int .i64 q]] w (Ret (.bool (allowB g f q)) w) := by
  have HN := Lib.hid (fun W => turn_Norm f q W)
  generalize hv : allowB g f q = v
  have Hv := Lib.hid hv
  clear hv
  unfold allowB at Hv
  generalize qm q = m at *
  go_enter Try.func59, Try.ntmps59
  go_upto_region 2 with (first | (go_at_call 92; (with_reducible refine (HN.out _).mono ?_); rintro e w1 ⟨rfl, hb1⟩; have B0 : Blk w1 w.heap.size 77 #[.bool f, .int .i64 q] := Blk.later (by repeat' (with_reducible first | assumption | (refine Blk.newAt ?_; simp; done) | refine Blk.alloc ?_ _ | refine Blk.drew ?_ | refine Blk.drewN ?_ _ | refine Blk.later ?_ (by assumption))) hb1; have c0 : w1.cell? ⟨w.heap.size, 0, none⟩ = some (.bool f) := B0.cell 0; have c1 : w1.cell? ⟨w.heap.size, 1, none⟩ = some (.int .i64 q) := B0.cell 1; have f0 := B0.frozen 0; have f1 := B0.frozen 1))
  have hl1 : Later w w1 := (by repeat' (with_reducible first | exact Later.refl _ | assumption | refine Later.drew ?_ | refine Later.drewN ?_ _ | refine Later.alloc ?_ _ | refine Later.put ?_ (by omega) _ | refine Later.trans ?_ (by assumption)))
  refine name_world (fun W hW => ?_)
  have hl : Later w W := by rw [hW]; exact (hl1.put (Nat.le_refl _) _).put (Nat.le_refl _) _
  have C0 : Blk W w.heap.size 77 #[.bool f, .int .i64 m] := by rw [hW]; exact B0.two
  have d0 : W.cell? ⟨w.heap.size, 0, none⟩ = some (.bool f) := C0.cell 0
  have d1 : W.cell? ⟨w.heap.size, 1, none⟩ = some (.int .i64 m) := C0.cell 1
  clear hW B0 c0 c1 f0 f1 hb1 hl1 C0 HN
  cases f
  · by_cases h1 : g = 1
    · subst h1
      go_wp2
      go_ret
      exact ⟨ret_bool (by rw [← Hv.out]; rfl), hl⟩
    · have e1 : (g == 1) = false := by simpa using h1
      by_cases h2 : g = 2
      · subst h2
        rcases hm : (m == 0) with _ | _
        · go_wp2
          go_ret
          exact ⟨ret_bool (by rw [← Hv.out, hm]; rfl), hl⟩
        · go_wp2
          go_ret
          exact ⟨ret_bool (by rw [← Hv.out, hm]; rfl), hl⟩
      · have e2 : (g == 2) = false := by simpa using h2
        rcases h4 : (g == 4) with _ | _
        · go_wp2
          go_ret
          exact ⟨ret_bool (by rw [← Hv.out, if_neg (by simp), if_neg h1, if_neg h2, h4]), hl⟩
        · go_wp2
          go_ret
          exact ⟨ret_bool (by rw [← Hv.out, if_neg (by simp), if_neg h1, if_neg h2, h4]), hl⟩
  · go_wp2
    go_ret
    exact ⟨ret_bool (by rw [← Hv.out]; rfl), hl⟩

def mvP (d : Pt) (p : Pt) : Pt := ⟨p.x + d.x, p.y + d.y⟩
/-- A new row of points of which the places `pos i`, i below k, are filled. -/
def RowP (wr : World) (R n k : Nat) (pos : Nat → Nat) (g : Pt → Pt) (ps : List Pt) : Prop :=
  ∃ F : Nat → Value, wr.rowIs R 78 (n * 2) F ∧ ∀ i p, ps[i]? = some p → i < k → F (pos i * 2) = .int .i64 (g p).x ∧ F (pos i * 2 + 1) = .int .i64 (g p).y
theorem RowP.later {w w' : World} {R n k : Nat} {pos : Nat → Nat} {g : Pt → Pt} {ps : List Pt} (h : RowP w R n k pos g ps) (hk : Later w w') : RowP w' R n k pos g ps :=
  let ⟨F, h1, h2⟩ := h; ⟨F, h1.of_block (hk.block R h1.lt), h2⟩
theorem RowP.alloc {w : World} {R n k : Nat} {pos : Nat → Nat} {g : Pt → Pt} {ps : List Pt} (h : RowP w R n k pos g ps) (o : Obj) : RowP (w.alloc o) R n k pos g ps :=
  let ⟨F, h1, h2⟩ := h; ⟨F, h1.alloc o, h2⟩
theorem RowP.put {w : World} {R n k : Nat} {pos : Nat → Nat} {g : Pt → Pt} {ps : List Pt} (h : RowP w R n k pos g ps) {p : Pt} (hp : ps[k]? = some p) (hinj : ∀ i j, i < ps.length → j < ps.length → pos i = pos j → i = j) {x y : Int} (hx : x = (g p).x) (hy : y = (g p).y) :
    RowP ((w.setCell ⟨R, pos k * 2, none⟩ (.int .i64 x)).setCell ⟨R, pos k * 2 + 1, none⟩ (.int .i64 y)) R n (k + 1) pos g ps := by
  obtain ⟨F, h1, h2⟩ := h
  refine ⟨_, (h1.set _ _).set _ _, fun i q hq hi => ?_⟩
  have hil := (List.getElem?_eq_some_iff.1 hq).1
  have hkl := (List.getElem?_eq_some_iff.1 hp).1
  by_cases hik : i = k
  · subst hik
    rw [hp] at hq
    cases hq
    subst hx hy
    constructor
    · rw [if_neg (by omega), if_pos rfl]
    · rw [if_pos rfl]
  · have hne : pos i ≠ pos k := fun h => hik (hinj i k hil hkl h)
    obtain ⟨a, b⟩ := h2 i q hq (by omega)
    rw [if_neg (by omega), if_neg (by omega), if_neg (by omega), if_neg (by omega)]
    exact ⟨a, b⟩
theorem RowP.cell {w : World} {R n k : Nat} {pos : Nat → Nat} {g : Pt → Pt} {ps : List Pt} (h : RowP w R n k pos g ps) {i : Nat} (hi : i < n) :
    (∃ u v, w.cell? ⟨R, i * 2, none⟩ = some u ∧ w.cell? ⟨R, i * 2 + 1, none⟩ = some v) ∧ w.frozen? ⟨R, i * 2, none⟩ = false ∧ w.frozen? ⟨R, i * 2 + 1, none⟩ = false ∧ R < w.heap.size := by
  obtain ⟨F, h1, h2⟩ := h
  exact ⟨⟨_, _, h1.cell (by omega), h1.cell (by omega)⟩, h1.frozen _, h1.frozen _, h1.lt⟩

set_option maxHeartbeats 2000000 in
theorem polyline_Move (A : Option Addr) (c : Nat) (ps : List Pt) (dx dy : Int) (w : World) (hn : ps.length ≤ 65536) (hp : Pts w A ps) (hps : ∀ p ∈ ps, NearP 1048576 p) (hd : NearP 1048576 ⟨dx, dy⟩) :
    Calls Try.prog 86 #[.slice A ps.length c, .agg #[.int .i64 dx, .int .i64 dy]] w (RetPts (ps.map (mvP ⟨dx, dy⟩)) w) := by
  obtain ⟨i0, hi, hz0, hz1, hz2⟩ := info_parts info_spot
  have hmk := fun W => run_make_rows (P := Try.prog) 25 78 i0 _ Try.underlying25 hi hz0 ps.length (by rw [hz2]; omega) (by omega) W
  rw [hz1] at hmk
  have hms : (madeCells (Value.agg #[Value.int IntKind.i64 0, Value.int IntKind.i64 0]).cells (ps.length * 2)).size = ps.length * 2 := size_madeCells _ _
  generalize madeCells (Value.agg #[Value.int IntKind.i64 0, Value.int IntKind.i64 0]).cells (ps.length * 2) = Z at *
  clear hi hz0 hz1 hz2
  unfold NearP at hd
  simp only [] at hd
  have Hms := Lib.hid hms
  clear hms
  go_enter Try.func86, Try.ntmps86
  go_wp2
  refine name_world (fun W hW => ?_)
  have hl : Later w W := by rw [hW]; exact (by repeat' (with_reducible first | exact Later.refl _ | assumption | refine Later.drew ?_ | refine Later.drewN ?_ _ | refine Later.alloc ?_ _ | refine Later.put ?_ (by omega) _ | refine Later.trans ?_ (by assumption)))
  have B0 : Blk W w.heap.size 78 #[.int .i64 dx, .int .i64 dy] := by rw [hW]; exact (by repeat' (with_reducible first | assumption | (refine Blk.newAt ?_; simp; done) | refine Blk.alloc ?_ _ | refine Blk.drew ?_ | refine Blk.drewN ?_ _ | refine Blk.later ?_ (by assumption)))
  have hR : RowP W (w.heap.size + 1) ps.length 0 (fun i => i) (mvP ⟨dx, dy⟩) ps := by
    refine ⟨fun i => Z.getD i undef, ?_, fun i p _ h => by omega⟩
    have := World.rowIs_alloc (w.alloc (.cells #[.int .i64 dx, .int .i64 dy] 78)) Z 78 (fun i => Z.getD i undef) (fun i hi => by simp [hi])
    rw [World.size_alloc, Hms.out] at this
    rw [hW]
    exact this
  clear hW hmk
  generalize hNe : w.heap.size = N at *
  have HN := Lib.hid hNe
  clear hNe
  go_loopw [13] (fun iv wr => ∃ k : Nat, k ≤ ps.length ∧ iv = .int .i64 k ∧ Later w wr ∧ Blk wr N 78 #[.int .i64 dx, .int .i64 dy] ∧ RowP wr (N + 1) ps.length k (fun i => i) (mvP ⟨dx, dy⟩) ps) (fun iv _ => ps.length - (intOf iv).toNat)
  case atStart => exact ⟨0, by omega, rfl, hl, B0, hR⟩
  case round =>
    clear hl B0 hR
    obtain ⟨k, hk, rfl, hb, B0, hR⟩ := hrel
    by_cases hlt : k < ps.length
    · obtain ⟨b, o, rfl, e1, e2⟩ := (hp.later hb).at_ hlt
      have hbz : b < wr.heap.size := World.block_lt_of_cell? _ _ e1
      have hpk := hps _ (List.getElem_mem hlt)
      have Hk := Lib.hid (List.getElem?_eq_getElem hlt)
      generalize ps[k] = p at *
      obtain ⟨px, py⟩ := p
      unfold NearP at hpk
      simp only [] at hpk e1 e2
      obtain ⟨⟨u, v, r0, r1⟩, f0, f1, hz⟩ := hR.cell hlt
      have HR := Lib.hid hR
      have HB := Lib.hid B0
      have c0 : wr.cell? ⟨N, 0, none⟩ = some (.int .i64 dx) := B0.cell 0
      have c1 : wr.cell? ⟨N, 1, none⟩ = some (.int .i64 dy) := B0.cell 1
      have zN := B0.lt
      have hk0 : (0 : Int) ≤ (k : Int) := by omega
      have hk1 : (k : Int) < (ps.length : Int) := by omega
      clear hR B0
      go_wp2
      go_roundw
      case rel => exact ⟨k + 1, by omega, by go_num, ((hb.put (by rw [HN.out]; omega) _).put (by rw [HN.out]; omega) _).alloc _, ((HB.out.far (by omega) _).far (by omega) _).alloc _, (HR.out.put Hk.out (fun _ _ _ _ h => h) rfl rfl).alloc _⟩
      case measure => simp [intOf]; omega
    · go_wp2
      go_ret
      refine ⟨some ⟨N + 1, 0, none⟩, ps.length, by simp, by simp, by unfold maxLen; omega, fun h0 => ⟨N + 1, 0, rfl, fun i q hq => ?_⟩, hb⟩
      rw [List.getElem?_map, Option.map_eq_some_iff] at hq
      obtain ⟨p, hp', rfl⟩ := hq
      obtain ⟨F, h1, h2⟩ := hR
      have hil := (List.getElem?_eq_some_iff.1 hp').1
      obtain ⟨a, b⟩ := h2 i p hp' (by omega)
      rw [Nat.zero_add, h1.cell (by omega), h1.cell (by omega), a, b]
      exact ⟨rfl, rfl⟩

set_option maxHeartbeats 1000000 in
theorem polygon_Move (A : Option Addr) (c : Nat) (ps : List Pt) (dx dy : Int) (w : World) (hn : ps.length ≤ 65536) (hp : Pts w A ps) (hps : ∀ p ∈ ps, NearP 1048576 p) (hd : NearP 1048576 ⟨dx, dy⟩) :
    Calls Try.prog 53 #[.slice A ps.length c, .agg #[.int .i64 dx, .int .i64 dy]] w (RetPts (ps.map (mvP ⟨dx, dy⟩)) w) := by
  have HM := Lib.hid (fun W hW => polyline_Move A c ps dx dy W hn hW hps hd)
  go_enter Try.func53, Try.ntmps53
  go_wp2_with (first | (go_at_call 86; (with_reducible refine (HM.out _ (hp.later (by repeat' (with_reducible first | exact Later.refl _ | assumption | refine Later.drew ?_ | refine Later.drewN ?_ _ | refine Later.alloc ?_ _ | refine Later.put ?_ (by omega) _ | refine Later.trans ?_ (by assumption))))).mono ?_); rintro e w1 ⟨A1, c1, rfl, h1, h2, h3, hb1⟩))
  go_ret
  exact ⟨A1, c1, by simp, h1, h2, h3, (by repeat' (with_reducible first | exact Later.refl _ | assumption | refine Later.drew ?_ | refine Later.drewN ?_ _ | refine Later.alloc ?_ _ | refine Later.put ?_ (by omega) _ | refine Later.trans ?_ (by assumption)))⟩

def turnPs (f : Bool) (q : Int) (ps : List Pt) : List Pt := if f = true then (ps.map (applyP f q)).reverse else ps.map (applyP f q)

set_option maxHeartbeats 4000000 in
theorem turn_Poly (f : Bool) (q : Int) (A : Option Addr) (c : Nat) (ps : List Pt) (w : World) (hn : ps.length ≤ 65536) (hp : Pts w A ps) (hps : ∀ p ∈ ps, NearP 1048576 p) :
    Calls Try.prog 54 #[.agg #[.bool f, .int .i64 q], .slice A ps.length c] w (RetPts (turnPs f q ps) w) := by
  obtain ⟨i0, hi, hz0, hz1, hz2⟩ := info_parts info_spot
  have hmk := fun W => run_make_rows (P := Try.prog) 25 78 i0 _ Try.underlying25 hi hz0 ps.length (by rw [hz2]; omega) (by omega) W
  rw [hz1] at hmk
  have hms : (madeCells (Value.agg #[Value.int IntKind.i64 0, Value.int IntKind.i64 0]).cells (ps.length * 2)).size = ps.length * 2 := size_madeCells _ _
  generalize madeCells (Value.agg #[Value.int IntKind.i64 0, Value.int IntKind.i64 0]).cells (ps.length * 2) = Z at *
  clear hi hz0 hz1 hz2
  have Hms := Lib.hid hms
  clear hms
  go_enter Try.func54, Try.ntmps54
  go_wp2
  refine name_world (fun W hW => ?_)
  have hl : Later w W := by rw [hW]; exact (by repeat' (with_reducible first | exact Later.refl _ | assumption | refine Later.drew ?_ | refine Later.drewN ?_ _ | refine Later.alloc ?_ _ | refine Later.put ?_ (by omega) _ | refine Later.trans ?_ (by assumption)))
  have B0 : Blk W w.heap.size 77 #[.bool f, .int .i64 q] := by rw [hW]; exact (by repeat' (with_reducible first | assumption | (refine Blk.newAt ?_; simp; done) | refine Blk.alloc ?_ _ | refine Blk.drew ?_ | refine Blk.drewN ?_ _ | refine Blk.later ?_ (by assumption)))
  have hR : RowP W (w.heap.size + 1) ps.length 0 (fun i => if f = true then ps.length - 1 - i else i) (applyP f q) ps := by
    refine ⟨fun i => Z.getD i undef, ?_, fun i p _ h => by omega⟩
    have := World.rowIs_alloc (w.alloc (.cells #[.bool f, .int .i64 q] 77)) Z 78 (fun i => Z.getD i undef) (fun i hi => by simp [hi])
    rw [World.size_alloc, Hms.out] at this
    rw [hW]
    exact this
  clear hW hmk
  generalize hNe : w.heap.size = N at *
  have HN := Lib.hid hNe
  clear hNe
  go_loopw [13] (fun iv wr => ∃ k : Nat, k ≤ ps.length ∧ iv = .int .i64 k ∧ Later w wr ∧ Blk wr N 77 #[.bool f, .int .i64 q] ∧ RowP wr (N + 1) ps.length k (fun i => if f = true then ps.length - 1 - i else i) (applyP f q) ps) (fun iv _ => ps.length - (intOf iv).toNat)
  case atStart => exact ⟨0, by omega, rfl, hl, B0, hR⟩
  case round =>
    clear hl B0 hR
    obtain ⟨k, hk, rfl, hb, B0, hR⟩ := hrel
    by_cases hlt : k < ps.length
    · obtain ⟨b, o, rfl, e1, e2⟩ := (hp.later hb).at_ hlt
      have hbz : b < wr.heap.size := World.block_lt_of_cell? _ _ e1
      have hpk := hps _ (List.getElem_mem hlt)
      have Hk := Lib.hid (List.getElem?_eq_getElem hlt)
      generalize ps[k] = p at *
      obtain ⟨px, py⟩ := p
      simp only [] at e1 e2
      have HA := Lib.hid (fun W => turn_Apply f q px py W hpk)
      generalize hap : applyP f q ⟨px, py⟩ = ap at HA
      have Hap := Lib.hid hap
      clear hap
      obtain ⟨ax, ay⟩ := ap
      unfold ptV at HA
      simp only [] at HA
      have HR := Lib.hid hR
      have HB := Lib.hid B0
      have c0 : wr.cell? ⟨N, 0, none⟩ = some (.bool f) := B0.cell 0
      have c1 : wr.cell? ⟨N, 1, none⟩ = some (.int .i64 q) := B0.cell 1
      have zN := B0.lt
      have hk0 : (0 : Int) ≤ (k : Int) := by omega
      have hk1 : (k : Int) < (ps.length : Int) := by omega
      clear hR B0
      cases f
      · go_wp2_with (first | (go_at_call 87; (with_reducible refine (HA.out _).mono ?_); rintro e w1 ⟨rfl, hb1⟩; have hl1 : Later wr w1 := ((Later.refl _).alloc _).trans hb1; obtain ⟨⟨u, v, r0, r1⟩, f0, f1, hz⟩ := (HR.out.later hl1).cell hlt))
        go_roundw
        case rel => exact ⟨k + 1, by omega, by go_num, ((hb.trans hl1).put (by rw [HN.out]; omega) _).put (by rw [HN.out]; omega) _, ((HB.out.later hl1).far (by omega) _).far (by omega) _, (HR.out.later hl1).put Hk.out (fun _ _ _ _ h => h) (by rw [Hap.out]) (by rw [Hap.out])⟩
        case measure => simp [intOf]; omega
      · have hpos : ps.length - 1 - k < ps.length := by omega
        have hi0 : (0 : Int) ≤ (ps.length : Int) - 1 - (k : Int) := by omega
        have hi1 : (ps.length : Int) - 1 - (k : Int) < (ps.length : Int) := by omega
        go_wp2_with (first | (go_at_call 87; (with_reducible refine (HA.out _).mono ?_); rintro e w1 ⟨rfl, hb1⟩; have hl1 : Later wr w1 := ((Later.refl _).alloc _).trans hb1; obtain ⟨⟨u, v, r0, r1⟩, f0, f1, hz⟩ := (HR.out.later hl1).cell hpos))
        go_roundw
        case rel => exact ⟨k + 1, by omega, by go_num, ((hb.trans hl1).put (by rw [HN.out]; omega) _).put (by rw [HN.out]; omega) _, ((HB.out.later hl1).far (by omega) _).far (by omega) _, (HR.out.later hl1).put Hk.out (fun i j hi hj h => by simp only [if_true] at h; omega) (by rw [Hap.out]) (by rw [Hap.out])⟩
        case measure => simp [intOf]; omega
    · go_wp2
      go_ret
      refine ⟨some ⟨N + 1, 0, none⟩, ps.length, by unfold turnPs; split <;> simp, by unfold turnPs; split <;> simp, by unfold maxLen; omega, fun h0 => ⟨N + 1, 0, rfl, fun i q' hq => ?_⟩, hb⟩
      obtain ⟨F, h1, h2⟩ := hR
      unfold turnPs at hq
      cases f
      · rw [if_neg (by simp), List.getElem?_map, Option.map_eq_some_iff] at hq
        obtain ⟨p, hp', rfl⟩ := hq
        have hil := (List.getElem?_eq_some_iff.1 hp').1
        obtain ⟨a, b⟩ := h2 i p hp' (by omega)
        dsimp only at a b
        rw [if_neg (by simp)] at a b
        rw [Nat.zero_add, h1.cell (by omega), h1.cell (by omega), a, b]
        exact ⟨rfl, rfl⟩
      · rw [if_pos rfl] at hq
        have hil : i < ps.length := by have := (List.getElem?_eq_some_iff.1 hq).1; simpa using this
        rw [List.getElem?_reverse (by simpa using hil), List.getElem?_map, List.length_map, Option.map_eq_some_iff] at hq
        obtain ⟨p, hp', rfl⟩ := hq
        obtain ⟨a, b⟩ := h2 (ps.length - 1 - i) p hp' (by omega)
        dsimp only at a b
        rw [if_pos rfl, show ps.length - 1 - (ps.length - 1 - i) = i by omega] at a b
        rw [Nat.zero_add, h1.cell (by omega), h1.cell (by omega), a, b]
        exact ⟨rfl, rfl⟩

end Go.Proofs.Ytolddfapanabbaa
