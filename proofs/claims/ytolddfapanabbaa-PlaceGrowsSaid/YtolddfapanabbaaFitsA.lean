/-
  The walk of place.matches; what Fits and Check return.
-/
import Derived.Test.YtolddfapanabbaaPlD
import Derived.Test.YtolddfapanabbaaOver
namespace Go.Proofs.Ytolddfapanabbaa
open Go.RowKit
set_option linter.unusedSimpArgs false
set_option linter.unusedVariables false

/-- A bed: length, width, repeat. -/
structure Bd where
  l : Int
  w : Int
  rx : Int
  ry : Int
def Bd.agg (b : Bd) : Value := .agg #[.int .i64 b.l, .int .i64 b.w, .int .i64 b.rx, .int .i64 b.ry]
def imageP (ax ay : Int) (p : Pu) : Pt := mvP ⟨p.x, p.y⟩ (applyP p.fl p.q ⟨ax, ay⟩)
def matchB (rx ry ax ay : Int) (p : Pu) : Bool := if outsideB ax ay = true then false else !outsideB (imageP ax ay p).x (imageP ax ay p).y && sameP rx ry (imageP ax ay p) ⟨0, 0⟩

set_option maxHeartbeats 2000000 in
theorem place_matches (rx ry ax ay : Int) (p : Pu) (w : World) (hp : NearP 1048576 ⟨p.x, p.y⟩) :
    Calls Try.prog 60 #[.agg #[.int .i64 rx, .int .i64 ry], .agg #[.int .i64 ax, .int .i64 ay], p.agg] w (Ret (.bool (matchB rx ry ax ay p)) w) := by
  have HB := Lib.hid (fun W => place_beyond ax ay W)
  unfold Pu.agg
  rcases ho : outsideB ax ay with _ | _
  · have hn := outside_near ho
    have hap := apply_near (f := p.fl) (q := p.q) hn
    have HA := Lib.hid (fun W => turn_Apply p.fl p.q ax ay W hn)
    have Hm := Lib.hid (show matchB rx ry ax ay p = (!outsideB (imageP ax ay p).x (imageP ax ay p).y && sameP rx ry (imageP ax ay p) ⟨0, 0⟩) by unfold matchB; rw [ho]; rfl)
    unfold imageP mvP at Hm
    generalize applyP p.fl p.q ⟨ax, ay⟩ = im at *
    obtain ⟨ix, iy⟩ := im
    obtain ⟨sh, fl, q, x, y⟩ := p
    unfold ptV at HA
    unfold NearP at hap hp
    simp only [] at HA hap hp Hm
    have HB2 := Lib.hid (fun W => place_beyond (ix + x) (iy + y) W)
    have HS := Lib.hid (fun W => stripe_Same rx ry (ix + x) (iy + y) 0 0 W)
    rw [ho] at HB
    generalize matchB rx ry ax ay ⟨sh, fl, q, x, y⟩ = mv at *
    generalize outsideB (ix + x) (iy + y) = ob at *
    generalize sameP rx ry ⟨ix + x, iy + y⟩ ⟨0, 0⟩ = sb at *
    clear ho hn
    have tok1 : True := trivial
    go_enter Try.func60, Try.ntmps60
    go_upto_region 3 with (first | (go_at_call 52; (with_reducible refine (HB.out _).mono ?_); rintro e w1 ⟨rfl, hb1⟩))
    have C0 : Blk w1 w.heap.size 39 #[.int .i64 rx, .int .i64 ry] := Blk.later (by repeat' (with_reducible first | assumption | (refine Blk.newAt ?_; simp; done) | refine Blk.alloc ?_ _ | refine Blk.drew ?_ | refine Blk.drewN ?_ _ | refine Blk.later ?_ (by assumption))) hb1
    have C1 : Blk w1 (w.heap.size + 1) 78 #[.int .i64 ax, .int .i64 ay] := Blk.later (by repeat' (with_reducible first | assumption | (refine Blk.newAt ?_; simp; done) | refine Blk.alloc ?_ _ | refine Blk.drew ?_ | refine Blk.drewN ?_ _ | refine Blk.later ?_ (by assumption))) hb1
    have C2 : Blk w1 (w.heap.size + 1 + 1) 80 #[.int .i64 sh, .bool fl, .int .i64 q, .int .i64 x, .int .i64 y] := Blk.later (by repeat' (with_reducible first | assumption | (refine Blk.newAt ?_; simp; done) | refine Blk.alloc ?_ _ | refine Blk.drew ?_ | refine Blk.drewN ?_ _ | refine Blk.later ?_ (by assumption))) hb1
    have hl1 : Later w w1 := (by repeat' (with_reducible first | exact Later.refl _ | assumption | refine Later.drew ?_ | refine Later.drewN ?_ _ | refine Later.alloc ?_ _ | refine Later.put ?_ (by omega) _ | refine Later.trans ?_ (by assumption)))
    clear hb1
    generalize w.heap.size = N at *
    have a0 : w1.cell? ⟨N + 1, 0, none⟩ = some (.int .i64 ax) := C1.cell 0
    have a1 : w1.cell? ⟨N + 1, 1, none⟩ = some (.int .i64 ay) := C1.cell 1
    have b1 : w1.cell? ⟨N + 1 + 1, 1, none⟩ = some (.bool fl) := C2.cell 1
    have b2 : w1.cell? ⟨N + 1 + 1, 2, none⟩ = some (.int .i64 q) := C2.cell 2
    go_upto_region 4 with (first | (go_at_call 87; (with_reducible refine (HA.out _).mono ?_); rintro e w2 ⟨rfl, hb2⟩))
    clear a0 a1 b1 b2
    have c0 : w2.cell? ⟨N, 0, none⟩ = some (.int .i64 rx) := hb2.cell (C0.cell 0)
    have c1 : w2.cell? ⟨N, 1, none⟩ = some (.int .i64 ry) := hb2.cell (C0.cell 1)
    have b3 : w2.cell? ⟨N + 1 + 1, 3, none⟩ = some (.int .i64 x) := hb2.cell (C2.cell 3)
    have b4 : w2.cell? ⟨N + 1 + 1, 4, none⟩ = some (.int .i64 y) := hb2.cell (C2.cell 4)
    have z0 : N < w2.heap.size := World.block_lt_of_cell? _ _ c0
    have z2 : N + 1 + 1 < w2.heap.size := World.block_lt_of_cell? _ _ b3
    go_upto_region 5 with fail
    refine name_world (fun W5 hW5 => ?_)
    have hl5 : Later w2 W5 := by rw [hW5]; exact (by repeat' (with_reducible first | exact Later.refl _ | assumption | refine Later.drew ?_ | refine Later.drewN ?_ _ | refine Later.alloc ?_ _ | refine Later.put ?_ (by omega) _ | refine Later.trans ?_ (by assumption)))
    have I5 : Blk W5 w2.heap.size 78 #[.int .i64 (ix + x), .int .i64 (iy + y)] := by rw [hW5]; exact (by repeat' (with_reducible first | assumption | (refine Blk.newAt ?_; simp; done) | refine Blk.alloc ?_ _ | refine Blk.drew ?_ | refine Blk.drewN ?_ _ | refine Blk.later ?_ (by assumption)))
    have D0 : Blk W5 N 39 #[.int .i64 rx, .int .i64 ry] := (C0.later hb2).later hl5
    have hlw : Later w W5 := (hl1.trans hb2).trans hl5
    clear hW5 c0 c1 b3 b4 z0 z2 C0 C1 C2 hb2 hl1 hl5
    generalize w2.heap.size = M at *
    have i0 : W5.cell? ⟨M, 0, none⟩ = some (.int .i64 (ix + x)) := I5.cell 0
    have i1 : W5.cell? ⟨M, 1, none⟩ = some (.int .i64 (iy + y)) := I5.cell 1
    cases ob
    · go_wp2_with (first | (go_at_call 52; (with_reducible refine (HB2.out _).mono ?_); rintro e w3 ⟨rfl, hb3⟩; have d0 : w3.cell? ⟨N, 0, none⟩ = some (.int .i64 rx) := hb3.cell (D0.cell 0); have d1 : w3.cell? ⟨N, 1, none⟩ = some (.int .i64 ry) := hb3.cell (D0.cell 1); have k0 := hb3.cell i0; have k1 := hb3.cell i1) | (go_at_call 93; (with_reducible refine (HS.out _).mono ?_); rintro e w4 ⟨rfl, hb4⟩))
      go_ret
      exact ⟨ret_bool (by rw [Hm.out]; rfl), (by repeat' (with_reducible first | exact Later.refl _ | assumption | refine Later.drew ?_ | refine Later.drewN ?_ _ | refine Later.alloc ?_ _ | refine Later.put ?_ (by omega) _ | refine Later.trans ?_ (by assumption)))⟩
    · go_wp2_with (first | (go_at_call 52; (with_reducible refine (HB2.out _).mono ?_); rintro e w3 ⟨rfl, hb3⟩))
      go_ret
      exact ⟨ret_bool (by rw [Hm.out]; rfl), (by repeat' (with_reducible first | exact Later.refl _ | assumption | refine Later.drew ?_ | refine Later.drewN ?_ _ | refine Later.alloc ?_ _ | refine Later.put ?_ (by omega) _ | refine Later.trans ?_ (by assumption)))⟩
  · rw [ho] at HB
    have Hm := Lib.hid (show matchB rx ry ax ay p = false by unfold matchB; rw [if_pos ho])
    clear ho
    generalize matchB rx ry ax ay p = mv at *
    obtain ⟨sh, fl, q, x, y⟩ := p
    go_enter Try.func60, Try.ntmps60
    go_wp2_with (first | (go_at_call 52; (with_reducible refine (HB.out _).mono ?_); rintro e w1 ⟨rfl, hb1⟩))
    go_ret
    exact ⟨ret_bool (by rw [Hm.out]), (by repeat' (with_reducible first | exact Later.refl _ | assumption | refine Later.drew ?_ | refine Later.drewN ?_ _ | refine Later.alloc ?_ _ | refine Later.put ?_ (by omega) _ | refine Later.trans ?_ (by assumption)))⟩

/-- Every point lies on the bed. -/
def onGo (bl bw : Int) : List Pt → Bool
  | [] => true
  | p :: l => if p.x < 0 ∨ bl < p.x ∨ p.y < 0 ∨ bw < p.y then false else onGo bl bw l
/-- The first error with the other puts. -/
def othGo (shs : List Sh) (poly : List Pt) : List Pu → Int
  | [] => 0
  | o :: l => if (polyR shs o).2 ≠ 0 then (polyR shs o).2 else if (overR (polyR shs o).1 poly).2 ≠ 0 then (overR (polyR shs o).1 poly).2 else if (overR (polyR shs o).1 poly).1 = true then 14 else othGo shs poly l
def bedBad (b : Bd) : Prop := b.l < 1 ∨ 1048576 < b.l ∨ b.w < 1 ∨ 1048576 < b.w
/-- What a put says of itself, without the others. -/
def selfR (b : Bd) (shs : List Sh) (p : Pu) : Int :=
  if allowB (gs shs p.sh.toNat).gr p.fl p.q = false then 12
  else if onGo b.l b.w (polyR shs p).1 = false then 13
  else if (gs shs p.sh.toNat).mt = true ∧ matchB b.rx b.ry (gs shs p.sh.toNat).ax (gs shs p.sh.toNat).ay p = false then 15 else 0
def fitsR (b : Bd) (shs : List Sh) (puts : List Pu) (p : Pu) : Int :=
  if b.l < 1 ∨ 1048576 < b.l ∨ b.w < 1 ∨ 1048576 < b.w then 3
  else if (polyR shs p).2 ≠ 0 then (polyR shs p).2
  else if selfR b shs p ≠ 0 then selfR b shs p
  else othGo shs (polyR shs p).1 puts
def checkGo (b : Bd) (shs : List Sh) (puts : List Pu) : Nat → Nat → Int
  | 0, _ => 0
  | f + 1, i => if fitsR b shs (puts.take i) (puts.getD i ⟨0, false, 0, 0, 0⟩) ≠ 0 then fitsR b shs (puts.take i) (puts.getD i ⟨0, false, 0, 0, 0⟩) else checkGo b shs puts f (i + 1)
def pcheckR (b : Bd) (shs : List Sh) (puts : List Pu) : Int := if 60 < puts.length then 5 else checkGo b shs puts puts.length 0

end Go.Proofs.Ytolddfapanabbaa
