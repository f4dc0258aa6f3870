/-
  The walk of place.matches; what Fits and Check return.
  The walk of place.Fits.
  The walk of place.Check.
-/
import Derived.Test.YtdhakoecjmaebaaGreatZPl
import Derived.Test.YtdhakoecjmaebaaGreatZHits
/- The walk of place.matches; what Fits and Check return. -/
namespace Go.Proofs.YtdhakoecjmaebaaGreat
open Go.RowKit
set_option linter.unusedSimpArgs false
set_option linter.unusedVariables false

/-- A bed: length, width, repeat. -/
structure Bd where
  l : Int
  w : Int
  rx : Int
  ry : Int
def Bd.agg (b : Bd) : Value := .agg #[.int .i64 b.l, .int .i64 b.w, .int .i64 b.rx, .int .i64 b.ry]
def imageP (ax ay : Int) (p : Pu) : Pt := mvP ⟨p.x, p.y⟩ (applyP p.fl p.q ⟨ax, ay⟩)
def matchB (rx ry ax ay : Int) (p : Pu) : Bool := if outsideB ax ay = true then false else !outsideB (imageP ax ay p).x (imageP ax ay p).y && sameP rx ry (imageP ax ay p) ⟨0, 0⟩

set_option maxHeartbeats 2000000 in
theorem place_matches (rx ry ax ay : Int) (p : Pu) (w : World) (hp : NearP 1048576 ⟨p.x, p.y⟩) :
    Calls Tryz.prog 93 #[.agg #[.int .i64 rx, .int .i64 ry], .agg #[.int .i64 ax, .int .i64 ay], p.agg] w (Ret (.bool (matchB rx ry ax ay p)) w) := by
  have HB := Lib.hid (fun W => place_beyond ax ay W)
  unfold Pu.agg
  rcases ho : outsideB ax ay with _ | _
  · have hn := outside_near ho
    have hap := apply_near (f := p.fl) (q := p.q) hn
    have HA := Lib.hid (fun W => turn_Apply p.fl p.q ax ay W hn)
    have Hm := Lib.hid (show matchB rx ry ax ay p = (!outsideB (imageP ax ay p).x (imageP ax ay p).y && sameP rx ry (imageP ax ay p) ⟨0, 0⟩) by unfold matchB; rw [ho]; rfl)
    unfold imageP mvP at Hm
    generalize applyP p.fl p.q ⟨ax, ay⟩ = im at *
    obtain ⟨ix, iy⟩ := im
    obtain ⟨sh, fl, q, x, y⟩ := p
    unfold ptV at HA
    unfold NearP at hap hp
    simp only [] at HA hap hp Hm
    have HB2 := Lib.hid (fun W => place_beyond (ix + x) (iy + y) W)
    have HS := Lib.hid (fun W => stripe_Same rx ry (ix + x) (iy + y) 0 0 W)
    rw [ho] at HB
    generalize matchB rx ry ax ay ⟨sh, fl, q, x, y⟩ = mv at *
    generalize outsideB (ix + x) (iy + y) = ob at *
    generalize sameP rx ry ⟨ix + x, iy + y⟩ ⟨0, 0⟩ = sb at *
    clear ho hn
    have tok1 : True := trivial
    go_enter Tryz.func93, Tryz.ntmps93
    go_upto_region 3 with (first | (go_at_call 26; (with_reducible refine (HB.out _).mono ?_); rintro e w1 ⟨rfl, hb1⟩))
    have C0 : Blk w1 w.heap.size 23 #[.int .i64 rx, .int .i64 ry] := Blk.later (by repeat' (with_reducible first | assumption | (refine Blk.newAt ?_; simp; done) | refine Blk.alloc ?_ _ | refine Blk.drew ?_ | refine Blk.drewN ?_ _ | refine Blk.later ?_ (by assumption))) hb1
    have C1 : Blk w1 (w.heap.size + 1) 29 #[.int .i64 ax, .int .i64 ay] := Blk.later (by repeat' (with_reducible first | assumption | (refine Blk.newAt ?_; simp; done) | refine Blk.alloc ?_ _ | refine Blk.drew ?_ | refine Blk.drewN ?_ _ | refine Blk.later ?_ (by assumption))) hb1
    have C2 : Blk w1 (w.heap.size + 1 + 1) 44 #[.int .i64 sh, .bool fl, .int .i64 q, .int .i64 x, .int .i64 y] := Blk.later (by repeat' (with_reducible first | assumption | (refine Blk.newAt ?_; simp; done) | refine Blk.alloc ?_ _ | refine Blk.drew ?_ | refine Blk.drewN ?_ _ | refine Blk.later ?_ (by assumption))) hb1
    have hl1 : Later w w1 := (by repeat' (with_reducible first | exact Later.refl _ | assumption | refine Later.drew ?_ | refine Later.drewN ?_ _ | refine Later.alloc ?_ _ | refine Later.put ?_ (by omega) _ | refine Later.trans ?_ (by assumption)))
    clear hb1
    generalize w.heap.size = N at *
    have a0 : w1.cell? ⟨N + 1, 0, none⟩ = some (.int .i64 ax) := C1.cell 0
    have a1 : w1.cell? ⟨N + 1, 1, none⟩ = some (.int .i64 ay) := C1.cell 1
    have b1 : w1.cell? ⟨N + 1 + 1, 1, none⟩ = some (.bool fl) := C2.cell 1
    have b2 : w1.cell? ⟨N + 1 + 1, 2, none⟩ = some (.int .i64 q) := C2.cell 2
    go_upto_region 4 with (first | (go_at_call 12; (with_reducible refine (HA.out _).mono ?_); rintro e w2 ⟨rfl, hb2⟩))
    clear a0 a1 b1 b2
    have c0 : w2.cell? ⟨N, 0, none⟩ = some (.int .i64 rx) := hb2.cell (C0.cell 0)
    have c1 : w2.cell? ⟨N, 1, none⟩ = some (.int .i64 ry) := hb2.cell (C0.cell 1)
    have b3 : w2.cell? ⟨N + 1 + 1, 3, none⟩ = some (.int .i64 x) := hb2.cell (C2.cell 3)
    have b4 : w2.cell? ⟨N + 1 + 1, 4, none⟩ = some (.int .i64 y) := hb2.cell (C2.cell 4)
    have z0 : N < w2.heap.size := World.block_lt_of_cell? _ _ c0
    have z2 : N + 1 + 1 < w2.heap.size := World.block_lt_of_cell? _ _ b3
    go_upto_region 5 with fail
    refine name_world (fun W5 hW5 => ?_)
    have hl5 : Later w2 W5 := by rw [hW5]; exact (by repeat' (with_reducible first | exact Later.refl _ | assumption | refine Later.drew ?_ | refine Later.drewN ?_ _ | refine Later.alloc ?_ _ | refine Later.put ?_ (by omega) _ | refine Later.trans ?_ (by assumption)))
    have I5 : Blk W5 w2.heap.size 29 #[.int .i64 (ix + x), .int .i64 (iy + y)] := by rw [hW5]; exact (by repeat' (with_reducible first | assumption | (refine Blk.newAt ?_; simp; done) | refine Blk.alloc ?_ _ | refine Blk.drew ?_ | refine Blk.drewN ?_ _ | refine Blk.later ?_ (by assumption)))
    have D0 : Blk W5 N 23 #[.int .i64 rx, .int .i64 ry] := (C0.later hb2).later hl5
    have hlw : Later w W5 := (hl1.trans hb2).trans hl5
    clear hW5 c0 c1 b3 b4 z0 z2 C0 C1 C2 hb2 hl1 hl5
    generalize w2.heap.size = M at *
    have i0 : W5.cell? ⟨M, 0, none⟩ = some (.int .i64 (ix + x)) := I5.cell 0
    have i1 : W5.cell? ⟨M, 1, none⟩ = some (.int .i64 (iy + y)) := I5.cell 1
    cases ob
    · go_wp2_with (first | (go_at_call 26; (with_reducible refine (HB2.out _).mono ?_); rintro e w3 ⟨rfl, hb3⟩; have d0 : w3.cell? ⟨N, 0, none⟩ = some (.int .i64 rx) := hb3.cell (D0.cell 0); have d1 : w3.cell? ⟨N, 1, none⟩ = some (.int .i64 ry) := hb3.cell (D0.cell 1); have k0 := hb3.cell i0; have k1 := hb3.cell i1) | (go_at_call 13; (with_reducible refine (HS.out _).mono ?_); rintro e w4 ⟨rfl, hb4⟩))
      go_ret
      exact ⟨ret_bool (by rw [Hm.out]; rfl), (by repeat' (with_reducible first | exact Later.refl _ | assumption | refine Later.drew ?_ | refine Later.drewN ?_ _ | refine Later.alloc ?_ _ | refine Later.put ?_ (by omega) _ | refine Later.trans ?_ (by assumption)))⟩
    · go_wp2_with (first | (go_at_call 26; (with_reducible refine (HB2.out _).mono ?_); rintro e w3 ⟨rfl, hb3⟩))
      go_ret
      exact ⟨ret_bool (by rw [Hm.out]; rfl), (by repeat' (with_reducible first | exact Later.refl _ | assumption | refine Later.drew ?_ | refine Later.drewN ?_ _ | refine Later.alloc ?_ _ | refine Later.put ?_ (by omega) _ | refine Later.trans ?_ (by assumption)))⟩
  · rw [ho] at HB
    have Hm := Lib.hid (show matchB rx ry ax ay p = false by unfold matchB; rw [if_pos ho])
    clear ho
    generalize matchB rx ry ax ay p = mv at *
    obtain ⟨sh, fl, q, x, y⟩ := p
    go_enter Tryz.func93, Tryz.ntmps93
    go_wp2_with (first | (go_at_call 26; (with_reducible refine (HB.out _).mono ?_); rintro e w1 ⟨rfl, hb1⟩))
    go_ret
    exact ⟨ret_bool (by rw [Hm.out]), (by repeat' (with_reducible first | exact Later.refl _ | assumption | refine Later.drew ?_ | refine Later.drewN ?_ _ | refine Later.alloc ?_ _ | refine Later.put ?_ (by omega) _ | refine Later.trans ?_ (by assumption)))⟩

/-- Every point lies on the bed. -/
def onGo (bl bw : Int) : List Pt → Bool
  | [] => true
  | p :: l => if p.x < 0 ∨ bl < p.x ∨ p.y < 0 ∨ bw < p.y then false else onGo bl bw l
/-- The first error with the other puts. -/
def othGo (shs : List Sh) (poly : List Pt) : List Pu → Int
  | [] => 0
  | o :: l => if (polyR shs o).2 ≠ 0 then (polyR shs o).2 else if (overR (polyR shs o).1 poly).2 ≠ 0 then (overR (polyR shs o).1 poly).2 else if (overR (polyR shs o).1 poly).1 = true then 14 else othGo shs poly l
/-- What a put says of itself, without the others. -/
def selfR (b : Bd) (shs : List Sh) (p : Pu) : Int :=
  if allowB (gs shs p.sh.toNat).gr p.fl p.q = false then 12
  else if onGo b.l b.w (polyR shs p).1 = false then 13
  else if (gs shs p.sh.toNat).mt = true ∧ matchB b.rx b.ry (gs shs p.sh.toNat).ax (gs shs p.sh.toNat).ay p = false then 15 else 0
def fitsR (b : Bd) (shs : List Sh) (puts : List Pu) (p : Pu) : Int :=
  if b.l < 1 ∨ 1048576 < b.l ∨ b.w < 1 ∨ 1048576 < b.w then 3
  else if (polyR shs p).2 ≠ 0 then (polyR shs p).2
  else if selfR b shs p ≠ 0 then selfR b shs p
  else othGo shs (polyR shs p).1 puts
def checkGo (b : Bd) (shs : List Sh) (puts : List Pu) : Nat → Nat → Int
  | 0, _ => 0
  | f + 1, i => if fitsR b shs (puts.take i) (puts.getD i ⟨0, false, 0, 0, 0⟩) ≠ 0 then fitsR b shs (puts.take i) (puts.getD i ⟨0, false, 0, 0, 0⟩) else checkGo b shs puts f (i + 1)
def pcheckR (b : Bd) (shs : List Sh) (puts : List Pu) : Int := if 60 < puts.length then 5 else checkGo b shs puts puts.length 0

end Go.Proofs.YtdhakoecjmaebaaGreat

/- The walk of place.Fits. -/
namespace Go.Proofs.YtdhakoecjmaebaaGreat
open Go.RowKit
set_option linter.unusedSimpArgs false
set_option linter.unusedVariables false

def PolyOk (r : List Pt) (w : World) (e : Ending) (w' : World) : Prop := ∃ A c, e = .returned (.tuple #[.slice A r.length c, .int .i64 0]) ∧ r.length ≤ c ∧ c ≤ maxLen ∧ Pts w' A r ∧ Later w w'
theorem polyR_ok {l : List Sh} {p : Pu} (h : (polyR l p).2 = 0) : (0 ≤ p.sh ∧ p.sh < (l.length : Int)) ∧ outsideB p.x p.y = false ∧ checkI (polyR l p).1 = 0 := by
  unfold polyR at h ⊢
  split at h
  · cases h
  · rename_i h1
    rw [if_neg h1]
    split at h
    · rename_i h2; exact absurd h h2
    · rename_i h2
      rw [if_neg h2]
      split at h
      · rename_i h3; exact absurd h h3
      · rename_i h3
        rw [if_neg h3]
        refine ⟨by omega, ?_, by simpa using h3⟩
        rcases ho : outsideB p.x p.y with _ | _
        · rfl
        · exact absurd (.inr (.inr ho)) h1
section
variable (C : Option Addr) (cc : Nat) (l : List Sh) (p : Pu) (w : World)
theorem place_Poly_yes (hs : Shapes w C l) (hl : l.length ≤ 65536) (hlen : ∀ s ∈ l, s.ps.length ≤ 1099511627776) (h : (polyR l p).2 = 0) :
    Calls Tryz.prog 9 #[.slice C l.length cc, p.agg] w (PolyOk (polyR l p).1 w) :=
  (place_Poly C cc l p w hs hl hlen).mono fun e w' hh => by
    rcases hh with ⟨_, A, c, h1, h2, h3, h4, h5⟩ | ⟨h1, _⟩
    · exact ⟨A, c, h1, h2, h3, h4, h5⟩
    · exact absurd h h1
theorem place_Poly_no (hs : Shapes w C l) (hl : l.length ≤ 65536) (hlen : ∀ s ∈ l, s.ps.length ≤ 1099511627776) (h : (polyR l p).2 ≠ 0) :
    Calls Tryz.prog 9 #[.slice C l.length cc, p.agg] w (Ret (.tuple #[.slice none 0 0, .int .i64 (polyR l p).2]) w) :=
  (place_Poly C cc l p w hs hl hlen).mono fun e w' hh => by
    rcases hh with ⟨h1, _⟩ | ⟨_, h1, h2⟩
    · exact absurd h1 h
    · exact ⟨h1, h2⟩
end
theorem on_no {bl bw : Int} {p : Pt} {l : List Pt} (h : p.x < 0 ∨ bl < p.x ∨ p.y < 0 ∨ bw < p.y) : onGo bl bw (p :: l) = false := by rw [onGo, if_pos h]
theorem on_go {bl bw : Int} {p : Pt} {l : List Pt} (h : ¬ (p.x < 0 ∨ bl < p.x ∨ p.y < 0 ∨ bw < p.y)) : onGo bl bw (p :: l) = onGo bl bw l := by rw [onGo, if_neg h]

theorem oth_poly {l : List Sh} {poly : List Pt} {o : Pu} {r : List Pu} (h : (polyR l o).2 ≠ 0) : othGo l poly (o :: r) = (polyR l o).2 := by rw [othGo, if_pos h]
theorem oth_over {l : List Sh} {poly : List Pt} {o : Pu} {r : List Pu} (h : (polyR l o).2 = 0) (h1 : (overR (polyR l o).1 poly).2 ≠ 0) : othGo l poly (o :: r) = (overR (polyR l o).1 poly).2 := by rw [othGo, if_neg (by simpa using h), if_pos h1]
theorem oth_hit {l : List Sh} {poly : List Pt} {o : Pu} {r : List Pu} (h : (polyR l o).2 = 0) (h1 : (overR (polyR l o).1 poly).2 = 0) (h2 : (overR (polyR l o).1 poly).1 = true) : othGo l poly (o :: r) = 14 := by rw [othGo, if_neg (by simpa using h), if_neg (by simpa using h1), if_pos h2]
theorem oth_go {l : List Sh} {poly : List Pt} {o : Pu} {r : List Pu} (h : (polyR l o).2 = 0) (h1 : (overR (polyR l o).1 poly).2 = 0) (h2 : (overR (polyR l o).1 poly).1 = false) : othGo l poly (o :: r) = othGo l poly r := by rw [othGo, if_neg (by simpa using h), if_neg (by simpa using h1), if_neg (by simp [h2])]


section
variable (b : Bd) (C P : Option Addr) (cc pc : Nat) (l : List Sh) (puts : List Pu) (p : Pu) (w : World)

set_option maxHeartbeats 2000000 in
theorem place_Fits_bed (h : b.l < 1 ∨ 1048576 < b.l ∨ b.w < 1 ∨ 1048576 < b.w) :
    Calls Tryz.prog 52 #[b.agg, .slice C l.length cc, .slice P puts.length pc, p.agg] w (Ret (.int .i64 3) w) := by
  unfold Bd.agg Pu.agg
  obtain ⟨bl, bw, rx, ry⟩ := b
  obtain ⟨sh, fl, q, x, y⟩ := p
  simp only [] at h
  go_enter Tryz.func52, Tryz.ntmps52
  by_cases h1 : bl < 1
  · have d1 : decide (bl < 1) = true := by simpa using h1
    go_wp2
    go_ret
    exact ⟨rfl, (by repeat' (with_reducible first | exact Later.refl _ | assumption | refine Later.drew ?_ | refine Later.drewN ?_ _ | refine Later.alloc ?_ _ | refine Later.put ?_ (by omega) _ | refine Later.trans ?_ (by assumption)))⟩
  have d1 : decide (bl < 1) = false := by simpa using h1
  by_cases h2 : 1048576 < bl
  · have d2 : decide (1048576 < bl) = true := by simpa using h2
    go_wp2
    go_ret
    exact ⟨rfl, (by repeat' (with_reducible first | exact Later.refl _ | assumption | refine Later.drew ?_ | refine Later.drewN ?_ _ | refine Later.alloc ?_ _ | refine Later.put ?_ (by omega) _ | refine Later.trans ?_ (by assumption)))⟩
  have d2 : decide (1048576 < bl) = false := by simpa using h2
  by_cases h3 : bw < 1
  · have d3 : decide (bw < 1) = true := by simpa using h3
    go_wp2
    go_ret
    exact ⟨rfl, (by repeat' (with_reducible first | exact Later.refl _ | assumption | refine Later.drew ?_ | refine Later.drewN ?_ _ | refine Later.alloc ?_ _ | refine Later.put ?_ (by omega) _ | refine Later.trans ?_ (by assumption)))⟩
  · have d3 : decide (bw < 1) = false := by simpa using h3
    have d4 : decide (1048576 < bw) = true := by simp; omega
    go_wp2
    go_ret
    exact ⟨rfl, (by repeat' (with_reducible first | exact Later.refl _ | assumption | refine Later.drew ?_ | refine Later.drewN ?_ _ | refine Later.alloc ?_ _ | refine Later.put ?_ (by omega) _ | refine Later.trans ?_ (by assumption)))⟩

set_option maxHeartbeats 2000000 in
theorem place_Fits_poly (hs : Shapes w C l) (hl : l.length ≤ 65536) (hlen : ∀ s ∈ l, s.ps.length ≤ 1099511627776) (h : ¬ (b.l < 1 ∨ 1048576 < b.l ∨ b.w < 1 ∨ 1048576 < b.w)) (he : (polyR l p).2 ≠ 0) :
    Calls Tryz.prog 52 #[b.agg, .slice C l.length cc, .slice P puts.length pc, p.agg] w (Ret (.int .i64 (polyR l p).2) w) := by
  have HP := Lib.hid (fun W (hW : Later w W) => place_Poly_no C cc l p W (hs.later hW) hl hlen he)
  generalize (polyR l p).2 = er at *
  have h0 : (er != 0) = true := by simpa using he
  clear he
  unfold Bd.agg
  unfold Pu.agg at HP ⊢
  obtain ⟨bl, bw, rx, ry⟩ := b
  obtain ⟨sh, fl, q, x, y⟩ := p
  simp only [] at h HP
  have d1 : decide (bl < 1) = false := by simp; omega
  have d2 : decide (1048576 < bl) = false := by simp; omega
  have d3 : decide (bw < 1) = false := by simp; omega
  have d4 : decide (1048576 < bw) = false := by simp; omega
  go_enter Tryz.func52, Tryz.ntmps52
  go_wp2_with (first | (go_at_call 9; (with_reducible refine (HP.out _ (by repeat' (with_reducible first | exact Later.refl _ | assumption | refine Later.drew ?_ | refine Later.drewN ?_ _ | refine Later.alloc ?_ _ | refine Later.put ?_ (by omega) _ | refine Later.trans ?_ (by assumption)))).mono ?_); rintro e w1 ⟨rfl, hb1⟩))
  go_ret
  exact ⟨rfl, (by repeat' (with_reducible first | exact Later.refl _ | assumption | refine Later.drew ?_ | refine Later.drewN ?_ _ | refine Later.alloc ?_ _ | refine Later.put ?_ (by omega) _ | refine Later.trans ?_ (by assumption)))⟩

set_option maxHeartbeats 8000000 in
set_option maxRecDepth 100000 in
theorem place_Fits_in (hs : Shapes w C l) (hl : l.length ≤ 65536) (hlen : ∀ s ∈ l, s.ps.length ≤ 1099511627776) (hpu : Puts w P puts) (hpn : puts.length ≤ 65536) (h : ¬ (b.l < 1 ∨ 1048576 < b.l ∨ b.w < 1 ∨ 1048576 < b.w)) (he : (polyR l p).2 = 0) :
    Calls Tryz.prog 52 #[b.agg, .slice C l.length cc, .slice P puts.length pc, p.agg] w (Ret (.int .i64 (if selfR b l p ≠ 0 then selfR b l p else othGo l (polyR l p).1 puts)) w) := by
  have HP := Lib.hid (fun W (hW : Later w W) => place_Poly_yes C cc l p W (hs.later hW) hl hlen he)
  obtain ⟨⟨k1, k2⟩, ho, hck⟩ := polyR_ok he
  have h40 := len_of_check hck
  have hnr := outside_near ho
  have HPo := Lib.hid (fun o W (hW : Later w W) h => place_Poly_yes C cc l o W (hs.later hW) hl hlen h)
  have HPe := Lib.hid (fun o W (hW : Later w W) h => place_Poly_no C cc l o W (hs.later hW) hl hlen h)
  have HM := Lib.hid (fun ax ay W => place_matches b.rx b.ry ax ay p W hnr)
  generalize hres : (if selfR b l p ≠ 0 then selfR b l p else othGo l (polyR l p).1 puts) = res
  have Hres := Lib.hid hres
  clear hres he ho hck
  obtain ⟨k, hk, hks⟩ : ∃ k : Nat, k < l.length ∧ p.sh = (k : Int) := ⟨p.sh.toNat, by omega, by omega⟩
  have hgk : gs l p.sh.toNat = l[k] := by rw [hks, Int.toNat_natCast, gs]; simp [hk]
  unfold selfR at Hres
  rw [hgk] at Hres
  obtain ⟨bb, ob, rfl, s0, s1, s2, s3, s4, hok⟩ := hs.at_ hk
  have HAl := Lib.hid (fun W => turn_Allowed (l[k]).gr p.fl p.q W)
  have HO := Lib.hid (fun A1 c1 (a : List Pt) A2 c2 W (h1 : a.length ≤ 40) (h2 : a.length ≤ c1) (h3 : Pts W A1 a) (h4 : (polyR l p).1.length ≤ c2) (h5 : Pts W A2 (polyR l p).1) => overlap_Overlap A1 A2 c1 c2 a (polyR l p).1 W (by omega) h2 h3 (by omega) h4 h5)
  generalize l[k] = s at *
  generalize (polyR l p).1 = poly at *
  obtain ⟨spa, spc, sps, gr, mt, ax, ay⟩ := s
  have HM1 := Lib.hid (fun W => HM.out ax ay W)
  unfold Bd.agg
  unfold Pu.agg at HP HM1 ⊢
  obtain ⟨bl, bw, rx, ry⟩ := b
  obtain ⟨sh, fl, q, x, y⟩ := p
  simp only [] at h HP HM1 HAl hks s0 s1 s2 s3 s4 Hres k1 k2
  subst hks
  generalize allowB gr fl q = al at *
  generalize matchB rx ry ax ay ⟨(k : Int), fl, q, x, y⟩ = mb at *
  have d1 : decide (bl < 1) = false := by simp; omega
  have d2 : decide (1048576 < bl) = false := by simp; omega
  have d3 : decide (bw < 1) = false := by simp; omega
  have d4 : decide (1048576 < bw) = false := by simp; omega
  have hk0 : (0 : Int) ≤ (k : Int) := by omega
  have hk1 : (k : Int) < (l.length : Int) := by omega
  clear HM hgk hok hnr
  go_enter Tryz.func52, Tryz.ntmps52
  go_upto_region 6 with (first | (go_at_call 9; (with_reducible refine (HP.out _ (by repeat' (with_reducible first | exact Later.refl _ | assumption | refine Later.drew ?_ | refine Later.drewN ?_ _ | refine Later.alloc ?_ _ | refine Later.put ?_ (by omega) _ | refine Later.trans ?_ (by assumption)))).mono ?_); rintro e w1 ⟨A1, c1, rfl, q1, q2, q3, hb1⟩))
  have D0 : Blk w1 w.heap.size 25 #[.int .i64 bl, .int .i64 bw, .int .i64 rx, .int .i64 ry] := Blk.later (by repeat' (with_reducible first | assumption | (refine Blk.newAt ?_; simp; done) | refine Blk.alloc ?_ _ | refine Blk.drew ?_ | refine Blk.drewN ?_ _ | refine Blk.later ?_ (by assumption))) hb1
  have D1 : Blk w1 (w.heap.size + 1) 44 #[.int .i64 k, .bool fl, .int .i64 q, .int .i64 x, .int .i64 y] := Blk.later (by repeat' (with_reducible first | assumption | (refine Blk.newAt ?_; simp; done) | refine Blk.alloc ?_ _ | refine Blk.drew ?_ | refine Blk.drewN ?_ _ | refine Blk.later ?_ (by assumption))) hb1
  have hl1 : Later w w1 := (by repeat' (with_reducible first | exact Later.refl _ | assumption | refine Later.drew ?_ | refine Later.drewN ?_ _ | refine Later.alloc ?_ _ | refine Later.put ?_ (by omega) _ | refine Later.trans ?_ (by assumption)))
  have t0 := hl1.cell s0
  have t1 := hl1.cell s1
  have t2 := hl1.cell s2
  have t3 := hl1.cell s3
  have t4 := hl1.cell s4
  clear hb1 d1 d2 d3 d4 HP s0 s1 s2 s3 s4
  generalize hNe : w.heap.size = N at *
  have HN := Lib.hid hNe
  clear hNe
  have c0 : w1.cell? ⟨N + 1, 0, none⟩ = some (.int .i64 k) := D1.cell 0
  have c1' : w1.cell? ⟨N + 1, 1, none⟩ = some (.bool fl) := D1.cell 1
  have c2 : w1.cell? ⟨N + 1, 2, none⟩ = some (.int .i64 q) := D1.cell 2
  have zb : bb < w1.heap.size := World.block_lt_of_cell? _ _ t0
  have zN : N + 1 < w1.heap.size := D1.lt
  go_upto_region 7 with fail
  refine name_world (fun W7 hW7 => ?_)
  have hl7 : Later w1 W7 := by rw [hW7]; exact (by repeat' (with_reducible first | exact Later.refl _ | assumption | refine Later.drew ?_ | refine Later.drewN ?_ _ | refine Later.alloc ?_ _ | refine Later.put ?_ (by omega) _ | refine Later.trans ?_ (by assumption)))
  have S7 : Blk W7 w1.heap.size 31 #[.slice spa sps.length spc, .int .i64 gr, .bool mt, .int .i64 ax, .int .i64 ay] := by rw [hW7]; exact (by repeat' (with_reducible first | assumption | (refine Blk.newAt ?_; simp; done) | refine Blk.alloc ?_ _ | refine Blk.drew ?_ | refine Blk.drewN ?_ _ | refine Blk.later ?_ (by assumption)))
  clear hW7 c0 c1' c2 zb zN t0 t1 t2 t3 t4
  generalize w1.heap.size = G at *
  have E0 := D0.later hl7
  have E1 := D1.later hl7
  have c1' : W7.cell? ⟨N + 1, 1, none⟩ = some (.bool fl) := E1.cell 1
  have c2 : W7.cell? ⟨N + 1, 2, none⟩ = some (.int .i64 q) := E1.cell 2
  have g1 : W7.cell? ⟨G, 1, none⟩ = some (.int .i64 gr) := S7.cell 1
  cases al
  · go_wp2_with (first | (go_at_call 11; (with_reducible refine (HAl.out _).mono ?_); rintro e w8 ⟨rfl, hb8⟩))
    go_ret
    exact ⟨ret_int (by rw [← Hres.out]; simp), (by repeat' (with_reducible first | exact Later.refl _ | assumption | refine Later.drew ?_ | refine Later.drewN ?_ _ | refine Later.alloc ?_ _ | refine Later.put ?_ (by omega) _ | refine Later.trans ?_ (by assumption)))⟩
  · go_wp2_with (first | (go_at_call 11; (with_reducible refine (HAl.out _).mono ?_); rintro e w8 ⟨rfl, hb8⟩))
    have hl78 : Later w1 w8 := hl7.trans hb8
    have hl8 : Later w w8 := hl1.trans hl78
    have F0 := E0.later hb8
    have F1 := E1.later hb8
    have FS := S7.later hb8
    have q8 := q3.later hl78
    clear c1' c2 g1 E0 E1 S7 D0 D1 HAl hl7 hb8
    go_loopw [8, 59] (fun _ iv wr => ∃ i : Nat, i ≤ poly.length ∧ iv = .int .i64 i ∧ onGo bl bw poly = onGo bl bw (poly.drop i) ∧ Later w8 wr) (fun _ iv _ => poly.length - (intOf iv).toNat)
    case atStart => exact ⟨0, by omega, rfl, rfl, Later.refl _⟩
    case round =>
      obtain ⟨i, hi, rfl, he, hb⟩ := hrel
      have He := Lib.hid he
      clear he
      have b0 : wr.cell? ⟨N, 0, none⟩ = some (.int .i64 bl) := hb.cell (F0.cell 0)
      have b1 : wr.cell? ⟨N, 1, none⟩ = some (.int .i64 bw) := hb.cell (F0.cell 1)
      have zN : N < wr.heap.size := World.block_lt_of_cell? _ _ b0
      by_cases hlt : i < poly.length
      · obtain ⟨b6, o6, rfl, e0, e1⟩ := (q8.later hb).at_ hlt
        have hbz : b6 < wr.heap.size := World.block_lt_of_cell? _ _ e0
        have Hd := Lib.hid (drop_cons' poly i hlt)
        generalize poly[i] = pt at *
        obtain ⟨ux, uy⟩ := pt
        simp only [] at e0 e1
        go_wp2
        all_goals
          first
          | (exfalso; omega)
          | (go_ret
             exact ⟨ret_int (by rw [← Hres.out, He.out, Hd.out, on_no (by simp only []; omega)]; simp), (by repeat' (with_reducible first | exact Later.refl _ | assumption | refine Later.drew ?_ | refine Later.drewN ?_ _ | refine Later.alloc ?_ _ | refine Later.put ?_ (by omega) _ | refine Later.trans ?_ (by assumption)))⟩)
          | (go_roundw
             case rel => exact ⟨i + 1, by omega, by go_num, by rw [He.out, Hd.out]; exact on_go (by simp only []; omega), (by repeat' (with_reducible first | exact Later.refl _ | assumption | refine Later.drew ?_ | refine Later.drewN ?_ _ | refine Later.alloc ?_ _ | refine Later.put ?_ (by omega) _ | refine Later.trans ?_ (by assumption)))⟩
             case measure => simp [intOf]; omega)
      · have hon : onGo bl bw poly = true := by rw [He.out, List.drop_eq_nil_of_le (by omega)]; rfl
        rw [hon] at Hres
        clear hon He
        have b2 : wr.cell? ⟨N, 2, none⟩ = some (.int .i64 rx) := hb.cell (F0.cell 2)
        have b3 : wr.cell? ⟨N, 3, none⟩ = some (.int .i64 ry) := hb.cell (F0.cell 3)
        have u0 : wr.cell? ⟨N + 1, 0, none⟩ = some (.int .i64 k) := hb.cell (F1.cell 0)
        have u1 : wr.cell? ⟨N + 1, 1, none⟩ = some (.bool fl) := hb.cell (F1.cell 1)
        have u2 : wr.cell? ⟨N + 1, 2, none⟩ = some (.int .i64 q) := hb.cell (F1.cell 2)
        have u3 : wr.cell? ⟨N + 1, 3, none⟩ = some (.int .i64 x) := hb.cell (F1.cell 3)
        have u4 : wr.cell? ⟨N + 1, 4, none⟩ = some (.int .i64 y) := hb.cell (F1.cell 4)
        have v2 : wr.cell? ⟨G, 2, none⟩ = some (.bool mt) := hb.cell (FS.cell 2)
        have v3 : wr.cell? ⟨G, 3, none⟩ = some (.int .i64 ax) := hb.cell (FS.cell 3)
        have v4 : wr.cell? ⟨G, 4, none⟩ = some (.int .i64 ay) := hb.cell (FS.cell 4)
        obtain ⟨wo, rfl⟩ : ∃ wo : World, wo = wr := ⟨_, rfl⟩
        cases mt
        · have Hr2 := Lib.hid (show othGo l poly puts = res by rw [← Hres.out]; simp)
          clear Hres
          go_wp2
          go_loopw [8, 17, 99] (fun _ _ iv wq => ∃ i : Nat, i ≤ puts.length ∧ iv = .int .i64 i ∧ othGo l poly puts = othGo l poly (puts.drop i) ∧ Later w8 wq) (fun _ _ iv _ => puts.length - (intOf iv).toNat)
          case atStart => exact ⟨0, by omega, rfl, rfl, hb⟩
          case round =>
            obtain ⟨i, hi, rfl, he, hb⟩ := hrel
            have He := Lib.hid he
            clear he
            have hlw := hl8.trans hb
            by_cases hlt : i < puts.length
            · obtain ⟨b5, o5, rfl, e0, e1, e2, e3, e4, hok5⟩ := (hpu.later hlw).at_ hlt
              have hbz : b5 < wr.heap.size := World.block_lt_of_cell? _ _ e0
              have Hd := Lib.hid (drop_cons' puts i hlt)
              generalize puts[i] = o at *
              have hi0 : (0 : Int) ≤ (i : Int) := by omega
              have hi1 : (i : Int) < (puts.length : Int) := by omega
              rcases Classical.em ((polyR l o).2 = 0) with hpo | hpo
              · have HQ := Lib.hid (fun W (hW : Later w W) => HPo.out o W hW hpo)
                have Hpo := Lib.hid hpo
                have h4o := len_of_check (polyR_ok hpo).2.2
                have HO1 := Lib.hid (fun A1 c1 A2 c2 W h2 h3 h4 h5 => HO.out A1 c1 (polyR l o).1 A2 c2 W h4o h2 h3 h4 h5)
                clear hpo
                rcases hov : overR (polyR l o).1 poly with ⟨ob5, oe5⟩
                rw [hov] at HO1
                have Hov := Lib.hid hov
                clear hov
                unfold Pu.agg at HQ
                obtain ⟨osh, ofl, oq, ox, oy⟩ := o
                simp only [] at e0 e1 e2 e3 e4 HQ HO1
                rcases Classical.em (oe5 = 0) with h0 | h0
                · subst h0
                  cases ob5
                  · go_wp2_with (first | (go_at_call 9; (with_reducible refine (HQ.out _ (by repeat' (with_reducible first | exact Later.refl _ | assumption | refine Later.drew ?_ | refine Later.drewN ?_ _ | refine Later.alloc ?_ _ | refine Later.put ?_ (by omega) _ | refine Later.trans ?_ (by assumption)))).mono ?_); rintro e w5 ⟨A5, c5, rfl, z1, z2, z3, hb5⟩; have hlp : Later w1 w5 := hl78.trans (hb.trans (((Later.refl _).alloc _).trans hb5))) | (go_at_call 15; (with_reducible refine (HO1.out _ _ _ _ _ z1 z3 q1 (q3.later hlp)).mono ?_); rintro e w6 ⟨rfl, hb6⟩))
                    go_roundw
                    case rel => exact ⟨i + 1, by omega, by go_num, by rw [He.out, Hd.out]; exact oth_go Hpo.out (by rw [Hov.out]) (by rw [Hov.out]), hb.trans ((((Later.refl _).alloc _).trans hb5).trans hb6)⟩
                    case measure => simp [intOf]; omega
                  · go_wp2_with (first | (go_at_call 9; (with_reducible refine (HQ.out _ (by repeat' (with_reducible first | exact Later.refl _ | assumption | refine Later.drew ?_ | refine Later.drewN ?_ _ | refine Later.alloc ?_ _ | refine Later.put ?_ (by omega) _ | refine Later.trans ?_ (by assumption)))).mono ?_); rintro e w5 ⟨A5, c5, rfl, z1, z2, z3, hb5⟩; have hlp : Later w1 w5 := hl78.trans (hb.trans (((Later.refl _).alloc _).trans hb5))) | (go_at_call 15; (with_reducible refine (HO1.out _ _ _ _ _ z1 z3 q1 (q3.later hlp)).mono ?_); rintro e w6 ⟨rfl, hb6⟩))
                    go_ret
                    exact ⟨ret_int (by rw [← Hr2.out, He.out, Hd.out]; exact (oth_hit Hpo.out (by rw [Hov.out]) (by rw [Hov.out])).symm), (by repeat' (with_reducible first | exact Later.refl _ | assumption | refine Later.drew ?_ | refine Later.drewN ?_ _ | refine Later.alloc ?_ _ | refine Later.put ?_ (by omega) _ | refine Later.trans ?_ (by assumption)))⟩
                · have dd : (oe5 != 0) = true := by simpa using h0
                  go_wp2_with (first | (go_at_call 9; (with_reducible refine (HQ.out _ (by repeat' (with_reducible first | exact Later.refl _ | assumption | refine Later.drew ?_ | refine Later.drewN ?_ _ | refine Later.alloc ?_ _ | refine Later.put ?_ (by omega) _ | refine Later.trans ?_ (by assumption)))).mono ?_); rintro e w5 ⟨A5, c5, rfl, z1, z2, z3, hb5⟩; have hlp : Later w1 w5 := hl78.trans (hb.trans (((Later.refl _).alloc _).trans hb5))) | (go_at_call 15; (with_reducible refine (HO1.out _ _ _ _ _ z1 z3 q1 (q3.later hlp)).mono ?_); rintro e w6 ⟨rfl, hb6⟩))
                  go_ret
                  exact ⟨ret_int (by rw [← Hr2.out, He.out, Hd.out]; rw [oth_over Hpo.out (by rw [Hov.out]; exact h0), Hov.out]), (by repeat' (with_reducible first | exact Later.refl _ | assumption | refine Later.drew ?_ | refine Later.drewN ?_ _ | refine Later.alloc ?_ _ | refine Later.put ?_ (by omega) _ | refine Later.trans ?_ (by assumption)))⟩
              · have HQ := Lib.hid (fun W (hW : Later w W) => HPe.out o W hW hpo)
                have HX := Lib.hid (oth_poly (poly := poly) (r := puts.drop (i + 1)) hpo)
                have dd : ((polyR l o).2 != 0) = true := by simpa using hpo
                clear hpo
                generalize (polyR l o).2 = oe at *
                unfold Pu.agg at HQ
                obtain ⟨osh, ofl, oq, ox, oy⟩ := o
                simp only [] at e0 e1 e2 e3 e4 HQ
                go_wp2_with (first | (go_at_call 9; (with_reducible refine (HQ.out _ (by repeat' (with_reducible first | exact Later.refl _ | assumption | refine Later.drew ?_ | refine Later.drewN ?_ _ | refine Later.alloc ?_ _ | refine Later.put ?_ (by omega) _ | refine Later.trans ?_ (by assumption)))).mono ?_); rintro e w5 ⟨rfl, hb5⟩))
                go_ret
                exact ⟨ret_int (by rw [← Hr2.out, He.out, Hd.out]; exact HX.out.symm), (by repeat' (with_reducible first | exact Later.refl _ | assumption | refine Later.drew ?_ | refine Later.drewN ?_ _ | refine Later.alloc ?_ _ | refine Later.put ?_ (by omega) _ | refine Later.trans ?_ (by assumption)))⟩
            · go_wp2
              go_ret
              exact ⟨ret_int (by rw [← Hr2.out, He.out, List.drop_eq_nil_of_le (by omega)]; rfl), hlw⟩
        · cases mb
          · go_wp2_with (first | (go_at_call 93; (with_reducible refine (HM1.out _).mono ?_); rintro e w9 ⟨rfl, hb9⟩))
            go_ret
            exact ⟨ret_int (by rw [← Hres.out]; simp), (by repeat' (with_reducible first | exact Later.refl _ | assumption | refine Later.drew ?_ | refine Later.drewN ?_ _ | refine Later.alloc ?_ _ | refine Later.put ?_ (by omega) _ | refine Later.trans ?_ (by assumption)))⟩
          · have Hr2 := Lib.hid (show othGo l poly puts = res by rw [← Hres.out]; simp)
            clear Hres
            go_wp2_with (first | (go_at_call 93; (with_reducible refine (HM1.out _).mono ?_); rintro e w9 ⟨rfl, hb9⟩))
            go_loopw [8, 17, 99] (fun _ _ iv wq => ∃ i : Nat, i ≤ puts.length ∧ iv = .int .i64 i ∧ othGo l poly puts = othGo l poly (puts.drop i) ∧ Later w8 wq) (fun _ _ iv _ => puts.length - (intOf iv).toNat)
            case atStart => exact ⟨0, by omega, rfl, rfl, hb.trans hb9⟩
            case round =>
              obtain ⟨i, hi, rfl, he, hb⟩ := hrel
              have He := Lib.hid he
              clear he
              have hlw := hl8.trans hb
              by_cases hlt : i < puts.length
              · obtain ⟨b5, o5, rfl, e0, e1, e2, e3, e4, hok5⟩ := (hpu.later hlw).at_ hlt
                have hbz : b5 < wr.heap.size := World.block_lt_of_cell? _ _ e0
                have Hd := Lib.hid (drop_cons' puts i hlt)
                generalize puts[i] = o at *
                have hi0 : (0 : Int) ≤ (i : Int) := by omega
                have hi1 : (i : Int) < (puts.length : Int) := by omega
                rcases Classical.em ((polyR l o).2 = 0) with hpo | hpo
                · have HQ := Lib.hid (fun W (hW : Later w W) => HPo.out o W hW hpo)
                  have Hpo := Lib.hid hpo
                  have h4o := len_of_check (polyR_ok hpo).2.2
                  have HO1 := Lib.hid (fun A1 c1 A2 c2 W h2 h3 h4 h5 => HO.out A1 c1 (polyR l o).1 A2 c2 W h4o h2 h3 h4 h5)
                  clear hpo
                  rcases hov : overR (polyR l o).1 poly with ⟨ob5, oe5⟩
                  rw [hov] at HO1
                  have Hov := Lib.hid hov
                  clear hov
                  unfold Pu.agg at HQ
                  obtain ⟨osh, ofl, oq, ox, oy⟩ := o
                  simp only [] at e0 e1 e2 e3 e4 HQ HO1
                  rcases Classical.em (oe5 = 0) with h0 | h0
                  · subst h0
                    cases ob5
                    · go_wp2_with (first | (go_at_call 9; (with_reducible refine (HQ.out _ (by repeat' (with_reducible first | exact Later.refl _ | assumption | refine Later.drew ?_ | refine Later.drewN ?_ _ | refine Later.alloc ?_ _ | refine Later.put ?_ (by omega) _ | refine Later.trans ?_ (by assumption)))).mono ?_); rintro e w5 ⟨A5, c5, rfl, z1, z2, z3, hb5⟩; have hlp : Later w1 w5 := hl78.trans (hb.trans (((Later.refl _).alloc _).trans hb5))) | (go_at_call 15; (with_reducible refine (HO1.out _ _ _ _ _ z1 z3 q1 (q3.later hlp)).mono ?_); rintro e w6 ⟨rfl, hb6⟩))
                      go_roundw
                      case rel => exact ⟨i + 1, by omega, by go_num, by rw [He.out, Hd.out]; exact oth_go Hpo.out (by rw [Hov.out]) (by rw [Hov.out]), hb.trans ((((Later.refl _).alloc _).trans hb5).trans hb6)⟩
                      case measure => simp [intOf]; omega
                    · go_wp2_with (first | (go_at_call 9; (with_reducible refine (HQ.out _ (by repeat' (with_reducible first | exact Later.refl _ | assumption | refine Later.drew ?_ | refine Later.drewN ?_ _ | refine Later.alloc ?_ _ | refine Later.put ?_ (by omega) _ | refine Later.trans ?_ (by assumption)))).mono ?_); rintro e w5 ⟨A5, c5, rfl, z1, z2, z3, hb5⟩; have hlp : Later w1 w5 := hl78.trans (hb.trans (((Later.refl _).alloc _).trans hb5))) | (go_at_call 15; (with_reducible refine (HO1.out _ _ _ _ _ z1 z3 q1 (q3.later hlp)).mono ?_); rintro e w6 ⟨rfl, hb6⟩))
                      go_ret
                      exact ⟨ret_int (by rw [← Hr2.out, He.out, Hd.out]; exact (oth_hit Hpo.out (by rw [Hov.out]) (by rw [Hov.out])).symm), (by repeat' (with_reducible first | exact Later.refl _ | assumption | refine Later.drew ?_ | refine Later.drewN ?_ _ | refine Later.alloc ?_ _ | refine Later.put ?_ (by omega) _ | refine Later.trans ?_ (by assumption)))⟩
                  · have dd : (oe5 != 0) = true := by simpa using h0
                    go_wp2_with (first | (go_at_call 9; (with_reducible refine (HQ.out _ (by repeat' (with_reducible first | exact Later.refl _ | assumption | refine Later.drew ?_ | refine Later.drewN ?_ _ | refine Later.alloc ?_ _ | refine Later.put ?_ (by omega) _ | refine Later.trans ?_ (by assumption)))).mono ?_); rintro e w5 ⟨A5, c5, rfl, z1, z2, z3, hb5⟩; have hlp : Later w1 w5 := hl78.trans (hb.trans (((Later.refl _).alloc _).trans hb5))) | (go_at_call 15; (with_reducible refine (HO1.out _ _ _ _ _ z1 z3 q1 (q3.later hlp)).mono ?_); rintro e w6 ⟨rfl, hb6⟩))
                    go_ret
                    exact ⟨ret_int (by rw [← Hr2.out, He.out, Hd.out]; rw [oth_over Hpo.out (by rw [Hov.out]; exact h0), Hov.out]), (by repeat' (with_reducible first | exact Later.refl _ | assumption | refine Later.drew ?_ | refine Later.drewN ?_ _ | refine Later.alloc ?_ _ | refine Later.put ?_ (by omega) _ | refine Later.trans ?_ (by assumption)))⟩
                · have HQ := Lib.hid (fun W (hW : Later w W) => HPe.out o W hW hpo)
                  have HX := Lib.hid (oth_poly (poly := poly) (r := puts.drop (i + 1)) hpo)
                  have dd : ((polyR l o).2 != 0) = true := by simpa using hpo
                  clear hpo
                  generalize (polyR l o).2 = oe at *
                  unfold Pu.agg at HQ
                  obtain ⟨osh, ofl, oq, ox, oy⟩ := o
                  simp only [] at e0 e1 e2 e3 e4 HQ
                  go_wp2_with (first | (go_at_call 9; (with_reducible refine (HQ.out _ (by repeat' (with_reducible first | exact Later.refl _ | assumption | refine Later.drew ?_ | refine Later.drewN ?_ _ | refine Later.alloc ?_ _ | refine Later.put ?_ (by omega) _ | refine Later.trans ?_ (by assumption)))).mono ?_); rintro e w5 ⟨rfl, hb5⟩))
                  go_ret
                  exact ⟨ret_int (by rw [← Hr2.out, He.out, Hd.out]; exact HX.out.symm), (by repeat' (with_reducible first | exact Later.refl _ | assumption | refine Later.drew ?_ | refine Later.drewN ?_ _ | refine Later.alloc ?_ _ | refine Later.put ?_ (by omega) _ | refine Later.trans ?_ (by assumption)))⟩
              · go_wp2
                go_ret
                exact ⟨ret_int (by rw [← Hr2.out, He.out, List.drop_eq_nil_of_le (by omega)]; rfl), hlw⟩
theorem place_Fits (hs : Shapes w C l) (hl : l.length ≤ 65536) (hlen : ∀ s ∈ l, s.ps.length ≤ 1099511627776) (hpu : Puts w P puts) (hpn : puts.length ≤ 65536) :
    Calls Tryz.prog 52 #[b.agg, .slice C l.length cc, .slice P puts.length pc, p.agg] w (Ret (.int .i64 (fitsR b l puts p)) w) := by
  unfold fitsR
  by_cases h : b.l < 1 ∨ 1048576 < b.l ∨ b.w < 1 ∨ 1048576 < b.w
  · rw [if_pos h]
    exact place_Fits_bed b C P cc pc l puts p w h
  · rw [if_neg h]
    by_cases he : (polyR l p).2 = 0
    · rw [if_neg (by simpa using he)]
      exact place_Fits_in b C P cc pc l puts p w hs hl hlen hpu hpn h he
    · rw [if_pos he]
      exact place_Fits_poly b C P cc pc l puts p w hs hl hlen h he
end

end Go.Proofs.YtdhakoecjmaebaaGreat

/- The walk of place.Check. -/
namespace Go.Proofs.YtdhakoecjmaebaaGreat
open Go.RowKit
set_option linter.unusedSimpArgs false
set_option linter.unusedVariables false

theorem Puts.take {w : World} {A : Option Addr} {l : List Pu} (h : Puts w A l) (n : Nat) : Puts w A (l.take n) := by
  intro hn
  obtain ⟨b, o, e, hc⟩ := h (by rw [List.length_take] at hn; omega)
  exact ⟨b, o, e, fun i a ha => hc i a (by rw [List.getElem?_take] at ha; split at ha; exact ha; cases ha)⟩

section
variable (b : Bd) (C P : Option Addr) (cc pc : Nat) (l : List Sh) (puts : List Pu) (w : World)
end

end Go.Proofs.YtdhakoecjmaebaaGreat
