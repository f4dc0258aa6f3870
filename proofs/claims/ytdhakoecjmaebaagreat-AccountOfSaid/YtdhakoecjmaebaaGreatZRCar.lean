/-
 The walk of garmentref11.Box.
 The walk of garmentref39.Carrier.
-/
import Derived.Test.YtdhakoecjmaebaaGreatZDam
import Derived.Test.YtdhakoecjmaebaaGreatZRef
import Derived.StillTailTactics
namespace Go.Proofs.YtdhakoecjmaebaaGreat
open Go.RowKit
set_option linter.unusedSimpArgs false
set_option linter.unusedVariables false
attribute [local go_sem] ite_min ite_max
theorem rsmall_of_check {ps : List Pt} (h : rcheckI ps = 0) : AllSm ps ∧ 3 ≤ ps.length ∧ ps.length ≤ 40 := by
 unfold rcheckI at h
 split at h
 ·cases h
 ·split at h
  ·cases h
  ·split at h
   ·cases h
   ·rename_i h'
    exact ⟨small_of (by simpa using h'), by omega, by omega⟩
theorem loP_self (p : Pt) : loP p p = p := by simp [loP]
theorem hiP_self (p : Pt) : hiP p p = p := by simp [hiP]
theorem lo_first {ps : List Pt} (h : 0 < ps.length) : loOf ps = (ps.drop 1).foldl loP ⟨(ps[0]).x, (ps[0]).y⟩ := by
 cases ps with
 | nil => cases h
 | cons p l =>
  show l.foldl loP (loP p p) = l.foldl loP p
  rw [loP_self]
theorem hi_first {ps : List Pt} (h : 0 < ps.length) : hiOf ps = (ps.drop 1).foldl hiP ⟨(ps[0]).x, (ps[0]).y⟩ := by
 cases ps with
 | nil => cases h
 | cons p l =>
  show l.foldl hiP (hiP p p) = l.foldl hiP p
  rw [hiP_self]
set_option maxHeartbeats 1000000 in
theorem ref11_Box_err (A : Option Addr) (c : Nat) (ps : List Pt) (w : World) (hn : ps.length ≤ 1099511627776) (hcap : ps.length ≤ c) (hp : Pts w A ps) (hok : rcheckI ps ≠ 0) :
  Calls Tryz.prog 179 #[.slice A ps.length c] w (Ret (.tuple #[.agg #[.int .i64 0, .int .i64 0, .int .i64 0, .int .i64 0], .int .i64 (rcheckI ps)]) w) := by
 have hC := fun W (hW : Pts W A ps) => ref11_Check A c ps W hn hcap hW
 generalize rcheckI ps = e0 at *
 have h0 : (e0 != 0) = true := by simpa using hok
 have h1 : (e0 == 0) = false := by simpa using hok
 have HC := Lib.hid hC
 have Hok := Lib.hid hok
 clear hC hok
 go_enter Tryz.func179, Tryz.ntmps179
 go_wp2_with (first | (go_at_call 135; refine (HC.out _ (hp.later ((by repeat' (first | exact Later.refl _ | assumption | refine Later.drew ?_ | refine Later.drewN ?_ _ | refine Later.alloc ?_ _ | refine Later.put ?_ (by omega) _ | refine Later.trans ?_ (by assumption)))))).mono ?_; rintro e w1 ⟨rfl, hb1⟩; have hk1 := hb1.keeps; have hf1 := hb1.keepsF))
 refine bodyPost_ret (v := .tuple #[.agg #[.int .i64 0, .int .i64 0, .int .i64 0, .int .i64 0], .int .i64 e0]) (by simp [results, Tryz.results179, go_sem, hk1]) rfl ⟨rfl, ?_⟩
 exact (by repeat' (first | exact Later.refl _ | assumption | refine Later.drew ?_ | refine Later.drewN ?_ _ | refine Later.alloc ?_ _ | refine Later.put ?_ (by omega) _ | refine Later.trans ?_ (by assumption)))
set_option maxRecDepth 100000 in
set_option maxHeartbeats 4000000 in
theorem ref11_Box_ok (A : Option Addr) (c : Nat) (ps : List Pt) (w : World) (hn : ps.length ≤ 1099511627776) (hcap : ps.length ≤ c) (hp : Pts w A ps) (hok : rcheckI ps = 0) :
  Calls Tryz.prog 179 #[.slice A ps.length c] w (Ret (.tuple #[.agg #[.int .i64 (loOf ps).x, .int .i64 (loOf ps).y, .int .i64 ((hiOf ps).x - (loOf ps).x), .int .i64 ((hiOf ps).y - (loOf ps).y)], .int .i64 0]) w) := by
 obtain ⟨hsm, h3', h40⟩ := rsmall_of_check hok
 have h3 : 0 < ps.length := by omega
 obtain ⟨b, o, rfl, hat⟩ := hp h3
 have hC := fun W (hW : Pts W (some ⟨b, o, none⟩) ps) => ref11_Check (some ⟨b, o, none⟩) c ps W hn hcap hW
 rw [hok] at hC
 have HC := Lib.hid hC
 have Hok := Lib.hid hok
 clear hC hok
 go_enter Tryz.func179, Tryz.ntmps179
 go_wp2_with (first | (go_at_call 135; refine (HC.out _ (hp.later ((by repeat' (first | exact Later.refl _ | assumption | refine Later.drew ?_ | refine Later.drewN ?_ _ | refine Later.alloc ?_ _ | refine Later.put ?_ (by omega) _ | refine Later.trans ?_ (by assumption)))))).mono ?_; rintro e w1 ⟨rfl, hb1⟩; obtain ⟨p1, p2⟩ := (hat.later (((Later.refl _).alloc _).trans hb1)).get h3; have hk1 := hb1.keeps; have hz1 := hb1.size))
 have p3 : w1.cell? ⟨b, o, none⟩ = some (.int .i64 (ps[0]).x) := by simpa using p1
 have p4 : w1.cell? ⟨b, o + 1, none⟩ = some (.int .i64 (ps[0]).y) := by simpa using p2
 have hbz : b < w1.heap.size := World.block_lt_of_cell? _ _ p3
 have r0 : w1.cell? ⟨w.heap.size, 0, none⟩ = some (.int .i64 0) := by rw [hk1 _ (by simp [go_sem])]; simp [go_sem]
 have r1 : w1.cell? ⟨w.heap.size, 1, none⟩ = some (.int .i64 0) := by rw [hk1 _ (by simp [go_sem])]; simp [go_sem]
 have r2 : w1.cell? ⟨w.heap.size, 2, none⟩ = some (.int .i64 0) := by rw [hk1 _ (by simp [go_sem])]; simp [go_sem]
 have r3 : w1.cell? ⟨w.heap.size, 3, none⟩ = some (.int .i64 0) := by rw [hk1 _ (by simp [go_sem])]; simp [go_sem]
 have f0 : ∀ k, k < 4 → w1.frozen? ⟨w.heap.size, k, none⟩ = false := by
  intro k hk
  rw [hb1.keepsF _ (by rcases k with _ | _ | _ | _ | k <;> first | (simp [go_sem]; done) | omega)]
  simp [go_sem]
 have hl : Later w w1 := ((Later.refl _).alloc _).trans hb1
 clear p1 p2 hk1 hz1 hb1
 have hlo0 := lo_sm hsm
 go_region
 ·clear p3 p4 hbz
  go_wp2
  go_loopw [7] (fun i wq => ∃ (k : Nat) (lx ly hx hy : Int), 1 ≤ k ∧ k ≤ ps.length ∧ i = .int .i64 k ∧ loOf ps = (ps.drop k).foldl loP ⟨lx, ly⟩ ∧ hiOf ps = (ps.drop k).foldl hiP ⟨hx, hy⟩ ∧
    Later w1 wq ∧ Blk wq (w1.heap.size) 29 #[.int .i64 lx, .int .i64 ly] ∧ Blk wq (w1.heap.size + 1) 29 #[.int .i64 hx, .int .i64 hy]) (fun i _ => ps.length - (intOf i).toNat)
  case atStart =>
   refine ⟨1, (ps[0]).x, (ps[0]).y, (ps[0]).x, (ps[0]).y, by omega, by omega, rfl, ?_, ?_, (((Later.refl _).alloc _).alloc _).drew, ?_, ?_⟩
   ·exact lo_first h3
   ·exact hi_first h3
   ·first | exact ((Blk.new _ _ _).alloc _).drew | exact (Blk.new1 _ _ _ _).drew
   ·first | exact ((Blk.new _ _ _).alloc _).drew | exact (Blk.new1 _ _ _ _).drew
  case round =>
   obtain ⟨k, lx, ly, hx, hy, hk1, hk, rfl, el, eh, hlq, hP, hQ⟩ := hrel
   have El := Lib.hid el
   have Eh := Lib.hid eh
   clear el eh
   have cP0 : wr.cell? ⟨w1.heap.size, 0, none⟩ = some (.int .i64 lx) := hP.cell 0
   have cP1 : wr.cell? ⟨w1.heap.size, 1, none⟩ = some (.int .i64 ly) := hP.cell 1
   have cQ0 : wr.cell? ⟨w1.heap.size + 1, 0, none⟩ = some (.int .i64 hx) := hQ.cell 0
   have cQ1 : wr.cell? ⟨w1.heap.size + 1, 1, none⟩ = some (.int .i64 hy) := hQ.cell 1
   have fP0 := hP.frozen 0
   have fP1 := hP.frozen 1
   have fQ0 := hQ.frozen 0
   have fQ1 := hQ.frozen 1
   have lP := hP.lt
   have lQ := hQ.lt
   by_cases hlt : k < ps.length
   ·obtain ⟨e1, e2⟩ := ((hat.later hl).later hlq).get hlt
    have hbz : b < wr.heap.size := World.block_lt_of_cell? _ _ e1
    have Hd := Lib.hid (drop_cons ps k hlt)
    go_wp2
    go_still_tail 17, (by kernel_rfl)
    change wpList _ _ _ _ _ wr.drew
    go_wp2
    refine name_world (fun W2 hW2 => ?_)
    have hlq2 : Later w1 W2 := by rw [hW2]; exact ((hlq.put (by omega) _).put (by omega) _).drew
    have hP2 := show Blk W2 (w1.heap.size) 29 #[.int .i64 (min lx (ps[k]).x), .int .i64 (min ly (ps[k]).y)] by rw [hW2]; exact hP.two.drew
    have hQ2 := show Blk W2 (w1.heap.size + 1) 29 #[.int .i64 hx, .int .i64 hy] by rw [hW2]; exact ((hQ.far (by omega) _).far (by omega) _).drew
    clear hW2 cP0 cP1 cQ0 cQ1 fP0 fP1 fQ0 fQ1 e1 e2 lP lQ hbz
    obtain ⟨e1, e2⟩ := ((hat.later hl).later hlq2).get hlt
    have cQ0 : W2.cell? ⟨w1.heap.size + 1, 0, none⟩ = some (.int .i64 hx) := hQ2.cell 0
    have cQ1 : W2.cell? ⟨w1.heap.size + 1, 1, none⟩ = some (.int .i64 hy) := hQ2.cell 1
    have fQ0 := hQ2.frozen 0
    have fQ1 := hQ2.frozen 1
    have lQ := hQ2.lt
    have hbz : b < W2.heap.size := World.block_lt_of_cell? _ _ e1
    go_still_tail 17, (by kernel_rfl)
    change wpList _ _ _ _ _ W2.drew
    go_wp2
    go_roundw
    case rel =>
     exact ⟨k + 1, _, _, _, _, by omega, by omega, by go_num, by rw [El.out, Hd.out]; rfl, by rw [Eh.out, Hd.out]; rfl, ((hlq2.put (by omega) _).put (by omega) _).drew,
      ((hP2.far (by omega) _).far (by omega) _).drew, hQ2.two.drew⟩
    case measure => simp [intOf]; omega
   ·have el : loOf ps = ⟨lx, ly⟩ := by rw [El.out, List.drop_eq_nil_of_le (by omega)]; rfl
    have eh : hiOf ps = ⟨hx, hy⟩ := by rw [Eh.out, List.drop_eq_nil_of_le (by omega)]; rfl
    have hs := hlo0
    rw [el, eh] at hs
    obtain ⟨⟨s1, s2⟩, s3, s4⟩ := hs
    unfold Sm at s1 s2 s3 s4
    have El' := Lib.hid el
    have Eh' := Lib.hid eh
    clear el eh
    have q0 := hlq.cell r0
    have q1 := hlq.cell r1
    have q2 := hlq.cell r2
    have q3 := hlq.cell r3
    have g0 : wr.frozen? ⟨w.heap.size, 0, none⟩ = false := by rw [hlq.keepsF _ (by rw [r0]; rfl)]; exact f0 0 (by omega)
    have g1 : wr.frozen? ⟨w.heap.size, 1, none⟩ = false := by rw [hlq.keepsF _ (by rw [r1]; rfl)]; exact f0 1 (by omega)
    have g2 : wr.frozen? ⟨w.heap.size, 2, none⟩ = false := by rw [hlq.keepsF _ (by rw [r2]; rfl)]; exact f0 2 (by omega)
    have g3 : wr.frozen? ⟨w.heap.size, 3, none⟩ = false := by rw [hlq.keepsF _ (by rw [r3]; rfl)]; exact f0 3 (by omega)
    clear f0
    go_wp2
    have hw1 : wrap64 (hx - lx) = hx - lx := IntWalk.wrap64_in _ ⟨by omega, by omega⟩
    have hw2 : wrap64 (hy - ly) = hy - ly := IntWalk.wrap64_in _ ⟨by omega, by omega⟩
    refine bodyPost_ret (v := .tuple #[.agg #[.int .i64 lx, .int .i64 ly, .int .i64 (hx - lx), .int .i64 (hy - ly)], .int .i64 0]) (by simp [results, Tryz.results179, go_sem, q0, q1, q2, q3, hw1, hw2]) rfl ⟨by rw [El'.out, Eh'.out], ?_⟩
    exact ((((hl.trans hlq).put (Nat.le_refl _) _).put (Nat.le_refl _) _).put (Nat.le_refl _) _).put (Nat.le_refl _) _
 ·clear p3 p4 hbz
  go_wp2
  go_loopw [7] (fun i wq => ∃ (k : Nat) (lx ly hx hy : Int), 1 ≤ k ∧ k ≤ ps.length ∧ i = .int .i64 k ∧ loOf ps = (ps.drop k).foldl loP ⟨lx, ly⟩ ∧ hiOf ps = (ps.drop k).foldl hiP ⟨hx, hy⟩ ∧
    Later w1 wq ∧ Blk wq (w1.heap.size + 1) 29 #[.int .i64 lx, .int .i64 ly] ∧ Blk wq (w1.heap.size) 29 #[.int .i64 hx, .int .i64 hy]) (fun i _ => ps.length - (intOf i).toNat)
  case atStart =>
   refine ⟨1, (ps[0]).x, (ps[0]).y, (ps[0]).x, (ps[0]).y, by omega, by omega, rfl, ?_, ?_, (((Later.refl _).alloc _).alloc _).drew, ?_, ?_⟩
   ·exact lo_first h3
   ·exact hi_first h3
   ·first | exact ((Blk.new _ _ _).alloc _).drew | exact (Blk.new1 _ _ _ _).drew
   ·first | exact ((Blk.new _ _ _).alloc _).drew | exact (Blk.new1 _ _ _ _).drew
  case round =>
   obtain ⟨k, lx, ly, hx, hy, hk1, hk, rfl, el, eh, hlq, hP, hQ⟩ := hrel
   have El := Lib.hid el
   have Eh := Lib.hid eh
   clear el eh
   have cP0 : wr.cell? ⟨w1.heap.size + 1, 0, none⟩ = some (.int .i64 lx) := hP.cell 0
   have cP1 : wr.cell? ⟨w1.heap.size + 1, 1, none⟩ = some (.int .i64 ly) := hP.cell 1
   have cQ0 : wr.cell? ⟨w1.heap.size, 0, none⟩ = some (.int .i64 hx) := hQ.cell 0
   have cQ1 : wr.cell? ⟨w1.heap.size, 1, none⟩ = some (.int .i64 hy) := hQ.cell 1
   have fP0 := hP.frozen 0
   have fP1 := hP.frozen 1
   have fQ0 := hQ.frozen 0
   have fQ1 := hQ.frozen 1
   have lP := hP.lt
   have lQ := hQ.lt
   by_cases hlt : k < ps.length
   ·obtain ⟨e1, e2⟩ := ((hat.later hl).later hlq).get hlt
    have hbz : b < wr.heap.size := World.block_lt_of_cell? _ _ e1
    have Hd := Lib.hid (drop_cons ps k hlt)
    go_wp2
    go_still_tail 17, (by kernel_rfl)
    change wpList _ _ _ _ _ wr.drew
    go_wp2
    refine name_world (fun W2 hW2 => ?_)
    have hlq2 : Later w1 W2 := by rw [hW2]; exact ((hlq.put (by omega) _).put (by omega) _).drew
    have hP2 := show Blk W2 (w1.heap.size + 1) 29 #[.int .i64 (min lx (ps[k]).x), .int .i64 (min ly (ps[k]).y)] by rw [hW2]; exact hP.two.drew
    have hQ2 := show Blk W2 (w1.heap.size) 29 #[.int .i64 hx, .int .i64 hy] by rw [hW2]; exact ((hQ.far (by omega) _).far (by omega) _).drew
    clear hW2 cP0 cP1 cQ0 cQ1 fP0 fP1 fQ0 fQ1 e1 e2 lP lQ hbz
    obtain ⟨e1, e2⟩ := ((hat.later hl).later hlq2).get hlt
    have cQ0 : W2.cell? ⟨w1.heap.size, 0, none⟩ = some (.int .i64 hx) := hQ2.cell 0
    have cQ1 : W2.cell? ⟨w1.heap.size, 1, none⟩ = some (.int .i64 hy) := hQ2.cell 1
    have fQ0 := hQ2.frozen 0
    have fQ1 := hQ2.frozen 1
    have lQ := hQ2.lt
    have hbz : b < W2.heap.size := World.block_lt_of_cell? _ _ e1
    go_still_tail 17, (by kernel_rfl)
    change wpList _ _ _ _ _ W2.drew
    go_wp2
    go_roundw
    case rel =>
     exact ⟨k + 1, _, _, _, _, by omega, by omega, by go_num, by rw [El.out, Hd.out]; rfl, by rw [Eh.out, Hd.out]; rfl, ((hlq2.put (by omega) _).put (by omega) _).drew,
      ((hP2.far (by omega) _).far (by omega) _).drew, hQ2.two.drew⟩
    case measure => simp [intOf]; omega
   ·have el : loOf ps = ⟨lx, ly⟩ := by rw [El.out, List.drop_eq_nil_of_le (by omega)]; rfl
    have eh : hiOf ps = ⟨hx, hy⟩ := by rw [Eh.out, List.drop_eq_nil_of_le (by omega)]; rfl
    have hs := hlo0
    rw [el, eh] at hs
    obtain ⟨⟨s1, s2⟩, s3, s4⟩ := hs
    unfold Sm at s1 s2 s3 s4
    have El' := Lib.hid el
    have Eh' := Lib.hid eh
    clear el eh
    have q0 := hlq.cell r0
    have q1 := hlq.cell r1
    have q2 := hlq.cell r2
    have q3 := hlq.cell r3
    have g0 : wr.frozen? ⟨w.heap.size, 0, none⟩ = false := by rw [hlq.keepsF _ (by rw [r0]; rfl)]; exact f0 0 (by omega)
    have g1 : wr.frozen? ⟨w.heap.size, 1, none⟩ = false := by rw [hlq.keepsF _ (by rw [r1]; rfl)]; exact f0 1 (by omega)
    have g2 : wr.frozen? ⟨w.heap.size, 2, none⟩ = false := by rw [hlq.keepsF _ (by rw [r2]; rfl)]; exact f0 2 (by omega)
    have g3 : wr.frozen? ⟨w.heap.size, 3, none⟩ = false := by rw [hlq.keepsF _ (by rw [r3]; rfl)]; exact f0 3 (by omega)
    clear f0
    go_wp2
    have hw1 : wrap64 (hx - lx) = hx - lx := IntWalk.wrap64_in _ ⟨by omega, by omega⟩
    have hw2 : wrap64 (hy - ly) = hy - ly := IntWalk.wrap64_in _ ⟨by omega, by omega⟩
    refine bodyPost_ret (v := .tuple #[.agg #[.int .i64 lx, .int .i64 ly, .int .i64 (hx - lx), .int .i64 (hy - ly)], .int .i64 0]) (by simp [results, Tryz.results179, go_sem, q0, q1, q2, q3, hw1, hw2]) rfl ⟨by rw [El'.out, Eh'.out], ?_⟩
    exact ((((hl.trans hlq).put (Nat.le_refl _) _).put (Nat.le_refl _) _).put (Nat.le_refl _) _).put (Nat.le_refl _) _
end Go.Proofs.YtdhakoecjmaebaaGreat
namespace Go.Proofs.YtdhakoecjmaebaaGreat
open Go.RowKit
set_option linter.unusedSimpArgs false
set_option linter.unusedVariables false
def rcarrierR (parts : List Qd) (ps : List Pt) : Int × Int :=
 if rcheckI ps = 0 then carrierGo (loOf ps).x (hiOf ps).x parts 0 else (0, rcheckI ps)
set_option maxHeartbeats 1000000 in
theorem ref39_Carrier_err (A B : Option Addr) (c cb : Nat) (lot : Int) (qs : List Qd) (ps : List Pt) (w : World) (hn : ps.length ≤ 1099511627776) (hcap : ps.length ≤ c) (hp : Pts w A ps) (hok : rcheckI ps ≠ 0) :
  Calls Tryz.prog 132 #[.agg #[.int .i64 lot, .slice B qs.length cb], .slice A ps.length c] w (Ret (.tuple #[.int .i64 0, .int .i64 (rcheckI ps)]) w) := by
 have hC := fun W (hW : Pts W A ps) => ref11_Box_err A c ps W hn hcap hW hok
 generalize rcheckI ps = e0 at *
 have h0 : (e0 != 0) = true := by simpa using hok
 have HC := Lib.hid hC
 clear hC hok
 go_enter Tryz.func132, Tryz.ntmps132
 go_wp2_with (first | (go_at_call 179; refine (HC.out _ (hp.later ((by repeat' (first | exact Later.refl _ | assumption | refine Later.drew ?_ | refine Later.drewN ?_ _ | refine Later.alloc ?_ _ | refine Later.put ?_ (by omega) _ | refine Later.trans ?_ (by assumption)))))).mono ?_; rintro e w1 ⟨rfl, hb1⟩))
 go_ret2
 exact ⟨rfl, (by repeat' (first | exact Later.refl _ | assumption | refine Later.drew ?_ | refine Later.drewN ?_ _ | refine Later.alloc ?_ _ | refine Later.put ?_ (by omega) _ | refine Later.trans ?_ (by assumption)))⟩
set_option maxHeartbeats 1000000 in
theorem ref39_Carrier_ok (A B : Option Addr) (c cb : Nat) (lot : Int) (qs : List Qd) (ps : List Pt) (w : World) (hn : ps.length ≤ 1099511627776) (hcap : ps.length ≤ c) (hp : Pts w A ps)
  (hnq : qs.length ≤ 65536) (hcq : qs.length ≤ cb) (hq : Qds w B qs) (hok : rcheckI ps = 0) :
  Calls Tryz.prog 132 #[.agg #[.int .i64 lot, .slice B qs.length cb], .slice A ps.length c] w
   (Ret (.tuple #[.int .i64 (carrierGo (loOf ps).x (hiOf ps).x qs 0).1, .int .i64 (carrierGo (loOf ps).x (hiOf ps).x qs 0).2]) w) := by
 have hC := fun W (hW : Pts W A ps) => ref11_Box_ok A c ps W hn hcap hW hok
 have hsm := lo_sm (rsmall_of_check hok).1
 have HC := Lib.hid hC
 clear hC hok
 obtain ⟨s1, s2⟩ := hsm
 generalize loOf ps = lo at *
 generalize hiOf ps = hi at *
 obtain ⟨lx, ly⟩ := lo
 obtain ⟨hx, hy⟩ := hi
 have S1 : Sm lx := s1.1
 have S2 : Sm hx := s2.1
 clear s1 s2
 unfold Sm at S1 S2
 go_enter Tryz.func132, Tryz.ntmps132
 go_wp2_with (first | (go_at_call 179; refine (HC.out _ (hp.later ((by repeat' (first | exact Later.refl _ | assumption | refine Later.drew ?_ | refine Later.drewN ?_ _ | refine Later.alloc ?_ _ | refine Later.put ?_ (by omega) _ | refine Later.trans ?_ (by assumption)))))).mono ?_; rintro e w1 ⟨rfl, hb1⟩; have r0 : w1.cell? ⟨w.heap.size, 0, none⟩ = some (.int .i64 lot) := hb1.cell (by simp [go_sem]); have r1 : w1.cell? ⟨w.heap.size, 1, none⟩ = some (.slice B qs.length cb) := hb1.cell (by simp [go_sem]); have hz : w.heap.size < w1.heap.size := World.block_lt_of_cell? _ _ r0))
 refine name_world (fun W9 hW9 => ?_)
 have hl9 : Later w1 W9 := by rw [hW9]; exact (by repeat' (first | exact Later.refl _ | assumption | refine Later.drew ?_ | refine Later.drewN ?_ _ | refine Later.alloc ?_ _ | refine Later.put ?_ (by omega) _ | refine Later.trans ?_ (by assumption)))
 have hlw : Later w W9 := ((Later.refl _).alloc _).trans (hb1.trans hl9)
 have b0 : W9.cell? ⟨w1.heap.size, 0, none⟩ = some (.int .i64 lx) := by rw [hW9]; simp [go_sem]
 have b1 : W9.cell? ⟨w1.heap.size, 1, none⟩ = some (.int .i64 ly) := by rw [hW9]; simp [go_sem]
 have b2 : W9.cell? ⟨w1.heap.size, 2, none⟩ = some (.int .i64 (hx - lx)) := by rw [hW9]; simp [go_sem]
 have b3 : W9.cell? ⟨w1.heap.size, 3, none⟩ = some (.int .i64 (hy - ly)) := by rw [hW9]; simp [go_sem]
 have r1' := hl9.cell r1
 have hq9 := hq.later hlw
 clear hW9 r0 r1 hz hb1 hl9 HC
 generalize w1.heap.size = gb at *
 generalize w.heap.size = ga at *
 go_loopw [4, 5, 8] (fun _ _ iv wr => ∃ k : Nat, k ≤ qs.length ∧ iv = .int .i64 k ∧ carrierGo lx hx qs 0 = carrierGo lx hx (qs.drop k) k ∧ Later W9 wr) (fun _ _ iv _ => qs.length - (intOf iv).toNat)
 case atStart => exact ⟨0, by omega, rfl, rfl, Later.refl _⟩
 case round =>
  obtain ⟨k, hk, rfl, he, hb⟩ := hrel
  have He := Lib.hid he
  clear he
  have g9 := hb.cell r1'
  by_cases hlt : k < qs.length
  ·obtain ⟨bb, ob, rfl, hel⟩ := (hq9.later hb) (by omega)
   obtain ⟨e1, e2, e3, e4⟩ := hel.get hlt
   have hbz : bb < wr.heap.size := World.block_lt_of_cell? _ _ e1
   have Hd := Lib.hid (drop_cons' qs k hlt)
   have g0 := hb.cell b0
   have g1 := hb.cell b1
   have g2 := hb.cell b2
   have g3 := hb.cell b3
   have hgz : gb < wr.heap.size := World.block_lt_of_cell? _ _ g0
   generalize qs[k] = q at *
   have Hc := Lib.hid (fun W => ref39_carries q lx hx W)
   have hwr : IntKind.i64.wrap (lx + (hx - lx)) = hx := by rw [show lx + (hx - lx) = hx by omega]; exact IntWalk.i64_in _ (by omega)
   have hk0 : (0 : Int) ≤ (k : Int) := by omega
   have hk1 : (k : Int) < (qs.length : Int) := by omega
   cases hc1 : carriesB q lx hx
   all_goals
    rw [hc1] at Hc
    have Hc1 := Lib.hid hc1
    clear hc1
    obtain ⟨qa, qb, qc, qd⟩ := q
    unfold Qd.agg at Hc
    go_wp2
    go_region_held3 (fun w' : World => (∀ a : Addr, (wr.cell? a).isSome = true → w'.cell? a = wr.cell? a) ∧ Later wr w') (first | assumption | exact keep_call (by assumption) (by assumption) | exact keep_call (by assumption) ((Later.refl _).alloc _) | exact keep_init _)
     (first | (go_at_call 180; refine (Hc.out _).mono ?_; rintro e w4 ⟨rfl, hb4⟩))
    rename_i hHw
    have hlw4 := hHw.2
    clear hHw
    go_wp2
   ·go_roundw
    case rel => exact ⟨k + 1, by omega, by go_num, by rw [He.out, Hd.out, carrier_miss Hc1.out], hb.trans hlw4⟩
    case measure => simp [intOf]; omega
   ·go_ret2
    exact ⟨by rw [He.out, Hd.out, carrier_hit Hc1.out]; rfl, hlw.trans (hb.trans hlw4)⟩
  ·go_wp2
   go_ret2
   exact ⟨by rw [He.out, List.drop_eq_nil_of_le (by omega)]; rfl, hlw.trans hb⟩
theorem ref39_Carrier (A B : Option Addr) (c cb : Nat) (lot : Int) (qs : List Qd) (ps : List Pt) (w : World) (hn : ps.length ≤ 1099511627776) (hcap : ps.length ≤ c) (hp : Pts w A ps)
  (hnq : qs.length ≤ 65536) (hcq : qs.length ≤ cb) (hq : Qds w B qs) :
  Calls Tryz.prog 132 #[.agg #[.int .i64 lot, .slice B qs.length cb], .slice A ps.length c] w
   (Ret (.tuple #[.int .i64 (rcarrierR qs ps).1, .int .i64 (rcarrierR qs ps).2]) w) := by
 unfold rcarrierR
 split
 ·exact ref39_Carrier_ok A B c cb lot qs ps w hn hcap hp hnq hcq hq (by assumption)
 ·exact ref39_Carrier_err A B c cb lot qs ps w hn hcap hp (by assumption)
end Go.Proofs.YtdhakoecjmaebaaGreat
