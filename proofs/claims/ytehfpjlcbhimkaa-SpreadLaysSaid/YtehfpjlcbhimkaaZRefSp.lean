/-
  Reference 38: wanted, ply return what the program's twins return.
-/
import Derived.Test.YtehfpjlcbhimkaaZRefPl
import Derived.Test.YtehfpjlcbhimkaaZLaidB
namespace Go.Proofs.Ytehfpjlcbhimkaa
open Go.RowKit
set_option linter.unusedSimpArgs false
set_option linter.unusedVariables false

/- wanted. -/
def wantedB (lots plies : List Int) : Bool := chkPliesR lots plies == 0
theorem wanted_lots {lots plies : List Int} (h : lotsBad lots = true) : false = wantedB lots plies := by unfold wantedB chkPliesR; rw [if_pos h]; rfl
theorem wanted_bad {lots plies : List Int} (h : lotsBad lots = false) (h2 : pliesGo 0 plies = 3) : false = wantedB lots plies := by unfold wantedB chkPliesR; rw [if_neg (by simp [h]), h2]; rfl
theorem wanted_ok {lots plies : List Int} (h : lotsBad lots = false) (h2 : pliesGo 0 plies = 0) : true = wantedB lots plies := by unfold wantedB chkPliesR; rw [if_neg (by simp [h]), h2]; rfl
set_option maxHeartbeats 4000000 in
set_option maxRecDepth 100000 in
theorem ref38_wanted (L A : Option Addr) (lc ac : Nat) (lots plies : List Int) (w : World) (hL : Ints w L lots) (hA : Ints w A plies) (hl : lots.length ≤ 65536) (ha : plies.length ≤ 65536) :
    Calls Try.prog 40 #[.slice L lots.length lc, .slice A plies.length ac] w (Ret (.bool (wantedB lots plies)) w) := by
  go_enter Try.func40, Try.ntmps40
  go_wp2
  go_loopw [5] (fun iv wr => ∃ k : Nat, k ≤ lots.length ∧ iv = .int .i64 k ∧ lotsBad lots = lotsBad (lots.drop k) ∧ Later w wr) (fun iv _ => lots.length - (intOf iv).toNat)
  case atStart => exact ⟨0, by omega, rfl, rfl, Later.refl _⟩
  case round =>
    obtain ⟨k, hk, rfl, he, hb⟩ := hrel
    have He := Lib.hid he
    clear he
    by_cases hlt : k < lots.length
    · obtain ⟨b, o, rfl, e1⟩ := (hL.later hb).at_ hlt
      have hbz := World.block_lt_of_cell? _ _ e1
      have Hd := Lib.hid (drop_cons' lots k hlt)
      generalize lots[k] = n at *
      by_cases h0 : n < 0
      · have d0 : decide (n < 0) = true := by simpa using h0
        have HR := Lib.hid (wanted_lots (plies := plies) (show lotsBad lots = true by rw [He.out, Hd.out, lots_hit h0]))
        go_wp2
        go_ret
        exact ⟨ret_bool HR.out, (by repeat' (with_reducible first | exact Later.refl _ | assumption | refine Later.drew ?_ | refine Later.drewN ?_ _ | refine Later.alloc ?_ _ | refine Later.put ?_ (by omega) _ | refine Later.trans ?_ (by assumption)))⟩
      · have d0 : decide (n < 0) = false := by simpa using h0
        have HR := Lib.hid (show lotsBad lots = lotsBad (lots.drop (k + 1)) by rw [He.out, Hd.out, lots_miss h0])
        go_wp2
        go_roundw
        case rel => exact ⟨k + 1, by omega, by go_num, HR.out, (by repeat' (with_reducible first | exact Later.refl _ | assumption | refine Later.drew ?_ | refine Later.drewN ?_ _ | refine Later.alloc ?_ _ | refine Later.put ?_ (by omega) _ | refine Later.trans ?_ (by assumption)))⟩
        case measure => simp [intOf]; omega
    · have Hl := Lib.hid (show lotsBad lots = false by rw [He.out, List.drop_eq_nil_of_le (by omega)]; rfl)
      have hb0 := hb
      clear He hk hb
      go_wp2
      clear hlt
      go_loopw [6, 7] (fun sv iv wr => ∃ (k : Nat) (s : Int), k ≤ plies.length ∧ iv = .int .i64 k ∧ sv = .int .i64 s ∧ 0 ≤ s ∧ s ≤ 40 ∧ pliesGo 0 plies = pliesGo s (plies.drop k) ∧ Later w wr) (fun _ iv _ => plies.length - (intOf iv).toNat)
      case atStart => exact ⟨0, 0, by omega, rfl, rfl, by omega, by omega, rfl, hb0⟩
      case round =>
        obtain ⟨k, s, hk, rfl, rfl, s0, s1, he, hb⟩ := hrel
        have He := Lib.hid he
        clear he
        by_cases hlt : k < plies.length
        · obtain ⟨b, o, rfl, e1⟩ := (hA.later hb).at_ hlt
          have hbz := World.block_lt_of_cell? _ _ e1
          have Hd := Lib.hid (drop_cons' plies k hlt)
          generalize plies[k] = n at *
          by_cases h0 : n < 0
          · have d0 : decide (n < 0) = true := by simpa using h0
            have HR := Lib.hid (wanted_bad Hl.out (show pliesGo 0 plies = 3 by rw [He.out, Hd.out, plies_hit (.inl h0)]))
            go_wp2
            go_ret
            exact ⟨ret_bool HR.out, (by repeat' (with_reducible first | exact Later.refl _ | assumption | refine Later.drew ?_ | refine Later.drewN ?_ _ | refine Later.alloc ?_ _ | refine Later.put ?_ (by omega) _ | refine Later.trans ?_ (by assumption)))⟩
          have d0 : decide (n < 0) = false := by simpa using h0
          by_cases h1 : 40 < n
          · have d1 : decide (40 < n) = true := by simpa using h1
            have HR := Lib.hid (wanted_bad Hl.out (show pliesGo 0 plies = 3 by rw [He.out, Hd.out, plies_hit (.inr (by omega))]))
            go_wp2
            go_ret
            exact ⟨ret_bool HR.out, (by repeat' (with_reducible first | exact Later.refl _ | assumption | refine Later.drew ?_ | refine Later.drewN ?_ _ | refine Later.alloc ?_ _ | refine Later.put ?_ (by omega) _ | refine Later.trans ?_ (by assumption)))⟩
          have d1 : decide (40 < n) = false := by simpa using h1
          by_cases h2 : 40 < s + n
          · have d2 : decide (40 < s + n) = true := by simpa using h2
            have HR := Lib.hid (wanted_bad Hl.out (show pliesGo 0 plies = 3 by rw [He.out, Hd.out, plies_hit (.inr (by omega))]))
            go_wp2
            go_ret
            exact ⟨ret_bool HR.out, (by repeat' (with_reducible first | exact Later.refl _ | assumption | refine Later.drew ?_ | refine Later.drewN ?_ _ | refine Later.alloc ?_ _ | refine Later.put ?_ (by omega) _ | refine Later.trans ?_ (by assumption)))⟩
          · have d2 : decide (40 < s + n) = false := by simpa using h2
            have HR := Lib.hid (show pliesGo 0 plies = pliesGo (s + n) (plies.drop (k + 1)) by rw [He.out, Hd.out, plies_miss (by omega)])
            go_wp2
            go_roundw
            case rel => exact ⟨k + 1, s + n, by omega, by go_num, by rfl, by omega, by omega, HR.out, (by repeat' (with_reducible first | exact Later.refl _ | assumption | refine Later.drew ?_ | refine Later.drewN ?_ _ | refine Later.alloc ?_ _ | refine Later.put ?_ (by omega) _ | refine Later.trans ?_ (by assumption)))⟩
            case measure => simp [intOf]; omega
        · have HR := Lib.hid (wanted_ok Hl.out (show pliesGo 0 plies = 0 by rw [He.out, List.drop_eq_nil_of_le (by omega)]; rfl))
          go_wp2
          go_ret
          exact ⟨ret_bool HR.out, (by repeat' (with_reducible first | exact Later.refl _ | assumption | refine Later.drew ?_ | refine Later.drewN ?_ _ | refine Later.alloc ?_ _ | refine Later.put ?_ (by omega) _ | refine Later.trans ?_ (by assumption)))⟩

/- The table of a lot, as remnants. -/
def tailQ (rs : List Rl) (lot : Int) (l : List Int) : List Qd := l.map fun j => ⟨j, lot, 0, (grl rs j.toNat).ln⟩
def tblQ (rs : List Rl) (lot : Int) (l : List Int) (u : Int) : List Qd :=
  match l with
  | [] => []
  | i :: l => ⟨i, lot, u, (grl rs i.toNat).ln⟩ :: tailQ rs lot l
theorem tbl_zero (rs : List Rl) (lot : Int) (l : List Int) : tblQ rs lot l 0 = tailQ rs lot l := by cases l <;> rfl
/-- The table is of the rolls, and what is used is of the first one. -/
def TblOk (rs : List Rl) (l : List Int) (u : Int) : Prop := (∀ i ∈ l, 0 ≤ i ∧ i < (rs.length : Int)) ∧ 0 ≤ u ∧ u ≤ 1048576 ∧ ∀ i r, l = i :: r → u ≤ (grl rs i.toNat).ln
def RPlyPost (rs : List Rl) (lot : Int) (A0 : Option Addr) (l0 : List Int) (n0 : Nat) (R : Option (List Qd × List Qd)) (w : World) (e : Ending) (w' : World) : Prop :=
  Later w w' ∧ match R with
    | none => ∃ A n c u, e = .returned (.tuple #[.slice none 0 0, .agg #[.slice A n c, .int .i64 u], .bool false])
    | some x => ∃ P pc A c l u, e = .returned (.tuple #[.slice P x.1.length pc, .agg #[.slice A (List.length l) c, .int .i64 u], .bool true]) ∧ OwnR w' w.heap.size 50 4 qd4 (.slice P x.1.length pc) x.1 ∧ (∀ q ∈ x.1, QdB q) ∧
        (∀ W, Ints W A0 l0 → Ints W A l) ∧ l.length ≤ c ∧ c ≤ maxLen ∧ l.length ≤ n0 ∧ x.2 = tblQ rs lot l u ∧ TblOk rs l u

theorem rply_none {rs : List Rl} {lot : Int} {A0 : Option Addr} {l0 : List Int} {n0 : Nat} {R : Option (List Qd × List Qd)} {w w' : World} {e : Ending} (h : R = none) (hl : Later w w') (A : Option Addr) (n c : Nat) (u : Int) (he : e = .returned (.tuple #[.slice none 0 0, .agg #[.slice A n c, .int .i64 u], .bool false])) : RPlyPost rs lot A0 l0 n0 R w e w' := by
  subst h
  exact ⟨hl, A, n, c, u, he⟩
theorem rply_some {rs : List Rl} {lot : Int} {A0 : Option Addr} {l0 : List Int} {n0 : Nat} {R : Option (List Qd × List Qd)} {w w' : World} {e : Ending} {x : List Qd × List Qd} (h : R = some x) (hl : Later w w') (P : Option Addr) (pc : Nat) (A : Option Addr) (c : Nat) (l : List Int) (u : Int) (he : e = .returned (.tuple #[.slice P x.1.length pc, .agg #[.slice A (List.length l) c, .int .i64 u], .bool true]))
    (h1 : OwnR w' w.heap.size 50 4 qd4 (.slice P x.1.length pc) x.1) (h2 : ∀ q ∈ x.1, QdB q) (h3 : ∀ W, Ints W A0 l0 → Ints W A l) (h4 : l.length ≤ c ∧ c ≤ maxLen) (h5 : l.length ≤ n0) (h6 : x.2 = tblQ rs lot l u) (h7 : TblOk rs l u) : RPlyPost rs lot A0 l0 n0 R w e w' := by
  subst h
  exact ⟨hl, P, pc, A, c, l, u, he, h1, h2, h3, h4.1, h4.2, h5, h6, h7⟩
theorem tail_pos {rs : List Rl} {lot : Int} {i : Int} {l : List Int} {u : Int} : tblQ rs lot (i :: l) u = ⟨i, lot, u, (grl rs i.toNat).ln⟩ :: tblQ rs lot l 0 := by rw [tbl_zero]; rfl
def rowLen (w : World) (g : Nat) : Nat := sliceLen ((w.cell? ⟨g, 0, none⟩).getD (.int .i64 0))
theorem rowLen_eq {w : World} {g n c : Nat} {A : Option Addr} (h : w.cell? ⟨g, 0, none⟩ = some (.slice A n c)) : rowLen w g = n := by unfold rowLen; rw [h]; rfl
/-- The state of the reference's ply at the head of its loop. -/
structure RPM (w W1 wr : World) (g : Nat) (mk : Array Value) (l : List Int) (u : Int) (A : Option Addr) (c : Nat) (pv : Value) (acc : List Qd) : Prop where
  lat : Later w wr
  siz : W1.heap.size ≤ wr.heap.size
  own : OwnR wr W1.heap.size 50 4 qd4 pv acc
  mkr : Blk wr g 27 mk
  tbl : Blk wr (g + 1) 94 #[.slice A l.length c, .int .i64 u]
  res : Blk wr (g + 1 + 1) 94 #[.slice none 0 0, .int .i64 0]
theorem RPM.later {w W1 wr w' : World} {g : Nat} {mk : Array Value} {l : List Int} {u : Int} {A : Option Addr} {c : Nat} {pv : Value} {acc : List Qd} (h : RPM w W1 wr g mk l u A c pv acc) (k : Later wr w') : RPM w W1 w' g mk l u A c pv acc :=
  ⟨h.lat.trans k, Nat.le_trans h.siz k.size, h.own.later k, h.mkr.later k, h.tbl.later k, h.res.later k⟩
theorem RPM.grown {w W1 wr w' : World} {g : Nat} {mk : Array Value} {l : List Int} {u : Int} {A : Option Addr} {c : Nat} {pv pv' : Value} {acc acc' : List Qd} (h : RPM w W1 wr g mk l u A c pv acc) (hg : wr.grownBy w' pv.ownBlock) (hgs : g + 1 + 1 < W1.heap.size) (hw : w.heap.size ≤ g) (ho : OwnR w' W1.heap.size 50 4 qd4 pv' acc') :
    RPM w W1 w' g mk l u A c pv' acc' := by
  have hr : ∀ k, pv.ownBlock = some k → W1.heap.size ≤ k := fun k e => (World.ownsRow.lt h.own k e).1
  have hne : ∀ k, k ≤ g + 1 + 1 → some k ≠ pv.ownBlock := fun k hk e => by have := hr k e.symm; omega
  exact ⟨Later.grown h.lat hg (fun k e => by have := hr k e; omega), Nat.le_trans h.siz hg.size, ho, h.mkr.grown hg (hne _ (by omega)), h.tbl.grown hg (hne _ (by omega)), h.res.grown hg (hne _ (by omega))⟩
theorem RPM.next {w W1 wr : World} {g : Nat} {mk : Array Value} {l l' : List Int} {u : Int} {A A' : Option Addr} {c c' : Nat} {pv : Value} {acc : List Qd} (h : RPM w W1 wr g mk l u A c pv acc) (hgs : g + 1 + 1 < W1.heap.size) (hw : w.heap.size ≤ g) :
    RPM w W1 ((wr.setCell ⟨g + 1, 0, none⟩ (.slice A' l'.length c')).setCell ⟨g + 1, 1, none⟩ (.int .i64 0)) g mk l' 0 A' c' pv acc := by
  have hr : ∀ k, pv.ownBlock = some k → W1.heap.size ≤ k := fun k e => (World.ownsRow.lt h.own k e).1
  refine ⟨(h.lat.put (by omega) _).put (by omega) _, by rw [World.size_setCell, World.size_setCell]; exact h.siz, OwnR.ofBlk h.own (fun k e => ?_), (h.mkr.far (by omega) _).far (by omega) _, h.tbl.two, (h.res.far (by omega) _).far (by omega) _⟩
  have := hr k e
  rw [Below.heap_setCell _ ⟨g + 1, 1, none⟩ _ k (by simp only [ne_eq]; omega), Below.heap_setCell _ ⟨g + 1, 0, none⟩ _ k (by simp only [ne_eq]; omega)]
@[go_sem] theorem build_tbl1 (A : Option Addr) (n c : Nat) (w : World) : (Instr.build 94 #[(0, .slice A n c)]).run Try.prog w = .ok (.agg #[.slice A n c, .int .i64 0]) w := run_build w 94 _ _ (by kernel_rfl)
@[go_sem] theorem build_tbl2 (A : Option Addr) (n c : Nat) (u : Int) (w : World) : (Instr.build 94 #[(0, .slice A n c), (1, .int .i64 u)]).run Try.prog w = .ok (.agg #[.slice A n c, .int .i64 u]) w := run_build w 94 _ _ (by kernel_rfl)
@[go_sem] theorem build_part4 (a b c d : Int) (w : World) : (Instr.build 50 #[(0, .int .i64 a), (1, .int .i64 b), (2, .int .i64 c), (3, .int .i64 d)]).run Try.prog w = .ok (.agg #[.int .i64 a, .int .i64 b, .int .i64 c, .int .i64 d]) w := run_build w 50 _ _ (by kernel_rfl)
theorem Ints.tail {w : World} {b o c : Nat} {i : Int} {l : List Int} (h : Ints w (some ⟨b, o, none⟩) (i :: l)) (hc : l.length + 1 ≤ c) : Ints w (if c = 1 then some ⟨b, o, none⟩ else some ⟨b, o + 1, none⟩) l := by
  intro hn
  rw [if_neg (by omega)]
  obtain ⟨b', o', e, hx⟩ := h (by simp)
  cases e
  exact ⟨b, o + 1, rfl, fun j x hj => by
    have := hx (j + 1) x (by simpa using hj)
    rw [show o + (j + 1) = o + 1 + j by omega] at this
    exact this⟩

set_option maxHeartbeats 8000000 in
set_option maxRecDepth 100000 in
theorem ref38_ply (lot : Int) (Q C A S1 S2 : Option Addr) (qc cc ac n1 c1 n2 c2 : Nat) (len wd rx ry u0 : Int) (polys : List (List Pt)) (rs : List Rl) (l0 : List Int) (w : World)
    (hps : Polys w Q polys) (hpl : ∀ p ∈ polys, p.length ≤ 1099511627776) (hr : Rolls w C rs) (hrl : rs.length ≤ 20) (hln : ∀ r ∈ rs, 1 ≤ r.ln ∧ r.ln ≤ 1048576) (hlen : 1 ≤ len ∧ len ≤ 1048576) (hA : Ints w A l0) (hc : l0.length ≤ ac ∧ ac ≤ maxLen) (hl20 : l0.length ≤ 20) (hok : TblOk rs l0 u0) :
    Calls Try.prog 41 #[.agg #[.int .i64 len, .int .i64 wd, .int .i64 rx, .int .i64 ry, .slice S1 n1 c1, .slice S2 n2 c2], .slice Q polys.length qc, .slice C rs.length cc, .agg #[.slice A l0.length ac, .int .i64 u0]] w
      (RPlyPost rs lot A l0 l0.length (layR len polys (tblQ rs lot l0 u0) 0) w) := by
  generalize hR : layR len polys (tblQ rs lot l0 u0) 0 = R
  have HR := Lib.hid hR
  clear hR
  have HBe := Lib.hid (fun lo hi W (hW : Later w W) => ref37_Best Q qc len lo hi polys W (hps.later hW) hpl)
  go_enter Try.func41, Try.ntmps41
  go_upto_region 3 with fail
  refine name_world (fun W1 hW1 => ?_)
  have hM1 : RPM w W1 W1 w.heap.size #[.int .i64 len, .int .i64 wd, .int .i64 rx, .int .i64 ry, .slice S1 n1 c1, .slice S2 n2 c2] l0 u0 A ac (.slice none 0 0) [] :=
    ⟨by rw [hW1]; exact (by repeat' (with_reducible first | exact Later.refl _ | assumption | refine Later.drew ?_ | refine Later.drewN ?_ _ | refine Later.alloc ?_ _ | refine Later.put ?_ (by omega) _ | refine Later.trans ?_ (by assumption))), Nat.le_refl _, World.ownsRow_nil _ _ _ _, by rw [hW1]; exact (by repeat' (with_reducible first | assumption | (refine Blk.newAt ?_; simp; done) | refine Blk.alloc ?_ _ | refine Blk.drew ?_ | refine Blk.drewN ?_ _ | refine Blk.later ?_ (by assumption))), by rw [hW1]; exact (by repeat' (with_reducible first | assumption | (refine Blk.newAt ?_; simp; done) | refine Blk.alloc ?_ _ | refine Blk.drew ?_ | refine Blk.drewN ?_ _ | refine Blk.later ?_ (by assumption))), by rw [hW1]; exact (by repeat' (with_reducible first | assumption | (refine Blk.newAt ?_; simp; done) | refine Blk.alloc ?_ _ | refine Blk.drew ?_ | refine Blk.drewN ?_ _ | refine Blk.later ?_ (by assumption)))⟩
  clear hW1
  have hgs : w.heap.size + 1 + 1 < W1.heap.size := hM1.res.lt
  have hgw : w.heap.size ≤ w.heap.size := Nat.le_refl _
  have Hn0 := Lib.hid (rfl : l0.length = l0.length)
  generalize hgg : w.heap.size = g at hM1 hgs ⊢
  have hgw' : w.heap.size ≤ g := by omega
  clear hgg hgw
  go_loopw [11, 12] (fun pv av wr => ∃ (l : List Int) (u at_ : Int) (acc : List Qd) (A' : Option Addr) (c' : Nat), av = .int .i64 at_ ∧ RPM w W1 wr g #[.int .i64 len, .int .i64 wd, .int .i64 rx, .int .i64 ry, .slice S1 n1 c1, .slice S2 n2 c2] l u A' c' pv acc ∧
      (∀ W, Ints W A l0 → Ints W A' l) ∧ l.length ≤ c' ∧ c' ≤ maxLen ∧ TblOk rs l u ∧ 0 ≤ at_ ∧ at_ < len ∧ acc.length + l.length ≤ l0.length ∧ (∀ q ∈ acc, QdB q) ∧ R = (layR len polys (tblQ rs lot l u) at_).map (fun x => (acc ++ x.1, x.2))) (fun _ _ wq => rowLen wq (g + 1))
  case atStart => exact ⟨l0, u0, 0, [], A, ac, rfl, hM1, (fun W h => h), hc.1, hc.2, hok, by omega, by omega, by simp, (fun q hq => by cases hq), by rw [← HR.out]; simp⟩
  case round =>
    clear hM1 hc hok HR
    obtain ⟨l, u, at_, acc, A', c', rfl, hM, hsf, hc1, hc2, hok, ha0, ha1, hal, haq, he⟩ := hrel
    have He := Lib.hid he
    have HM := Lib.hid hM
    have Haq := Lib.hid haq
    have Hok := Lib.hid hok
    clear he haq hok
    unfold maxLen at hc2
    cases l with
    | nil =>
      have HRv := Lib.hid (show R = none by rw [He.out]; rfl)
      have t0 : wr.cell? ⟨g + 1, 0, none⟩ = some (.slice A' 0 c') := hM.tbl.cell 0
      have t1 : wr.cell? ⟨g + 1, 1, none⟩ = some (.int .i64 u) := hM.tbl.cell 1
      have zt := hM.tbl.lt
      have r0 : wr.cell? ⟨g + 1 + 1, 0, none⟩ = some (.slice none 0 0) := hM.res.cell 0
      have r1 : wr.cell? ⟨g + 1 + 1, 1, none⟩ = some (.int .i64 0) := hM.res.cell 1
      have f0 := hM.res.frozen 0
      have f1 := hM.res.frozen 1
      have zr := hM.res.lt
      have hlat := hM.lat
      clear hM
      go_wp2
      go_region
      go_wp2
      refine bodyPost_ret (v := .tuple #[.slice none 0 0, .agg #[.slice A' 0 c', .int .i64 u], .bool false]) (by simp [results, Try.results41, go_sem, r0, r1]) rfl (rply_none HRv.out (by exact (by repeat' (first | exact Later.refl _ | assumption | refine Later.drew ?_ | refine Later.drewN ?_ _ | refine Later.alloc ?_ _ | refine Later.put ?_ (by omega) _ | refine Later.trans ?_ (by assumption)))) _ _ _ _ rfl)
    | cons i l =>
      obtain ⟨b, o, rfl, hx⟩ := (hsf _ hA) (by simp)
      have i0 := hM.lat.cell (hx 0 i rfl)
      rw [Nat.add_zero] at i0
      have zi := World.block_lt_of_cell? _ _ i0
      obtain ⟨hi0, hi1⟩ := Hok.out.1 i (List.mem_cons_self ..)
      obtain ⟨n, rfl⟩ : ∃ n : Nat, i = (n : Int) := ⟨i.toNat, by omega⟩
      have hn : n < rs.length := by omega
      obtain ⟨br, or_, rfl, _, _, z2, _⟩ := (hr.later hM.lat).at_ hn
      have zr := World.block_lt_of_cell? _ _ z2
      have hlb := hln _ (List.getElem_mem hn)
      have hu0 := Hok.out.2.1
      have hu1 := Hok.out.2.2.2 _ _ rfl
      have Htb := Lib.hid (show tblQ rs lot ((n : Int) :: l) u = ⟨(n : Int), lot, u, (rs[n]).ln⟩ :: tblQ rs lot l 0 by rw [tail_pos, Int.toNat_natCast, grl_eq hn])
      rw [Int.toNat_natCast, grl_eq hn] at hu1
      have Hok2 := Lib.hid (show TblOk rs l 0 from ⟨fun j hj => Hok.out.1 j (List.mem_cons_of_mem _ hj), by omega, by omega, fun j r e => by
        have hj := Hok.out.1 j (List.mem_cons_of_mem _ (by rw [e]; exact List.mem_cons_self ..))
        have hjn : j.toNat < rs.length := by omega
        rw [grl_eq hjn]
        have := hln _ (List.getElem_mem hjn)
        omega⟩)
      have Hfin := Lib.hid (lay_fin (len := len) (polys := polys) (r := ⟨(n : Int), lot, u, (rs[n]).ln⟩) (l := tblQ rs lot l 0) (at_ := at_))
      have Hcut := Lib.hid (lay_cut (len := len) (polys := polys) (r := ⟨(n : Int), lot, u, (rs[n]).ln⟩) (l := tblQ rs lot l 0) (at_ := at_))
      have Hskip := Lib.hid (lay_skip (len := len) (polys := polys) (r := ⟨(n : Int), lot, u, (rs[n]).ln⟩) (l := tblQ rs lot l 0) (at_ := at_))
      have Hlnn := Lib.hid (show (grl rs n).ln = (rs[n]).ln by rw [grl_eq hn])
      have Hsf := Lib.hid hsf
      have HAt := Lib.hid (fun W (h : Ints W A l0) => Ints.tail (b := b) (o := o) (hsf W h) hc1)
      clear hsf
      simp only [List.length_cons] at hc1 hal
      generalize (rs[n]).ln = ln at *
      simp only [] at Hfin Hcut Hskip
      have t0 : wr.cell? ⟨g + 1, 0, none⟩ = some (.slice (some ⟨b, o, none⟩) (l.length + 1) c') := hM.tbl.cell 0
      have t1 : wr.cell? ⟨g + 1, 1, none⟩ = some (.int .i64 u) := hM.tbl.cell 1
      have zt := hM.tbl.lt
      have m0 : wr.cell? ⟨g, 0, none⟩ = some (.int .i64 len) := hM.mkr.cell 0
      have zm := hM.mkr.lt
      have hn0 : (0 : Int) ≤ (n : Int) := by omega
      have hn1 : (n : Int) < (rs.length : Int) := by omega
      have v1 : IntKind.i64.wrap (ln - u) = ln - u := IntWalk.i64_in _ (by omega)
      have hpos0 : (0 : Int) < ((l.length + 1 : Nat) : Int) := by omega
      go_upto_region 5 with fail
      go_quiet (fail)
      go_upto_region 6 with fail
      refine name_world (fun W5 hW5 => ?_)
      have hl5 : Later wr W5 := by rw [hW5]; exact (by repeat' (with_reducible first | exact Later.refl _ | assumption | refine Later.drew ?_ | refine Later.drewN ?_ _ | refine Later.alloc ?_ _ | refine Later.put ?_ (by omega) _ | refine Later.trans ?_ (by assumption)))
      clear hW5
      have hM5 := hM.later hl5
      have HM5 := Lib.hid hM5
      clear t0 t1 zt m0 zm i0 zi z2 zr hM
      have t0 : W5.cell? ⟨g + 1, 0, none⟩ = some (.slice (some ⟨b, o, none⟩) (l.length + 1) c') := hM5.tbl.cell 0
      have t1 : W5.cell? ⟨g + 1, 1, none⟩ = some (.int .i64 u) := hM5.tbl.cell 1
      have zt := hM5.tbl.lt
      have m0 : W5.cell? ⟨g, 0, none⟩ = some (.int .i64 len) := hM5.mkr.cell 0
      have zm := hM5.mkr.lt
      clear hM5
      by_cases hfin : len - at_ ≤ ln - u
      · have dfin : decide (len - at_ ≤ ln - u) = true := by simpa using hfin
        have dfin' : decide (ln - u ≥ len - at_) = true := by simpa using hfin
        have v2 : IntKind.i64.wrap (u + len) = u + len := IntWalk.i64_in _ (by omega)
        have v3 : IntKind.i64.wrap (u + len - at_) = u + len - at_ := IntWalk.i64_in _ (by omega)
        have HS := Lib.hid (SrcAt.blk (Blk.new W5 50 #[.int .i64 (n : Int), .int .i64 u, .int .i64 (u + len - at_), .int .i64 at_]))
        have Heq := Lib.hid (show (⟨(n : Int), u, u + len - at_, at_⟩ : Qd) = ⟨(n : Int), u, u + (len - at_), at_⟩ by congr 1; omega)
        have HRv := Lib.hid (show R = some (acc ++ [⟨(n : Int), u, u + len - at_, at_⟩], ⟨(n : Int), lot, u + (len - at_), ln⟩ :: tblQ rs lot l 0) by rw [He.out, Htb.out, Hfin.out hfin, Heq.out]; rfl)
        go_upto_region 8 with (at_builtin; refine wpList_append_rec slt_part qd4_len qd4_one rfl (.tmp 39) (.tmp 52) rfl (base := W1.heap.size) (l := acc) rfl (OwnR.alloc HM5.out.own _) (A := some ⟨W5.heap.size, 0, none⟩) (c := 1) [⟨(n : Int), u, u + len - at_, at_⟩] rfl (by intro h; cases h) HS.out (by simp; omega) (by have := HM5.out.siz; simp; omega) ?_; intro A3 c3' w3 ho3 hg3)
        have hM3 := RPM.grown (HM5.out.later ((Later.refl W5).alloc (.cells #[.int .i64 (n : Int), .int .i64 u, .int .i64 (u + len - at_), .int .i64 at_] 50))) hg3 hgs hgw' ho3
        have Ho3 := Lib.hid ho3
        clear t0 t1 zt m0 zm hg3 ho3 v1
        have t0 : w3.cell? ⟨g + 1, 0, none⟩ = some (.slice (some ⟨b, o, none⟩) (l.length + 1) c') := hM3.tbl.cell 0
        have t1 : w3.cell? ⟨g + 1, 1, none⟩ = some (.int .i64 u) := hM3.tbl.cell 1
        have zt := hM3.tbl.lt
        have m0 : w3.cell? ⟨g, 0, none⟩ = some (.int .i64 len) := hM3.mkr.cell 0
        have zm := hM3.mkr.lt
        have r0 : w3.cell? ⟨g + 1 + 1, 0, none⟩ = some (.slice none 0 0) := hM3.res.cell 0
        have r1 : w3.cell? ⟨g + 1 + 1, 1, none⟩ = some (.int .i64 0) := hM3.res.cell 1
        have f0 := hM3.res.frozen 0
        have f1 := hM3.res.frozen 1
        have zr := hM3.res.lt
        have hlat := hM3.lat
        clear hM3
        go_region
        go_wp2
        refine bodyPost_ret (v := .tuple #[.slice A3 (acc.length + 1) c3', .agg #[.slice (some ⟨b, o, none⟩) (l.length + 1) c', .int .i64 (u + len - at_)], .bool true]) (by simp [results, Try.results41, go_sem, r0, r1]) rfl (rply_some HRv.out (by exact (by repeat' (first | exact Later.refl _ | assumption | refine Later.drew ?_ | refine Later.drewN ?_ _ | refine Later.alloc ?_ _ | refine Later.put ?_ (by omega) _ | refine Later.trans ?_ (by assumption)))) A3 c3' (some ⟨b, o, none⟩) c' ((n : Int) :: l) (u + len - at_) (by simp) (OwnR.base (b := W1.heap.size) (by exact (Ho3.out.past (by omega)).past (by omega)) (by omega)) (fun q hq => ?_) Hsf.out ⟨by simp; omega, by unfold maxLen; omega⟩ (by simp; omega) ?_ ?_)
        · rcases List.mem_append.1 hq with hq | hq
          · exact Haq.out q hq
          · rw [List.mem_singleton.1 hq]
            exact ⟨hn0, hu0, by show u < u + len - at_; omega, by show u + len - at_ ≤ 1048576; omega, ha0, by show at_ ≤ 1048576; omega⟩
        · rw [tail_pos, Int.toNat_natCast, Hlnn.out]
          have e : u + len - at_ = u + (len - at_) := by omega
          rw [e]
        · refine ⟨Hok.out.1, by omega, by omega, fun j r e => ?_⟩
          cases e
          rw [Int.toNat_natCast, Hlnn.out]
          omega
      · have dfin : decide (len - at_ ≤ ln - u) = false := by simpa using hfin
        have dfin' : decide (ln - u ≥ len - at_) = false := by simpa using hfin
        by_cases hpos : 0 < ln - u
        · have dpos : decide (0 < ln - u) = true := by simpa using hpos
          have HB2 := Lib.hid (HBe.out at_ (at_ + (ln - u)))
          have Hbz := Lib.hid (best_zero (len := len) (polys := polys) (lo := at_) (hi := at_ + (ln - u)))
          have Hcut2 := Lib.hid (Hcut.out hfin hpos)
          have Hskip2 := Lib.hid (Hskip.out hfin)
          clear Hcut Hskip Hfin HBe
          generalize BestR len polys at_ (at_ + (ln - u)) = BR at *
          obtain ⟨⟨zx, zy⟩, be⟩ := BR
          simp only [] at HB2 Hbz Hcut2 Hskip2
          have hlw5 := HM5.out.lat
          rcases Classical.em (be = 0) with h0 | h0
          · subst h0
            obtain ⟨_, _, _, _, z5, z6, z7⟩ := Hbz.out rfl
            have z8 := back_le (extentsR len polys).1 zy
            rw [← z6] at z8
            have Hct := Lib.hid (Hcut2.out rfl)
            clear z6 Hbz Hcut2 Hskip2
            go_upto_region 12 with (first | (go_at_call 61; (with_reducible refine (HB2.out _ hlw5).mono ?_); rintro e w4 ⟨rfl, hb4⟩))
            refine name_world (fun W6 hW6 => ?_)
            have hl6 : Later W5 W6 := by rw [hW6]; exact (by repeat' (with_reducible first | exact Later.refl _ | assumption | refine Later.drew ?_ | refine Later.drewN ?_ _ | refine Later.alloc ?_ _ | refine Later.put ?_ (by omega) _ | refine Later.trans ?_ (by assumption)))
            have D15 : Blk W6 w4.heap.size 115 #[.int .i64 zx, .int .i64 zy] := by rw [hW6]; exact (by repeat' (with_reducible first | assumption | (refine Blk.newAt ?_; simp; done) | refine Blk.alloc ?_ _ | refine Blk.drew ?_ | refine Blk.drewN ?_ _ | refine Blk.later ?_ (by assumption)))
            clear hW6
            generalize w4.heap.size = gz at *
            have hM6 := HM5.out.later hl6
            have HM6 := Lib.hid hM6
            clear t0 t1 zt m0 zm v1
            have t0 : W6.cell? ⟨g + 1, 0, none⟩ = some (.slice (some ⟨b, o, none⟩) (l.length + 1) c') := hM6.tbl.cell 0
            have t1 : W6.cell? ⟨g + 1, 1, none⟩ = some (.int .i64 u) := hM6.tbl.cell 1
            have zt := hM6.tbl.lt
            have m0 : W6.cell? ⟨g, 0, none⟩ = some (.int .i64 len) := hM6.mkr.cell 0
            have zm := hM6.mkr.lt
            have y0 : W6.cell? ⟨gz, 0, none⟩ = some (.int .i64 zx) := D15.cell 0
            have y1 : W6.cell? ⟨gz, 1, none⟩ = some (.int .i64 zy) := D15.cell 1
            have zy15 := D15.lt
            have HS := Lib.hid (SrcAt.blk (Blk.new W6 50 #[.int .i64 (n : Int), .int .i64 u, .int .i64 (u + zy - at_), .int .i64 at_]))
            have Heq := Lib.hid (show (⟨(n : Int), u, u + zy - at_, at_⟩ : Qd) = ⟨(n : Int), u, u + (zy - at_), at_⟩ by congr 1; omega)
            clear hM6
            go_upto_region 13 with (at_builtin; refine wpList_append_rec slt_part qd4_len qd4_one rfl (.tmp 80) (.tmp 93) rfl (base := W1.heap.size) (l := acc) rfl (OwnR.alloc HM6.out.own _) (A := some ⟨W6.heap.size, 0, none⟩) (c := 1) [⟨(n : Int), u, u + zy - at_, at_⟩] rfl (by intro h; cases h) HS.out (by simp; omega) (by have := HM6.out.siz; simp; omega) ?_; intro A3 c3' w3 ho3 hg3)
            have hM3 := RPM.grown (HM6.out.later ((Later.refl W6).alloc (.cells #[.int .i64 (n : Int), .int .i64 u, .int .i64 (u + zy - at_), .int .i64 at_] 50))) hg3 hgs hgw' ho3
            have D15' : Blk w3 gz 115 #[.int .i64 zx, .int .i64 zy] := blk_own (D15.alloc _) (OwnR.alloc HM6.out.own _) (by decide) hg3
            have HM3 := Lib.hid hM3
            clear t0 t1 zt m0 zm hg3 ho3 y0 y1 zy15
            have t0 : w3.cell? ⟨g + 1, 0, none⟩ = some (.slice (some ⟨b, o, none⟩) (l.length + 1) c') := hM3.tbl.cell 0
            have t1 : w3.cell? ⟨g + 1, 1, none⟩ = some (.int .i64 u) := hM3.tbl.cell 1
            have zt := hM3.tbl.lt
            have m0 : w3.cell? ⟨g, 0, none⟩ = some (.int .i64 len) := hM3.mkr.cell 0
            have zm := hM3.mkr.lt
            have y0 : w3.cell? ⟨gz, 0, none⟩ = some (.int .i64 zx) := D15'.cell 0
            have zy15 := D15'.lt
            have ft0 := hM3.tbl.frozen 0
            have ft1 := hM3.tbl.frozen 1
            clear hM3
            have HR2 := Lib.hid (show R = (layR len polys (tblQ rs lot l 0) zx).map (fun x => ((acc ++ [⟨(n : Int), u, u + zy - at_, at_⟩]) ++ x.1, x.2)) by
              rw [He.out, Htb.out, Hct.out, Option.map_map, Heq.out]
              congr 1
              funext x
              simp)
            have Hqb := Lib.hid (show ∀ q ∈ acc ++ [(⟨(n : Int), u, u + zy - at_, at_⟩ : Qd)], QdB q from fun q hq => by
              rcases List.mem_append.1 hq with hq | hq
              · exact Haq.out q hq
              · rw [List.mem_singleton.1 hq]
                exact ⟨hn0, hu0, by show u < u + zy - at_; omega, by show u + zy - at_ ≤ 1048576; omega, ha0, by show at_ ≤ 1048576; omega⟩)
            simp only [List.length_append, List.length_singleton] at HM3
            by_cases hcc : c' = 1
            · subst hcc
              obtain rfl : l = [] := List.eq_nil_of_length_eq_zero (by omega)
              simp only [List.length_nil, Nat.zero_add] at t0
              go_wp2
              go_roundw
              case rel => exact ⟨[], 0, zx, acc ++ [⟨(n : Int), u, u + zy - at_, at_⟩], some ⟨b, o, none⟩, 0, rfl, RPM.next (l' := []) (A' := some ⟨b, o, none⟩) (c' := 0) HM3.out hgs hgw', (fun W _ h => absurd h (by simp)), Nat.le_refl _, Nat.zero_le _, Hok2.out, by omega, by omega, (by simp; omega), Hqb.out, HR2.out⟩
              case measure =>
                rw [rowLen_eq (HM.out.tbl.cell 0)]
                refine Nat.lt_of_le_of_lt (Nat.le_of_eq (rowLen_eq ((RPM.next (l' := []) (A' := some ⟨b, o, none⟩) (c' := 0) HM3.out hgs hgw').tbl.cell 0))) ?_
                simp
            · have dcc : (c' == 1) = false := by simpa using hcc
              have HAt' := Lib.hid (show ∀ W, Ints W A l0 → Ints W (some ⟨b, o + 1, none⟩) l from fun W h => by have := HAt.out W h; rw [if_neg hcc] at this; exact this)
              go_wp2
              go_roundw
              case rel => exact ⟨l, 0, zx, acc ++ [⟨(n : Int), u, u + zy - at_, at_⟩], some ⟨b, o + 1, none⟩, c' - 1, rfl, RPM.next (l' := l) (A' := some ⟨b, o + 1, none⟩) (c' := c' - 1) HM3.out hgs hgw', HAt'.out, by omega, by unfold maxLen; omega, Hok2.out, by omega, by omega, (by simp; omega), Hqb.out, HR2.out⟩
              case measure =>
                rw [rowLen_eq (HM.out.tbl.cell 0)]
                refine Nat.lt_of_le_of_lt (Nat.le_of_eq (rowLen_eq ((RPM.next (l' := l) (A' := some ⟨b, o + 1, none⟩) (c' := c' - 1) HM3.out hgs hgw').tbl.cell 0))) ?_
                simp
          · have dbe : (be == 0) = false := by simpa using h0
            have HR2 := Lib.hid (show R = (layR len polys (tblQ rs lot l 0) at_).map (fun x => (acc ++ x.1, x.2)) by rw [He.out, Htb.out, Hskip2.out (fun h => h0 h.2)])
            go_upto_region 14 with (first | (go_at_call 61; (with_reducible refine (HB2.out _ hlw5).mono ?_); rintro e w4 ⟨rfl, hb4⟩))
            refine name_world (fun W6 hW6 => ?_)
            have hl6 : Later W5 W6 := by rw [hW6]; exact (by repeat' (with_reducible first | exact Later.refl _ | assumption | refine Later.drew ?_ | refine Later.drewN ?_ _ | refine Later.alloc ?_ _ | refine Later.put ?_ (by omega) _ | refine Later.trans ?_ (by assumption)))
            clear hW6
            have hM6 := HM5.out.later hl6
            have HM6 := Lib.hid hM6
            clear t0 t1 zt m0 zm v1
            have t0 : W6.cell? ⟨g + 1, 0, none⟩ = some (.slice (some ⟨b, o, none⟩) (l.length + 1) c') := hM6.tbl.cell 0
            have t1 : W6.cell? ⟨g + 1, 1, none⟩ = some (.int .i64 u) := hM6.tbl.cell 1
            have zt := hM6.tbl.lt
            have m0 : W6.cell? ⟨g, 0, none⟩ = some (.int .i64 len) := hM6.mkr.cell 0
            have zm := hM6.mkr.lt
            have ft0 := hM6.tbl.frozen 0
            have ft1 := hM6.tbl.frozen 1
            clear hM6
            by_cases hcc : c' = 1
            · subst hcc
              obtain rfl : l = [] := List.eq_nil_of_length_eq_zero (by omega)
              simp only [List.length_nil, Nat.zero_add] at t0
              go_wp2
              go_roundw
              case rel => exact ⟨[], 0, at_, acc, some ⟨b, o, none⟩, 0, rfl, RPM.next (l' := []) (A' := some ⟨b, o, none⟩) (c' := 0) HM6.out hgs hgw', (fun W _ h => absurd h (by simp)), Nat.le_refl _, Nat.zero_le _, Hok2.out, by omega, by omega, (by omega), Haq.out, HR2.out⟩
              case measure =>
                rw [rowLen_eq (HM.out.tbl.cell 0)]
                refine Nat.lt_of_le_of_lt (Nat.le_of_eq (rowLen_eq ((RPM.next (l' := []) (A' := some ⟨b, o, none⟩) (c' := 0) HM6.out hgs hgw').tbl.cell 0))) ?_
                simp
            · have dcc : (c' == 1) = false := by simpa using hcc
              have HAt' := Lib.hid (show ∀ W, Ints W A l0 → Ints W (some ⟨b, o + 1, none⟩) l from fun W h => by have := HAt.out W h; rw [if_neg hcc] at this; exact this)
              go_wp2
              go_roundw
              case rel => exact ⟨l, 0, at_, acc, some ⟨b, o + 1, none⟩, c' - 1, rfl, RPM.next (l' := l) (A' := some ⟨b, o + 1, none⟩) (c' := c' - 1) HM6.out hgs hgw', HAt'.out, by omega, by unfold maxLen; omega, Hok2.out, by omega, by omega, (by omega), Haq.out, HR2.out⟩
              case measure =>
                rw [rowLen_eq (HM.out.tbl.cell 0)]
                refine Nat.lt_of_le_of_lt (Nat.le_of_eq (rowLen_eq ((RPM.next (l' := l) (A' := some ⟨b, o + 1, none⟩) (c' := c' - 1) HM6.out hgs hgw').tbl.cell 0))) ?_
                simp
        · have dpos : decide (0 < ln - u) = false := by simpa using hpos
          have HR2 := Lib.hid (show R = (layR len polys (tblQ rs lot l 0) at_).map (fun x => (acc ++ x.1, x.2)) by rw [He.out, Htb.out, Hskip.out hfin (fun h => hpos h.1)])
          have hM5' := HM5.out
          have ft0 := hM5'.tbl.frozen 0
          have ft1 := hM5'.tbl.frozen 1
          clear hM5'
          by_cases hcc : c' = 1
          · subst hcc
            obtain rfl : l = [] := List.eq_nil_of_length_eq_zero (by omega)
            simp only [List.length_nil, Nat.zero_add] at t0
            go_wp2
            go_roundw
            case rel => exact ⟨[], 0, at_, acc, some ⟨b, o, none⟩, 0, rfl, RPM.next (l' := []) (A' := some ⟨b, o, none⟩) (c' := 0) HM5.out hgs hgw', (fun W _ h => absurd h (by simp)), Nat.le_refl _, Nat.zero_le _, Hok2.out, by omega, by omega, (by omega), Haq.out, HR2.out⟩
            case measure =>
              rw [rowLen_eq (HM.out.tbl.cell 0)]
              refine Nat.lt_of_le_of_lt (Nat.le_of_eq (rowLen_eq ((RPM.next (l' := []) (A' := some ⟨b, o, none⟩) (c' := 0) HM5.out hgs hgw').tbl.cell 0))) ?_
              simp
          · have dcc : (c' == 1) = false := by simpa using hcc
            have HAt' := Lib.hid (show ∀ W, Ints W A l0 → Ints W (some ⟨b, o + 1, none⟩) l from fun W h => by have := HAt.out W h; rw [if_neg hcc] at this; exact this)
            go_wp2
            go_roundw
            case rel => exact ⟨l, 0, at_, acc, some ⟨b, o + 1, none⟩, c' - 1, rfl, RPM.next (l' := l) (A' := some ⟨b, o + 1, none⟩) (c' := c' - 1) HM5.out hgs hgw', HAt'.out, by omega, by unfold maxLen; omega, Hok2.out, by omega, by omega, (by omega), Haq.out, HR2.out⟩
            case measure =>
              rw [rowLen_eq (HM.out.tbl.cell 0)]
              refine Nat.lt_of_le_of_lt (Nat.le_of_eq (rowLen_eq ((RPM.next (l' := l) (A' := some ⟨b, o + 1, none⟩) (c' := c' - 1) HM5.out hgs hgw').tbl.cell 0))) ?_
              simp

end Go.Proofs.Ytehfpjlcbhimkaa
