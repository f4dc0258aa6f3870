/-
 A case of layer 38, opened; garmentref38.Few and garmentlaw38.few.
-/
import Derived.Test.YtdhakoecjmaebaaGreatZOpen39
namespace Go.Proofs.YtdhakoecjmaebaaGreat
open Go.RowKit Go.WideShapes Go.ChangeShapes Go.ChangeAt
set_option linter.unusedSimpArgs false
set_option linter.unusedVariables false
def rolls38 : List Rl → Bool
 | [] => true
 | r :: l => if 6 < r.fl.length ∨ 40 < r.id.size then false else rolls38 l
def polys38 : List (List Pt) → Bool
 | [] => true
 | p :: l => if 12 < p.length then false else polys38 l
def big38 (n1 n2 nl : Nat) (ps : List (List Pt)) (rs : List Rl) (ys : List Py) : Prop := 6 < ps.length ∨ 6 < rs.length ∨ 8 < nl ∨ 41 < ys.length ∨ 7 < n1 ∨ 8 < n2
instance {n1 n2 nl : Nat} {ps : List (List Pt)} {rs : List Rl} {ys : List Py} : Decidable (big38 n1 n2 nl ps rs ys) := by unfold big38; infer_instance
def few38 (n1 n2 nl : Nat) (ps : List (List Pt)) (rs : List Rl) (ys : List Py) : Bool :=
 if big38 n1 n2 nl ps rs ys then false else if polys38 ps = false then false else if rolls38 rs = false then false else pliesB ys
theorem r38_no {p : Rl} {l : List Rl} (h : 6 < p.fl.length ∨ 40 < p.id.size) : rolls38 (p :: l) = false := by rw [rolls38, if_pos h]
theorem r38_go {p : Rl} {l : List Rl} (h : ¬ (6 < p.fl.length ∨ 40 < p.id.size)) : rolls38 (p :: l) = rolls38 l := by rw [rolls38, if_neg h]
theorem p38_no {p : List Pt} {l : List (List Pt)} (h : 12 < p.length) : polys38 (p :: l) = false := by rw [polys38, if_pos h]
theorem p38_go {p : List Pt} {l : List (List Pt)} (h : ¬ 12 < p.length) : polys38 (p :: l) = polys38 l := by rw [polys38, if_neg h]
section
variable {n1 n2 nl : Nat} {ps : List (List Pt)} {rs : List Rl} {ys : List Py}
theorem f38_polys (h : polys38 ps = false) : false = few38 n1 n2 nl ps rs ys := by unfold few38; simp [h]
theorem f38_rolls (h : rolls38 rs = false) : false = few38 n1 n2 nl ps rs ys := by unfold few38; simp [h]
theorem f38_plies (h : pliesB ys = false) : false = few38 n1 n2 nl ps rs ys := by unfold few38; simp [h]
theorem f38_yes (h : ¬ big38 n1 n2 nl ps rs ys) (h1 : polys38 ps = true) (h2 : rolls38 rs = true) (h3 : pliesB ys = true) : true = few38 n1 n2 nl ps rs ys := by
 unfold few38; rw [if_neg h, h1, h2, h3]; rfl
theorem p38_all : ∀ {ps : List (List Pt)}, polys38 ps = true → ∀ p ∈ ps, p.length ≤ 12 := by
 intro ps
 induction ps with
 | nil => intro _ p hp; cases hp
 | cons a l ih =>
  intro h p hp
  rw [polys38] at h
  split at h
  ·cases h
  ·rcases List.mem_cons.1 hp with rfl | hp
   ·omega
   ·exact ih h p hp
theorem f38_all (h : few38 n1 n2 nl ps rs ys = true) : ps.length ≤ 6 ∧ rs.length ≤ 6 ∧ nl ≤ 8 ∧ ys.length ≤ 41 ∧ n1 ≤ 7 ∧ n2 ≤ 8 ∧ ∀ p ∈ ps, p.length ≤ 12 := by
 unfold few38 at h
 split at h
 ·cases h
 ·rename_i h1
  split at h
  ·cases h
  ·rename_i h2
   unfold big38 at h1
   exact ⟨by omega, by omega, by omega, by omega, by omega, by omega, p38_all (by simpa using h2)⟩
end
set_option maxHeartbeats 4000000 in
set_option maxRecDepth 100000 in
theorem ref38_Few_no (P C Q S1 S2 L : Option Addr) (pc cc qc c1 c2 lc n1 n2 nl : Nat) (l0 l1 l2 l3 : Int) (ys : List Py) (rs : List Rl) (ps : List (List Pt)) (w : World) (hl : big38 n1 n2 nl ps rs ys) :
  Calls Tryz.prog 35 #[.agg #[.int .i64 l0, .int .i64 l1, .int .i64 l2, .int .i64 l3, .slice S1 n1 c1, .slice S2 n2 c2, .slice P ys.length pc], .slice Q ps.length qc, .slice C rs.length cc, .slice L nl lc] w (Ret (.bool false) w) := by
 unfold big38 at hl
 go_enter Tryz.func35, Tryz.ntmps35
 by_cases b1 : (6 : Int) < (ps.length : Int)
 ·have d1 : decide ((6 : Int) < (ps.length : Int)) = true := by rw [decide_eq_true_iff]; exact b1
  go_wp2
  go_ret
  exact ⟨rfl, (by repeat' (with_reducible first | exact .refl _ | assumption | refine .drew ?_ | refine .drewN ?_ _ | refine .alloc ?_ _ | refine .put ?_ (by omega) _ | refine .trans ?_ (by assumption)))⟩
 have d1 : decide ((6 : Int) < (ps.length : Int)) = false := by rw [decide_eq_false_iff_not]; exact b1
 by_cases b2 : (6 : Int) < (rs.length : Int)
 ·have d2 : decide ((6 : Int) < (rs.length : Int)) = true := by rw [decide_eq_true_iff]; exact b2
  go_wp2
  go_ret
  exact ⟨rfl, (by repeat' (with_reducible first | exact .refl _ | assumption | refine .drew ?_ | refine .drewN ?_ _ | refine .alloc ?_ _ | refine .put ?_ (by omega) _ | refine .trans ?_ (by assumption)))⟩
 have d2 : decide ((6 : Int) < (rs.length : Int)) = false := by rw [decide_eq_false_iff_not]; exact b2
 by_cases b3 : (8 : Int) < (nl : Int)
 ·have d3 : decide ((8 : Int) < (nl : Int)) = true := by rw [decide_eq_true_iff]; exact b3
  go_wp2
  go_ret
  exact ⟨rfl, (by repeat' (with_reducible first | exact .refl _ | assumption | refine .drew ?_ | refine .drewN ?_ _ | refine .alloc ?_ _ | refine .put ?_ (by omega) _ | refine .trans ?_ (by assumption)))⟩
 have d3 : decide ((8 : Int) < (nl : Int)) = false := by rw [decide_eq_false_iff_not]; exact b3
 by_cases b4 : (41 : Int) < (ys.length : Int)
 ·have d4 : decide ((41 : Int) < (ys.length : Int)) = true := by rw [decide_eq_true_iff]; exact b4
  go_wp2
  go_ret
  exact ⟨rfl, (by repeat' (with_reducible first | exact .refl _ | assumption | refine .drew ?_ | refine .drewN ?_ _ | refine .alloc ?_ _ | refine .put ?_ (by omega) _ | refine .trans ?_ (by assumption)))⟩
 have d4 : decide ((41 : Int) < (ys.length : Int)) = false := by rw [decide_eq_false_iff_not]; exact b4
 by_cases b5 : (7 : Int) < (n1 : Int)
 ·have d5 : decide ((7 : Int) < (n1 : Int)) = true := by rw [decide_eq_true_iff]; exact b5
  go_wp2
  go_ret
  exact ⟨rfl, (by repeat' (with_reducible first | exact .refl _ | assumption | refine .drew ?_ | refine .drewN ?_ _ | refine .alloc ?_ _ | refine .put ?_ (by omega) _ | refine .trans ?_ (by assumption)))⟩
 have d5 : decide ((7 : Int) < (n1 : Int)) = false := by rw [decide_eq_false_iff_not]; exact b5
 have b6 : (8 : Int) < (n2 : Int) := by omega
 have d6 : decide ((8 : Int) < (n2 : Int)) = true := by rw [decide_eq_true_iff]; exact b6
 go_wp2
 go_ret
 exact ⟨rfl, (by repeat' (with_reducible first | exact .refl _ | assumption | refine .drew ?_ | refine .drewN ?_ _ | refine .alloc ?_ _ | refine .put ?_ (by omega) _ | refine .trans ?_ (by assumption)))⟩
set_option maxHeartbeats 4000000 in
set_option maxRecDepth 100000 in
theorem ref38_Few_in (P C Q S1 S2 L : Option Addr) (pc cc qc c1 c2 lc n1 n2 nl : Nat) (l0 l1 l2 l3 : Int) (ys : List Py) (rs : List Rl) (ps : List (List Pt)) (w : World) (hl : ¬ big38 n1 n2 nl ps rs ys) (hy : Plys w P ys) (hr : Rolls w C rs) (hp : Polys w Q ps) :
  Calls Tryz.prog 35 #[.agg #[.int .i64 l0, .int .i64 l1, .int .i64 l2, .int .i64 l3, .slice S1 n1 c1, .slice S2 n2 c2, .slice P ys.length pc], .slice Q ps.length qc, .slice C rs.length cc, .slice L nl lc] w (Ret (.bool (few38 n1 n2 nl ps rs ys)) w) := by
 have hl0 := hl
 unfold big38 at hl
 have Hl := Lib.hid hl0
 have d1 : decide ((6 : Int) < (ps.length : Int)) = false := by simp; omega
 have d2 : decide ((6 : Int) < (rs.length : Int)) = false := by simp; omega
 have d3 : decide ((8 : Int) < (nl : Int)) = false := by simp; omega
 have d4 : decide ((41 : Int) < (ys.length : Int)) = false := by simp; omega
 have d5 : decide ((7 : Int) < (n1 : Int)) = false := by simp; omega
 have d6 : decide ((8 : Int) < (n2 : Int)) = false := by simp; omega
 have q1 : ys.length ≤ 41 := by omega
 have q2 : rs.length ≤ 6 := by omega
 have q3 : ps.length ≤ 6 := by omega
 go_enter Tryz.func35, Tryz.ntmps35
 go_wp2
 refine name_world (fun W hW => ?_)
 have hlW : Later w W := by rw [hW]; exact (by repeat' (with_reducible first | exact .refl _ | assumption | refine .drew ?_ | refine .drewN ?_ _ | refine .alloc ?_ _ | refine .put ?_ (by omega) _ | refine .trans ?_ (by assumption)))
 have D4 : Blk W w.heap.size 70 #[.int .i64 l0, .int .i64 l1, .int .i64 l2, .int .i64 l3, .slice S1 n1 c1, .slice S2 n2 c2, .slice P ys.length pc] := by rw [hW]; exact (by repeat' (with_reducible first | assumption | (refine Blk.newAt ?_; simp; done) | refine Blk.alloc ?_ _ | refine Blk.drew ?_ | refine Blk.drewN ?_ _ | refine Blk.later ?_ (by assumption)))
 clear hW d1 d2 d3 d4 d5 d6 hl hl0
 have k6 : W.cell? ⟨w.heap.size, 6, none⟩ = some (.slice P ys.length pc) := D4.cell 6
 have z4 := D4.lt
 have hy := hy.later hlW
 have hr := hr.later hlW
 have hp := hp.later hlW
 go_loop [8, 9] (fun _ iv => ∃ k : Nat, k ≤ ps.length ∧ iv = .int .i64 k ∧ polys38 ps = polys38 (ps.drop k)) (fun _ iv => ps.length - (intOf iv).toNat)
 case atStart => exact ⟨0, by omega, rfl, rfl⟩
 case round =>
  obtain ⟨k, hk, rfl, he⟩ := hrel
  have He := Lib.hid he
  clear he
  by_cases hlt : k < ps.length
  ·obtain ⟨bb, ob, A', c', rfl, e1, e2, e3⟩ := hp.at_ hlt
   have Hd := Lib.hid (drop_cons' ps k hlt)
   generalize ps[k] = y at *
   by_cases h10 : 12 < y.length
   ·go_wp2
    go_ret
    exact ⟨ret_bool (f38_polys (by rw [He.out, Hd.out]; exact p38_no h10)), hlW⟩
   ·go_wp2
    go_round
    case rel => exact ⟨k + 1, by omega, by go_num, by rw [He.out, Hd.out]; exact p38_go h10⟩
    case measure => simp [intOf]; omega
  ·have Hq := Lib.hid (show polys38 ps = true by rw [He.out, List.drop_eq_nil_of_le (by omega)]; rfl)
   go_wp2
   clear He hk hlt
   go_loop [8, 10] (fun _ iv => ∃ k : Nat, k ≤ rs.length ∧ iv = .int .i64 k ∧ rolls38 rs = rolls38 (rs.drop k)) (fun _ iv => rs.length - (intOf iv).toNat)
   case atStart => exact ⟨0, by omega, rfl, rfl⟩
   case round =>
    obtain ⟨k, hk, rfl, he⟩ := hrel
    have He := Lib.hid he
    clear he
    by_cases hlt : k < rs.length
    ·obtain ⟨bb, ob, rfl, e1, e2, e3, e4, e5, e6, e7, hok⟩ := hr.at_ hlt
     have Hd := Lib.hid (drop_cons' rs k hlt)
     generalize rs[k] = y at *
     obtain ⟨rid, rwd, rln, rtl, rta, rtb, fa, fc, fl⟩ := y
     simp only [] at e1 e7
     by_cases h6 : 6 < fl.length
     ·have d6 : decide ((6 : Int) < (fl.length : Int)) = true := by simp; omega
      go_wp2
      go_ret
      exact ⟨ret_bool (f38_rolls (by rw [He.out, Hd.out]; exact r38_no (.inl h6))), hlW⟩
     ·have d6 : decide ((6 : Int) < (fl.length : Int)) = false := by simp; omega
      by_cases h50 : 40 < rid.size
      ·have d50 : decide ((40 : Int) < (rid.size : Int)) = true := by simp; omega
       go_wp2
       go_ret
       exact ⟨ret_bool (f38_rolls (by rw [He.out, Hd.out]; exact r38_no (.inr h50))), hlW⟩
      ·have d50 : decide ((40 : Int) < (rid.size : Int)) = false := by simp; omega
       go_wp2
       go_round
       case rel => exact ⟨k + 1, by omega, by go_num, by rw [He.out, Hd.out]; exact r38_go (by simp only []; omega)⟩
       case measure => simp [intOf]; omega
    ·have Hr := Lib.hid (show rolls38 rs = true by rw [He.out, List.drop_eq_nil_of_le (by omega)]; rfl)
     go_wp2
     clear He hk hlt
     go_loop [8, 11] (fun _ iv => ∃ k : Nat, k ≤ ys.length ∧ iv = .int .i64 k ∧ pliesB ys = pliesB (ys.drop k)) (fun _ iv => ys.length - (intOf iv).toNat)
     case atStart => exact ⟨0, by omega, rfl, rfl⟩
     case round =>
      obtain ⟨k, hk, rfl, he⟩ := hrel
      have He := Lib.hid he
      clear he
      by_cases hlt : k < ys.length
      ·obtain ⟨bb, ob, rfl, e1, e2, hok⟩ := hy.at_ hlt
       have Hd := Lib.hid (drop_cons' ys k hlt)
       generalize ys[k] = y at *
       obtain ⟨lot, pa, pc', parts⟩ := y
       simp only [] at e1 e2
       by_cases h6 : 6 < parts.length
       ·go_wp2
        go_ret
        exact ⟨ret_bool (f38_plies (by rw [He.out, Hd.out]; exact plies_no h6)), hlW⟩
       ·go_wp2
        go_round
        case rel => exact ⟨k + 1, by omega, by go_num, by rw [He.out, Hd.out]; exact plies_go h6⟩
        case measure => simp [intOf]; omega
      ·have Hp := Lib.hid (show pliesB ys = true by rw [He.out, List.drop_eq_nil_of_le (by omega)]; rfl)
       go_wp2
       clear He hk hlt
       go_ret
       exact ⟨ret_bool (f38_yes Hl.out Hq.out Hr.out Hp.out), hlW⟩
structure C8 where
 len : Int
 wd : Int
 rx : Int
 ry : Int
 s1 : Option Addr
 c1 : Nat
 sz : List Int
 s2 : Option Addr
 c2 : Nat
 pl : List Pc
 qa : Option Addr
 qc : Nat
 ps : List (List Pt)
 ra : Option Addr
 rc : Nat
 rs : List Rl
 la : Option Addr
 lc : Nat
 lots : List Int
 aa : Option Addr
 ac : Nat
 plies : List Int
def C8.cells (c : C8) : List Value := [.int .i64 c.len, .int .i64 c.wd, .int .i64 c.rx, .int .i64 c.ry, .slice c.s1 c.sz.length c.c1, .slice c.s2 c.pl.length c.c2, .slice c.qa c.ps.length c.qc, .slice c.ra c.rs.length c.rc, .slice c.la c.lots.length c.lc, .slice c.aa c.plies.length c.ac]
def C8.agg (c : C8) : Value := .agg #[.int .i64 c.len, .int .i64 c.wd, .int .i64 c.rx, .int .i64 c.ry, .slice c.s1 c.sz.length c.c1, .slice c.s2 c.pl.length c.c2, .slice c.qa c.ps.length c.qc, .slice c.ra c.rs.length c.rc, .slice c.la c.lots.length c.lc, .slice c.aa c.plies.length c.ac]
structure C8Ok (w : World) (c : C8) : Prop where
 sz : Ints w c.s1 c.sz
 pl : Pcs w c.s2 c.pl
 ps : Polys w c.qa c.ps
 rs : Rolls w c.ra c.rs
 lots : Ints w c.la c.lots
 plies : Ints w c.aa c.plies
 szc : c.sz.length ≤ c.c1 ∧ c.c1 ≤ maxLen
 plc : c.pl.length ≤ c.c2 ∧ c.c2 ≤ maxLen
 psc : c.ps.length ≤ c.qc ∧ c.qc ≤ maxLen
 rsc : c.rs.length ≤ c.rc ∧ c.rc ≤ maxLen
 ltc : c.lots.length ≤ c.lc ∧ c.lc ≤ maxLen
 aac : c.plies.length ≤ c.ac ∧ c.ac ≤ maxLen
 i1 : I64 c.len
 i2 : I64 c.wd
 i3 : I64 c.rx
 i4 : I64 c.ry
 il : ∀ n ∈ c.lots, I64 n
 ia : ∀ n ∈ c.plies, I64 n
theorem C8Ok.later {w w' : World} {c : C8} (h : C8Ok w c) (k : Later w w') : C8Ok w' c :=
 ⟨h.sz.later k, h.pl.later k, h.ps.later k, h.rs.later k, h.lots.later k, h.plies.later k, h.szc, h.plc, h.psc, h.rsc, h.ltc, h.aac, h.i1, h.i2, h.i3, h.i4, h.il, h.ia⟩
section
variable {H : Type} {enc : TypeId × Value → H} {w : World} {base : Nat} {spare : Nat → Bool} {held : Bool} {n : Nat} {cs : List Value} {x : DataW H × List MemPlace}
theorem cells_bool8 : Tryz.prog.cellsOf 4 = 1 := by kernel_rfl
theorem turn8_of_trod (h : DataW.trod enc Tryz.prog w base spare held n 42 cs = some x) : ∃ f q, cs = [.bool f, .int .i64 q] ∧ I64 q := by
 obtain ⟨hl, hf⟩ := open_field Tryz.underlying42 h
 have hF : Flds enc w base spare held _ cs := hf
 rw [show Tryz.prog.cellsOf 42 = 2 by kernel_rfl] at hl
 obtain ⟨a, ha⟩ := hF.bool 0 0 4 rfl rfl rfl cells_bool8 Tryz.underlying4
 obtain ⟨b, hb, ib⟩ := hF.int 1 1 3 rfl rfl rfl cells_int Tryz.underlying3
 exact ⟨a, b, list2 hl ha hb, ib⟩
theorem rep8_of_trod (h : DataW.trod enc Tryz.prog w base spare held n 23 cs = some x) : ∃ a b, cs = [.int .i64 a, .int .i64 b] ∧ I64 a ∧ I64 b := by
 obtain ⟨hl, hf⟩ := open_field Tryz.underlying23 h
 have hF : Flds enc w base spare held _ cs := hf
 rw [show Tryz.prog.cellsOf 23 = 2 by kernel_rfl] at hl
 obtain ⟨a, ha, ia⟩ := hF.int 0 0 3 rfl rfl rfl cells_int Tryz.underlying3
 obtain ⟨b, hb, ib⟩ := hF.int 1 1 3 rfl rfl rfl cells_int Tryz.underlying3
 exact ⟨a, b, list2 hl ha hb, ia, ib⟩
theorem list6' {l : List Value} {a b c d e f : Value} (h : l.length = 6) (h0 : l[0]? = some a) (h1 : l[1]? = some b) (h2 : l[2]? = some c) (h3 : l[3]? = some d) (h4 : l[4]? = some e) (h5 : l[5]? = some f) : l = [a, b, c, d, e, f] := by
 match l, h with
 | [_, _, _, _, _, _], _ => cases h0; cases h1; cases h2; cases h3; cases h4; cases h5; rfl
theorem list10 {l : List Value} {a b c d e f g i j k : Value} (h : l.length = 10) (h0 : l[0]? = some a) (h1 : l[1]? = some b) (h2 : l[2]? = some c) (h3 : l[3]? = some d) (h4 : l[4]? = some e) (h5 : l[5]? = some f) (h6 : l[6]? = some g) (h7 : l[7]? = some i) (h8 : l[8]? = some j) (h9 : l[9]? = some k) : l = [a, b, c, d, e, f, g, i, j, k] := by
 match l, h with
 | [_, _, _, _, _, _, _, _, _, _], _ => cases h0; cases h1; cases h2; cases h3; cases h4; cases h5; cases h6; cases h7; cases h8; cases h9; rfl
theorem place_of_trod (h : DataW.trod enc Tryz.prog w base spare held n 280 cs = some x) : ∃ p : Pc, cs = p.cells := by
 obtain ⟨hl, hf⟩ := open_field Tryz.underlying280 h
 have hF : Flds enc w base spare held _ cs := hf
 rw [show Tryz.prog.cellsOf 280 = 7 by kernel_rfl] at hl
 obtain ⟨a, ha, ia⟩ := hF.int 0 0 3 rfl rfl rfl cells_int Tryz.underlying3
 obtain ⟨b, hb, ib⟩ := hF.int 1 1 3 rfl rfl rfl cells_int Tryz.underlying3
 obtain ⟨c, hc, ic⟩ := hF.int 2 2 3 rfl rfl rfl cells_int Tryz.underlying3
 obtain ⟨m, y, hm⟩ := hF.sub 3 3 2 42 rfl rfl rfl (by kernel_rfl)
 obtain ⟨f, q, e, iq⟩ := turn8_of_trod hm
 obtain ⟨m', y', hm'⟩ := hF.sub 4 5 2 29 rfl rfl rfl (by kernel_rfl)
 obtain ⟨p, e', ix, iy⟩ := spot_of_trod hm'
 exact ⟨⟨a, b, c, f, q, p.x, p.y⟩, list7 hl ha hb hc (takeK (j := 0) e (by omega) rfl) (takeK (j := 1) e (by omega) rfl) (takeK (j := 0) e' (by omega) rfl) (takeK (j := 1) e' (by omega) rfl)⟩
theorem places_of_trod (h : DataW.trod enc Tryz.prog w base spare held n 60 cs = some x) : ∃ A c, ∃ l : List Pc, cs = [.slice A l.length c] ∧ l.length ≤ c ∧ c ≤ maxLen ∧ Pcs w A l := by
 obtain ⟨v, l, rfl, hs⟩ := open_rows Tryz.underlying60 (sz := 7) (R := fun cs (r : Pc) => cs = r.cells ∧ True) (by kernel_rfl) (by omega) (fun n cs x h => let ⟨p, hp⟩ := place_of_trod h; ⟨p, hp, trivial⟩) h
 obtain ⟨A, c, rfl, h1, h2, h3⟩ := list_of_rows (ok := fun _ _ => True) hs
 exact ⟨A, c, l, rfl, h1, h2, h3⟩
theorem ints8_of_trod (h : DataW.trod enc Tryz.prog w base spare held n 32 cs = some x) : ∃ A c, ∃ l : List Int, cs = [.slice A l.length c] ∧ l.length ≤ c ∧ c ≤ maxLen ∧ Ints w A l ∧ ∀ n ∈ l, I64 n := by
 obtain ⟨v, l, rfl, hs⟩ := open_rows Tryz.underlying32 (sz := 1) (R := fun cs (n : Int) => cs = i1 n ∧ I64 n) (by kernel_rfl) (by omega) (fun n cs x h => int_of_trod Tryz.underlying3 h) h
 obtain ⟨A, c, rfl, h1, h2, h3⟩ := list_of_rows (ok := fun _ n => I64 n) hs
 refine ⟨A, c, l, rfl, h1, h2, fun hn => ?_, fun n hn => ?_⟩
 ·obtain ⟨b, o, e, hx⟩ := h3 hn
  refine ⟨b, o, e, fun i n hi => ?_⟩
  have := (hx i n hi).1 0 _ rfl
  rw [Nat.mul_one, Nat.add_zero] at this
  exact this
 ·obtain ⟨k, hk, rfl⟩ := List.getElem_of_mem hn
  obtain ⟨b, o, e, hx⟩ := h3 (by omega)
  exact (hx k _ (List.getElem?_eq_getElem hk)).2
theorem marker8_of_trod (h : DataW.trod enc Tryz.prog w base spare held n 62 cs = some x) :
  ∃ l w' rx ry s1 c1, ∃ sz : List Int, ∃ s2 c2, ∃ pl : List Pc, cs = [.int .i64 l, .int .i64 w', .int .i64 rx, .int .i64 ry, .slice s1 sz.length c1, .slice s2 pl.length c2] ∧ I64 l ∧ I64 w' ∧ I64 rx ∧ I64 ry ∧ Ints w s1 sz ∧ (sz.length ≤ c1 ∧ c1 ≤ maxLen) ∧ Pcs w s2 pl ∧ (pl.length ≤ c2 ∧ c2 ≤ maxLen) := by
 obtain ⟨hl, hf⟩ := open_field Tryz.underlying62 h
 have hF : Flds enc w base spare held _ cs := hf
 rw [show Tryz.prog.cellsOf 62 = 6 by kernel_rfl] at hl
 obtain ⟨a, ha, ia⟩ := hF.int 0 0 3 rfl rfl rfl cells_int Tryz.underlying3
 obtain ⟨b, hb, ib⟩ := hF.int 1 1 3 rfl rfl rfl cells_int Tryz.underlying3
 obtain ⟨m, y, hm⟩ := hF.sub 2 2 2 23 rfl rfl rfl (by kernel_rfl)
 obtain ⟨rx, ry, er, ix, iy⟩ := rep8_of_trod hm
 obtain ⟨m1, y1, hm1⟩ := hF.sub 3 4 1 32 rfl rfl rfl (by kernel_rfl)
 obtain ⟨s1, c1, sz, e1, h1, h2, h3, _⟩ := ints8_of_trod hm1
 obtain ⟨m2, y2, hm2⟩ := hF.sub 4 5 1 60 rfl rfl rfl (by kernel_rfl)
 obtain ⟨s2, c2, pl, e2, g1, g2, g3⟩ := places_of_trod hm2
 exact ⟨a, b, rx, ry, s1, c1, sz, s2, c2, pl, list6' hl ha hb (takeK (j := 0) er (by omega) rfl) (takeK (j := 1) er (by omega) rfl) (take1 e1) (take1 e2), ia, ib, ix, iy, h3, ⟨h1, h2⟩, g3, ⟨g1, g2⟩⟩
theorem case8_of_trod (h : DataW.trod enc Tryz.prog w base spare held n 66 cs = some x) : ∃ c : C8, cs = c.cells ∧ C8Ok w c := by
 obtain ⟨hl, hf⟩ := open_field Tryz.underlying66 h
 have hF : Flds enc w base spare held _ cs := hf
 rw [show Tryz.prog.cellsOf 66 = 10 by kernel_rfl] at hl
 obtain ⟨m, y, hm⟩ := hF.sub 0 0 6 62 rfl rfl rfl (by kernel_rfl)
 obtain ⟨l, w', rx, ry, s1, c1, sz, s2, c2, pl, em, i1, i2, i3, i4, j1, j2, j3, j4⟩ := marker8_of_trod hm
 obtain ⟨m1, y1, hm1⟩ := hF.sub 1 6 1 63 rfl rfl rfl (by kernel_rfl)
 obtain ⟨qa, qc, ps, e1, p1, p2, p3, _⟩ := polys_of_trod hm1
 obtain ⟨m2, y2, hm2⟩ := hF.sub 2 7 1 64 rfl rfl rfl (by kernel_rfl)
 obtain ⟨ra, rc, rs, e2, r1, r2, r3⟩ := rolls_of_trod hm2
 obtain ⟨m3, y3, hm3⟩ := hF.sub 3 8 1 32 rfl rfl rfl (by kernel_rfl)
 obtain ⟨la, lc, lots, e3, l1, l2, l3, l4⟩ := ints8_of_trod hm3
 obtain ⟨m4, y4, hm4⟩ := hF.sub 4 9 1 32 rfl rfl rfl (by kernel_rfl)
 obtain ⟨aa, ac, plies, e4, a1, a2, a3, a4⟩ := ints8_of_trod hm4
 exact ⟨⟨l, w', rx, ry, s1, c1, sz, s2, c2, pl, qa, qc, ps, ra, rc, rs, la, lc, lots, aa, ac, plies⟩, list10 hl (takeK (j := 0) em (by omega) rfl) (takeK (j := 1) em (by omega) rfl) (takeK (j := 2) em (by omega) rfl) (takeK (j := 3) em (by omega) rfl) (takeK (j := 4) em (by omega) rfl) (takeK (j := 5) em (by omega) rfl) (take1 e1) (take1 e2) (take1 e3) (take1 e4),
  ⟨j1, j3, p3, r3, l3, a3, j2, j4, ⟨p1, p2⟩, ⟨r1, r2⟩, ⟨l1, l2⟩, ⟨a1, a2⟩, i1, i2, i3, i4, l4, a4⟩⟩
end
def few8 (c : C8) : Bool := decide ((c.plies.length : Int) ≤ 6) && few38 c.sz.length c.pl.length c.lots.length c.ps c.rs []
theorem ref38_Few (P C Q S1 S2 L : Option Addr) (pc cc qc c1 c2 lc n1 n2 nl : Nat) (l0 l1 l2 l3 : Int) (ys : List Py) (rs : List Rl) (ps : List (List Pt)) (w : World) (hy : Plys w P ys) (hr : Rolls w C rs) (hp : Polys w Q ps) :
  Calls Tryz.prog 35 #[.agg #[.int .i64 l0, .int .i64 l1, .int .i64 l2, .int .i64 l3, .slice S1 n1 c1, .slice S2 n2 c2, .slice P ys.length pc], .slice Q ps.length qc, .slice C rs.length cc, .slice L nl lc] w (Ret (.bool (few38 n1 n2 nl ps rs ys)) w) := by
 by_cases hl : big38 n1 n2 nl ps rs ys
 ·have : few38 n1 n2 nl ps rs ys = false := by unfold few38; rw [if_pos hl]
  rw [this]
  exact ref38_Few_no P C Q S1 S2 L pc cc qc c1 c2 lc n1 n2 nl l0 l1 l2 l3 ys rs ps w hl
 ·exact ref38_Few_in P C Q S1 S2 L pc cc qc c1 c2 lc n1 n2 nl l0 l1 l2 l3 ys rs ps w hl hy hr hp
theorem build_lay8 (a b c d : Int) (s p : Value) (w : World) : (Instr.build 70 #[(0, .agg #[.int .i64 a, .int .i64 b, .int .i64 c, .int .i64 d, s, p])]).run Tryz.prog w = .ok (.agg #[.int .i64 a, .int .i64 b, .int .i64 c, .int .i64 d, s, p, .slice none 0 0]) w := run_build w 70 _ _ (by kernel_rfl)
attribute [local go_sem] build_lay8
end Go.Proofs.YtdhakoecjmaebaaGreat
