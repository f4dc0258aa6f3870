/-
 The walks of slices.Clone (at numbers and at places) and of spread.Rests.
-/
import Derived.Test.YtdhakoecjmaebaaGreatZStepA
import Derived.Lib.SliceRun
namespace Go.Proofs.YtdhakoecjmaebaaGreat
open Go.RowKit
set_option linter.unusedSimpArgs false
set_option linter.unusedVariables false
theorem own_cells {α : Type} {cells : α → List Value} {sz : Nat} {w : World} {base g : Nat} {E : TypeId} {v : Value} {l : List α} (h : OwnR w base E sz cells v l) (hg : v.ownBlock = some g) : ∃ cs, Blk w g E cs := by
 rcases h.2 with ⟨h1, h2⟩ | ⟨g', cap, cur, hv, hb, hg', _⟩
 ·rw [h1] at hg; cases hg
 ·rw [hv] at hg; cases hg; exact ⟨cur, hg'⟩
theorem blk_type {w : World} {g : Nat} {t t' : TypeId} {cs cs' : Array Value} (h : Blk w g t cs) (h' : Blk w g t' cs') : t = t' := by
 have := Option.some.inj (h.symm.trans h')
 injection this
theorem own_net {α β : Type} {cells : α → List Value} {cells' : β → List Value} {sz sz' : Nat} {w : World} {base base' g : Nat} {E E' : TypeId} {v v' : Value} {l : List α} {l' : List β}
  (h : OwnR w base E sz cells v l) (h' : OwnR w base' E' sz' cells' v' l') (hE : E ≠ E') (hg : v.ownBlock = some g) : some g ≠ v'.ownBlock := by
 intro e
 obtain ⟨cs, h1⟩ := own_cells h hg
 obtain ⟨cs', h2⟩ := own_cells h' e.symm
 exact hE (blk_type h1 h2)
theorem own_keep {α β : Type} {cells : α → List Value} {cells' : β → List Value} {sz sz' : Nat} {w w' : World} {base base' : Nat} {E E' : TypeId} {v v' : Value} {l : List α} {l' : List β}
  (h : OwnR w base E sz cells v l) (h' : OwnR w base' E' sz' cells' v' l') (hE : E ≠ E') (hg : w.grownBy w' v'.ownBlock) : OwnR w' base E sz cells v l :=
 h.ofBlock fun g hgv => hg.block g (World.ownsRow.lt h g hgv).2 (own_net h h' hE hgv)
theorem row_keep {β : Type} {cells' : β → List Value} {sz' n T : Nat} {w w' : World} {base' : Nat} {t E' : TypeId} {v' : Value} {f : Nat → Value} {l' : List β}
  (h : w.rowIs T t n f) (h' : OwnR w base' E' sz' cells' v' l') (hE : t ≠ E') (hg : w.grownBy w' v'.ownBlock) : w'.rowIs T t n f := by
 refine h.of_block (hg.block T h.lt (fun e => ?_))
 obtain ⟨c, hb, _⟩ := h
 obtain ⟨cs', h2⟩ := own_cells h' e.symm
 exact hE (blk_type hb h2)
theorem SrcAt.ints {w : World} {A : Option Addr} {l : List Int} (h : Ints w A l) : SrcAt w A (l.flatMap i1) := by
 intro ad had j u hu
 obtain ⟨i, k, a, h1, h2, rfl⟩ := flat_split i1_len hu
 obtain ⟨b, o, e, hx⟩ := h (by have := (List.getElem?_eq_some_iff.1 h1).1; omega)
 rw [e] at had
 cases had
 have hk : k = 0 := by have := (List.getElem?_eq_some_iff.1 h2).1; rw [i1_len] at this; omega
 subst hk
 cases h2
 rw [add_plain, Nat.mul_one, Nat.add_zero]
 exact hx i a h1
structure Pc where
 g : Int
 u : Int
 c : Int
 fl : Bool
 q : Int
 x : Int
 y : Int
 deriving DecidableEq
def Pc.cells (p : Pc) : List Value := [.int .i64 p.g, .int .i64 p.u, .int .i64 p.c, .bool p.fl, .int .i64 p.q, .int .i64 p.x, .int .i64 p.y]
def Pcs (w : World) (A : Option Addr) (l : List Pc) : Prop := ListAt w 7 Pc.cells (fun _ _ => True) A l
theorem Pcs.later {w w' : World} {A : Option Addr} {l : List Pc} (h : Pcs w A l) (k : Later w w') : Pcs w' A l := ListAt.later h (fun _ _ => trivial) k
def restG2 (i lot : Int) : Int → List Pt → List Qd
 | _, [] => []
 | f, z :: l => (if f < z.x then [⟨i, lot, f, z.x⟩] else []) ++ restG2 i lot z.y l
theorem rest_g2 {i lot ln : Int} : ∀ {zs : List Pt} {f : Int}, restGo i lot ln f zs = restG2 i lot f (zs ++ [⟨ln, ln⟩]) := by
 intro zs
 induction zs with
 | nil => intro f; show _ = (if f < ln then ([⟨i, lot, f, ln⟩] : List Qd) else []) ++ []; rw [List.append_nil]; rfl
 | cons z l ih => intro f; rw [restGo, ih]; rfl
theorem g2_hit {i lot f : Int} {z : Pt} {l : List Pt} (h : f < z.x) : restG2 i lot f (z :: l) = [⟨i, lot, f, z.x⟩] ++ restG2 i lot z.y l := by rw [restG2, if_pos h]
theorem g2_miss {i lot f : Int} {z : Pt} {l : List Pt} (h : ¬ f < z.x) : restG2 i lot f (z :: l) = restG2 i lot z.y l := by rw [restG2, if_neg h, List.nil_append]
theorem restsFrom_cons {P : List Qd} {r : Rl} {rs : List Rl} {t : Int} {ts : List Int} {i : Nat} : restsFrom P (r :: rs) (t :: ts) i = restG2 (i : Int) t 0 (sortZ (zonesOf i P) ++ [⟨r.ln, r.ln⟩]) ++ restsFrom P rs ts (i + 1) := by rw [restsFrom, rest_g2]
def RestsPost (R : List Qd × Int) (w : World) (e : Ending) (w' : World) : Prop :=
 ∃ A c, e = .returned (.tuple #[.slice A R.1.length c, .int .i64 R.2]) ∧ OwnR w' w.heap.size 192 4 qd4 (.slice A R.1.length c) R.1 ∧ Later w w'
theorem rests_err {R : List Qd × Int} {x : Int} {w w' : World} {e : Ending} (h : R = ([], x)) (he : e = .returned (.tuple #[.slice none 0 0, .int .i64 x])) (hl : Later w w') : RestsPost R w e w' := by
 subst h
 exact ⟨none, 0, he, World.ownsRow_nil _ _ _ _, hl⟩
section
variable {rs : List Rl} {lots : List Int} {ys : List Pl}
theorem rr_rolls (h : chkRollsR rs lots.length ≠ 0) : restsR rs lots ys = ([], chkRollsR rs lots.length) := by unfold restsR; rw [if_pos h]
theorem rr_long (h : chkRollsR rs lots.length = 0) (h1 : 40 < ys.length) : restsR rs lots ys = ([], 5) := by unfold restsR; rw [if_neg (by simpa using h), if_pos h1]
theorem rr_cloth (h : chkRollsR rs lots.length = 0) (h1 : ¬ 40 < ys.length) (h2 : ∃ p ∈ allQ ys, clothB p rs = false) : restsR rs lots ys = ([], 3) := by
 unfold restsR
 rw [if_neg (by simpa using h), if_neg h1, if_pos]
 rw [List.all_eq_false]
 obtain ⟨p, hp, h⟩ := h2
 exact ⟨p, hp, by simp [h]⟩
theorem rr_twice (h : chkRollsR rs lots.length = 0) (h1 : ¬ 40 < ys.length) (h2 : ∀ p ∈ allQ ys, clothB p rs = true) (h3 : ¬ NoTwice (allQ ys)) : restsR rs lots ys = ([], 14) := by
 unfold restsR
 rw [if_neg (by simpa using h), if_neg h1, if_neg (by simpa using h2), if_neg h3]
theorem rr_ok (h : chkRollsR rs lots.length = 0) (h1 : ¬ 40 < ys.length) (h2 : ∀ p ∈ allQ ys, clothB p rs = true) (h3 : NoTwice (allQ ys)) : restsR rs lots ys = (restsFrom (allQ ys) rs lots 0, 0) := rests_of h (by omega) h2 h3
end
theorem cloth_drop {ys : List Py} {rs : List Rl} {k : Nat} (h : ∀ y ∈ ys.take k, ∀ p ∈ y.parts, clothB p rs = true) (hk : ys.length ≤ k) : ∀ p ∈ allP ys, clothB p rs = true := by
 intro p hp
 obtain ⟨y, hy, hp⟩ := List.mem_flatMap.1 hp
 rw [List.take_of_length_le hk] at h
 exact h y hy p hp
set_option maxHeartbeats 8000000 in
set_option maxRecDepth 100000 in
theorem spread_Rests (C L S1 S2 P : Option Addr) (cc lc n1 c1 n2 c2 pc : Nat) (l0 l1 l2 l3 : Int) (rs : List Rl) (lots : List Int) (ys : List Py) (w : World)
  (hr : Rolls w C rs) (hrl : rs.length ≤ 1099511627776) (hL : Ints w L lots) (hll : lots.length ≤ 9223372036854775807) (hy : Plys w P ys) (hyl : ys.length ≤ 1099511627776) (hpart : ∀ y ∈ ys, y.parts.length ≤ 50) :
  Calls Tryz.prog 75 #[.agg #[.int .i64 l0, .int .i64 l1, .int .i64 l2, .int .i64 l3, .slice S1 n1 c1, .slice S2 n2 c2, .slice P ys.length pc], .slice C rs.length cc, .slice L lots.length lc] w
   (RestsPost (restsR rs lots (ys.map Py.pl)) w) := by
 have HK := Lib.hid (fun W (hW : Later w W) => spread_checkRolls C L cc lc lots.length rs W (hr.later hW) hrl hll)
 have Hr1 := Lib.hid (rr_rolls (rs := rs) (lots := lots) (ys := ys.map Py.pl))
 have Hr2 := Lib.hid (rr_long (rs := rs) (lots := lots) (ys := ys.map Py.pl))
 have Hr3 := Lib.hid (rr_cloth (rs := rs) (lots := lots) (ys := ys.map Py.pl))
 have Hr4 := Lib.hid (rr_twice (rs := rs) (lots := lots) (ys := ys.map Py.pl))
 have Hr5 := Lib.hid (rr_ok (rs := rs) (lots := lots) (ys := ys.map Py.pl))
 have Hcz := Lib.hid (chkRolls_zero (rs := rs) (nl := lots.length))
 generalize restsR rs lots (ys.map Py.pl) = R at *
 generalize chkRollsR rs lots.length = er at *
 rw [allP_pl, List.length_map] at *
 rcases Classical.em (er = 0) with h0 | h0
 ·subst h0
  obtain ⟨hr20, hrz, hnl⟩ := Hcz.out rfl
  have Hnl := Lib.hid hnl
  clear hnl hrz Hcz Hr1
  by_cases h40 : 40 < ys.length
  ·have d40 : decide ((40 : Int) < (ys.length : Int)) = true := by simp; omega
   have HRv := Lib.hid (Hr2.out (by first | trivial | rfl) h40)
   go_enter Tryz.func75, Tryz.ntmps75
   go_wp2_with (first | (go_at_call 114; (with_reducible refine (HK.out _ (by repeat' (with_reducible first | exact .refl _ | assumption | refine .drew ?_ | refine .drewN ?_ _ | refine .alloc ?_ _ | refine .put ?_ (by omega) _ | refine .trans ?_ (by assumption)))).mono ?_); rintro e w1 ⟨rfl, hb1⟩; have c6 : w1.cell? ⟨w.heap.size, 6, none⟩ = some (.slice P ys.length pc) := hb1.cell (by simp [go_sem])))
   go_ret2
   exact rests_err HRv.out rfl (by repeat' (with_reducible first | exact .refl _ | assumption | refine .drew ?_ | refine .drewN ?_ _ | refine .alloc ?_ _ | refine .put ?_ (by omega) _ | refine .trans ?_ (by assumption)))
  ·have d40 : decide ((40 : Int) < (ys.length : Int)) = false := by simp; omega
   have h40' : ys.length ≤ 40 := by omega
   have HU := Lib.hid (fun (hcl : ∀ p ∈ allP ys, clothB p rs = true) W (hW : Later w W) => spread_used P C S1 S2 pc cc n1 c1 n2 c2 l0 l1 l2 l3 ys rs W (hy.later hW) hcl (by omega) (by omega) (by have := allP_len hpart; omega))
   go_enter Tryz.func75, Tryz.ntmps75
   go_upto_region 6 with (first | (go_at_call 114; (with_reducible refine (HK.out _ (by repeat' (with_reducible first | exact .refl _ | assumption | refine .drew ?_ | refine .drewN ?_ _ | refine .alloc ?_ _ | refine .put ?_ (by omega) _ | refine .trans ?_ (by assumption)))).mono ?_); rintro e w1 ⟨rfl, hb1⟩; have c6 : w1.cell? ⟨w.heap.size, 6, none⟩ = some (.slice P ys.length pc) := hb1.cell (by simp [go_sem])))
   have D4 : Blk w1 w.heap.size 70 #[.int .i64 l0, .int .i64 l1, .int .i64 l2, .int .i64 l3, .slice S1 n1 c1, .slice S2 n2 c2, .slice P ys.length pc] := Blk.later (by repeat' (with_reducible first | assumption | (refine Blk.newAt ?_; simp; done) | refine Blk.alloc ?_ _ | refine Blk.drew ?_ | refine Blk.drewN ?_ _ | refine Blk.later ?_ (by assumption))) hb1
   have hl1w : Later w w1 := (by repeat' (with_reducible first | exact .refl _ | assumption | refine .drew ?_ | refine .drewN ?_ _ | refine .alloc ?_ _ | refine .put ?_ (by omega) _ | refine .trans ?_ (by assumption)))
   clear hb1 HK d40
   generalize w.heap.size = g4 at *
   go_wp2
   go_loopw [34] (fun iv wr => ∃ k : Nat, k ≤ ys.length ∧ iv = .int .i64 k ∧ (∀ y ∈ ys.take k, ∀ p ∈ y.parts, clothB p rs = true) ∧ Later w1 wr) (fun iv _ => ys.length - (intOf iv).toNat)
   case atStart => exact ⟨0, by omega, rfl, (fun y hy => by simp at hy), Later.refl _⟩
   case round =>
    obtain ⟨k, hk, rfl, hcl, hb⟩ := hrel
    have Hcl := Lib.hid hcl
    clear hcl
    have hlw : Later w wr := hl1w.trans hb
    by_cases hlt : k < ys.length
    ·have hokw : PyOk w ys[k] := by obtain ⟨_, _, _, _, _, h⟩ := hy.at_ hlt; exact h
     obtain ⟨hpc, hpm, hqd, hqi⟩ := hokw
     obtain ⟨bb, ob, rfl, e1, e2, _⟩ := (hy.later hlw).at_ hlt
     have hbz : bb < wr.heap.size := World.block_lt_of_cell? _ _ e1
     have Htk := Lib.hid (List.take_succ_eq_append_getElem hlt)
     have hmem : ∀ q ∈ ys[k].parts, q ∈ allP ys := fun q hq => List.mem_flatMap.2 ⟨ys[k], List.getElem_mem hlt, hq⟩
     have hpn := hpart _ (List.getElem_mem hlt)
     generalize ys[k] = y at *
     obtain ⟨lot, pa, pc', parts⟩ := y
     simp only [] at e1 e2 hpc hpm hqd hmem hpn Htk
     go_wp2
     go_loopw [41] (fun iv wq => ∃ i : Nat, i ≤ parts.length ∧ iv = .int .i64 i ∧ (∀ q ∈ parts.take i, clothB q rs = true) ∧ Later w1 wq) (fun iv _ => parts.length - (intOf iv).toNat)
     case atStart => exact ⟨0, by omega, rfl, (fun q hq => by simp at hq), (by repeat' (with_reducible first | exact .refl _ | assumption | refine .drew ?_ | refine .drewN ?_ _ | refine .alloc ?_ _ | refine .put ?_ (by omega) _ | refine .trans ?_ (by assumption)))⟩
     case round =>
      clear e1 e2 hbz
      obtain ⟨i, hi, rfl, hci, hb⟩ := hrel
      have Hci := Lib.hid hci
      clear hci
      have hlw : Later w wr := hl1w.trans hb
      by_cases hli : i < parts.length
      ·obtain ⟨bq, oq, rfl, hat⟩ := (hqd.later hlw) (by omega)
       obtain ⟨q0, q1, q2, q3⟩ := hat.get hli
       have hbz : bq < wr.heap.size := World.block_lt_of_cell? _ _ q0
       have Hti := Lib.hid (List.take_succ_eq_append_getElem hli)
       have hqm := hmem _ (List.getElem_mem hli)
       generalize parts[i] = q at *
       have HC := Lib.hid (fun W (hW : Later w W) => spread_isCloth C cc q rs W (hr.later hW) (by omega))
       rcases hc : clothB q rs with _ | _
       ·rw [hc] at HC
        have HRv := Lib.hid (Hr3.out (by first | trivial | rfl) h40 ⟨q, hqm, hc⟩)
        clear hc
        obtain ⟨qa, qb, qc, qd⟩ := q
        unfold Qd.agg at HC
        simp only [] at q0 q1 q2 q3 HC
        go_wp2_with (first | (go_at_call 115; (with_reducible refine (HC.out _ (hlw.trans (by repeat' (with_reducible first | exact .refl _ | assumption | refine .drew ?_ | refine .drewN ?_ _ | refine .alloc ?_ _ | refine .put ?_ (by omega) _ | refine .trans ?_ (by assumption))))).mono ?_); rintro e w5 ⟨rfl, hb5⟩))
        go_ret2
        exact rests_err HRv.out rfl (hlw.trans (by repeat' (with_reducible first | exact .refl _ | assumption | refine .drew ?_ | refine .drewN ?_ _ | refine .alloc ?_ _ | refine .put ?_ (by omega) _ | refine .trans ?_ (by assumption))))
       ·rw [hc] at HC
        have Hc := Lib.hid hc
        clear hc
        have HN := Lib.hid (show ∀ x ∈ parts.take (i + 1), clothB x rs = true by
         intro x hx
         rw [Hti.out] at hx
         rcases List.mem_append.1 hx with hx | hx
         ·exact Hci.out x hx
         ·rw [List.mem_singleton.1 hx]; exact Hc.out)
        obtain ⟨qa, qb, qc, qd⟩ := q
        unfold Qd.agg at HC
        simp only [] at q0 q1 q2 q3 HC
        go_wp2_with (first | (go_at_call 115; (with_reducible refine (HC.out _ (hlw.trans (by repeat' (with_reducible first | exact .refl _ | assumption | refine .drew ?_ | refine .drewN ?_ _ | refine .alloc ?_ _ | refine .put ?_ (by omega) _ | refine .trans ?_ (by assumption))))).mono ?_); rintro e w5 ⟨rfl, hb5⟩))
        go_roundw
        case rel => exact ⟨i + 1, by omega, by go_num, HN.out, hb.trans (by repeat' (with_reducible first | exact .refl _ | assumption | refine .drew ?_ | refine .drewN ?_ _ | refine .alloc ?_ _ | refine .put ?_ (by omega) _ | refine .trans ?_ (by assumption)))⟩
        case measure => simp [intOf]; omega
      ·rw [List.take_of_length_le (by omega)] at Hci
       go_wp2
       go_roundw
       case rel =>
        refine ⟨k + 1, by omega, by go_num, fun x hx => ?_, hb⟩
        rw [Htk.out] at hx
        rcases List.mem_append.1 hx with hx | hx
        ·exact Hcl.out x hx
        ·rw [List.mem_singleton.1 hx]; exact Hci.out
       case measure => simp [intOf]; omega
    ·have hcl := cloth_drop Hcl.out (by omega)
     have HUU := Lib.hid (HU.out hcl)
     have Hall := Lib.hid hcl
     clear hcl HU Hr2 Hr3
     have m0 : wr.cell? ⟨g4, 0, none⟩ = some (.int .i64 l0) := hb.cell (D4.cell 0)
     have m1 : wr.cell? ⟨g4, 1, none⟩ = some (.int .i64 l1) := hb.cell (D4.cell 1)
     have m2 : wr.cell? ⟨g4, 2, none⟩ = some (.int .i64 l2) := hb.cell (D4.cell 2)
     have m3 : wr.cell? ⟨g4, 3, none⟩ = some (.int .i64 l3) := hb.cell (D4.cell 3)
     have m4 : wr.cell? ⟨g4, 4, none⟩ = some (.slice S1 n1 c1) := hb.cell (D4.cell 4)
     have m5 : wr.cell? ⟨g4, 5, none⟩ = some (.slice S2 n2 c2) := hb.cell (D4.cell 5)
     have m6 : wr.cell? ⟨g4, 6, none⟩ = some (.slice P ys.length pc) := hb.cell (D4.cell 6)
     have z4 : g4 < wr.heap.size := World.block_lt_of_cell? _ _ m0
     by_cases hnt : NoTwice (allP ys)
     ·have HRv := Lib.hid (Hr5.out (by first | trivial | rfl) h40 Hall.out hnt)
      have Hnt := Lib.hid hnt
      clear hnt
      go_upto_region 20 with (first | (go_at_call 78; (with_reducible refine (HUU.out _ hlw).mono ?_); rintro e w5 (⟨_, T, vs, rfl, hT, hZ, hb5⟩ | ⟨h, _⟩); rotate_left; exact absurd Hnt.out h))
      have hl5 : Later w w5 := hlw.trans hb5
      have HT := Lib.hid hT
      have HZ := Lib.hid hZ
      have hzl : ∀ j : Nat, (sortZ (zonesOf j (allP ys))).length ≤ 2000 := fun j => by
       rw [(sortZ_perm _).length_eq]
       have h1 := zones_len j (allP ys)
       have := allP_len hpart
       omega
      have Hzl := Lib.hid hzl
      have Hapart := Lib.hid hZ.apart
      clear hT hZ m0 m1 m2 m3 m4 m5 m6 z4 hb5 hzl HUU Hr4 Hr5 D4
      generalize allP ys = PP at *
      go_wp2
      go_loopw [15, 61] (fun v iv wq => ∃ (k : Nat) (acc : List Qd), k ≤ rs.length ∧ iv = .int .i64 k ∧ acc.length ≤ k * 2001 ∧ restsFrom PP rs lots 0 = acc ++ restsFrom PP (rs.drop k) (lots.drop k) k ∧ OwnR wq w.heap.size 192 4 qd4 v acc ∧ wq.rowIs T 188 rs.length vs ∧ (∀ j, k ≤ j → j < rs.length → OwnR wq (T + 1) 190 2 pt2 (vs j) (sortZ (zonesOf j PP))) ∧ Later w wq) (fun _ iv _ => rs.length - (intOf iv).toNat)
      case atStart => exact ⟨0, [], by omega, rfl, by simp, rfl, World.ownsRow_nil _ _ _ _, HZ.out.row, fun j _ hj => HZ.out.own j hj, hl5⟩
      case round =>
       obtain ⟨k, acc, hk, rfl, hal, he, ho, hrow, hown, hb⟩ := hrel
       have He := Lib.hid he
       have Ho := Lib.hid ho
       have Hal := Lib.hid hal
       have Hrow := Lib.hid hrow
       have Hown := Lib.hid hown
       clear he ho hal hrow hown HZ
       by_cases hlt : k < rs.length
       ·obtain ⟨bb, ob, rfl, z0, z1, z2, z3, z4, z5, z6, _⟩ := (hr.later hb).at_ hlt
        have hkl : k < lots.length := by rw [Hnl.out]; exact hlt
        have hbz : bb < wr.heap.size := World.block_lt_of_cell? _ _ z0
        have Hd := Lib.hid (drop_cons' rs k hlt)
        have Hdl := Lib.hid (drop_cons' lots k hkl)
        have Hlk := Lib.hid (show lots[k]? = some lots[k] from List.getElem?_eq_getElem hkl)
        generalize rs[k] = r at *
        generalize lots[k] = t at *
        obtain ⟨rid, rwd, rln, rtl, rta, rtb, fa, fc, fl⟩ := r
        simp only [] at z0 z1 z2 z3 z4 z5 z6
        have hk0 : (0 : Int) ≤ (k : Int) := by omega
        have hk1 : (k : Int) < (rs.length : Int) := by omega
        have Hst := Lib.hid (show restsFrom PP rs lots 0 = (acc ++ restG2 (k : Int) t 0 (sortZ (zonesOf k PP) ++ [⟨rln, rln⟩])) ++ restsFrom PP (rs.drop (k + 1)) (lots.drop (k + 1)) (k + 1) by rw [He.out, Hd.out, Hdl.out, restsFrom_cons, List.append_assoc])
        go_upto_region 24 with fail
        refine name_world (fun W9 hW9 => ?_)
        have hl9 : Later wr W9 := by rw [hW9]; exact (by repeat' (with_reducible first | exact .refl _ | assumption | refine .drew ?_ | refine .drewN ?_ _ | refine .alloc ?_ _ | refine .put ?_ (by omega) _ | refine .trans ?_ (by assumption)))
        have D17 : Blk W9 wr.heap.size 100 #[.string rid, .int .i64 rwd, .int .i64 rln, .int .i64 rtl, .int .i64 rta, .int .i64 rtb, .slice fa fl.length fc] := by rw [hW9]; exact (by repeat' (with_reducible first | assumption | (refine Blk.newAt ?_; simp; done) | refine Blk.alloc ?_ _ | refine Blk.drew ?_ | refine Blk.drewN ?_ _ | refine Blk.later ?_ (by assumption)))
        clear hW9
        have c2 : W9.cell? ⟨wr.heap.size, 2, none⟩ = some (.int .i64 rln) := D17.cell 2
        have z17 : wr.heap.size < W9.heap.size := D17.lt
        generalize hg17 : wr.heap.size = g17 at *
        have Hg17 := Lib.hid hg17
        clear hg17
        have hlw9 : Later w W9 := hb.trans hl9
        have Ho9 := Lib.hid (Ho.out.later hl9)
        have Hrow9 := Lib.hid (rowIs_later Hrow.out hl9)
        have Hown9 := Lib.hid (fun j (h1 : k ≤ j) (h2 : j < rs.length) => (Hown.out j h1 h2).later hl9)
        clear z0 z1 z2 z3 z4 z5 z6 hbz
        have hO := Hown9.out k (Nat.le_refl _) hlt
        obtain ⟨A7, c7, e7, _⟩ := hO.form pt2_len
        have He7 := Lib.hid e7
        have tc : W9.cell? ⟨T, k, none⟩ = some (.slice A7 (sortZ (zonesOf k PP)).length c7) := by rw [← e7]; exact Hrow9.out.cell hlt
        have zT : T < W9.heap.size := Hrow9.out.lt
        have HO := Lib.hid (show OwnR W9 (T + 1) 190 2 pt2 (.slice A7 (sortZ (zonesOf k PP)).length c7) (sortZ (zonesOf k PP)) by rw [← He7.out]; exact hO)
        have hzk := Hzl.out k
        clear hO e7
        generalize hzs : sortZ (zonesOf k PP) = zs at *
        have Hzs := Lib.hid hzs
        clear hzs
        have HS := Lib.hid (SrcAt.blk (Blk.new W9.drew 190 #[.int .i64 rln, .int .i64 rln]))
        have D17' := Lib.hid D17
        clear D17
        refine wp_region_held_drew (S := fun w' : World => (w'.cell? ⟨g17, 2, none⟩ = some (.int .i64 rln) ∧ g17 < w'.heap.size) ∧ w'.cell? ⟨T, k, none⟩ = some (.slice A7 zs.length c7) ∧ T < w'.heap.size) (by kernel_rfl) ⟨⟨c2, z17⟩, tc, zT⟩ (fun hHeld => ?_)
        refine take_at (i := 0) (d := 66) (v := ?_) rfl rfl (by kernel_rfl) (by kernel_rfl) (by kernel_rfl) (fun _ _ _ h => h) (by rfl) ?_ (by assumption) ?_
        rotate_left
        ·(intro w hSw; (try dsimp only at hSw); go_simp; (try with_reducible rfl))
        simp only [Act.put, lsA, lsZ, lsS]
        refine take_at (i := 1) (d := 67) (v := ?_) rfl rfl (by kernel_rfl) (by kernel_rfl) (by kernel_rfl) (fun _ _ _ h => h) (by rfl) ?_ (by assumption) ?_
        rotate_left
        ·(intro w hSw; (try dsimp only at hSw); go_simp; (try with_reducible rfl))
        simp only [Act.put, lsA, lsZ, lsS]
        refine take_at (i := 2) (d := 68) (v := ?_) rfl rfl (by kernel_rfl) (by kernel_rfl) (by kernel_rfl) (fun _ _ _ h => h) (by rfl) ?_ (by assumption) ?_
        rotate_left
        ·(intro w hSw; (try dsimp only at hSw); go_simp; (try with_reducible rfl))
        simp only [Act.put, lsA, lsZ, lsS]
        refine take_at (i := 3) (d := 69) (v := ?_) rfl rfl (by kernel_rfl) (by kernel_rfl) (by kernel_rfl) (fun _ _ _ h => h) (by rfl) ?_ (by assumption) ?_
        rotate_left
        ·(intro w hSw; (try dsimp only at hSw); go_simp; (try with_reducible rfl))
        simp only [Act.put, lsA, lsZ, lsS]
        refine take_at (i := 4) (d := 70) (v := ?_) rfl rfl (by kernel_rfl) (by kernel_rfl) (by kernel_rfl) (fun _ _ _ h => h) (by rfl) ?_ (by assumption) ?_
        rotate_left
        ·(intro w hSw; (try dsimp only at hSw); go_simp; (try with_reducible rfl))
        simp only [Act.put, lsA, lsZ, lsS]
        refine take_at (i := 5) (d := 71) (v := ?_) rfl rfl (by kernel_rfl) (by kernel_rfl) (by kernel_rfl) (fun _ _ _ h => h) (by rfl) ?_ (by assumption) ?_
        rotate_left
        ·(intro w hSw; (try dsimp only at hSw); go_simp; (try with_reducible rfl))
        simp only [Act.put, lsA, lsZ, lsS]
        refine take_at (i := 6) (d := 72) (v := ?_) rfl rfl (by kernel_rfl) (by kernel_rfl) (by kernel_rfl) (fun _ _ _ h => h) (by rfl) ?_ (by assumption) ?_
        rotate_left
        ·(intro w hSw; (try dsimp only at hSw); go_simp; (try with_reducible rfl))
        simp only [Act.put, lsA, lsZ, lsS]
        refine take_at (i := 7) (d := 73) (v := ?_) rfl rfl (by kernel_rfl) (by kernel_rfl) (by kernel_rfl) (fun _ _ _ h => h) (by rfl) ?_ (by assumption) ?_
        rotate_left
        ·(intro w hSw; (try dsimp only at hSw); go_simp; (try with_reducible rfl))
        simp only [Act.put, lsA, lsZ, lsS]
        refine take_at (i := 8) (d := 74) (v := ?_) rfl rfl (by kernel_rfl) (by kernel_rfl) (by kernel_rfl) (fun _ _ _ h => h) (by rfl) ?_ (by assumption) ?_
        rotate_left
        ·(intro w hSw; (try dsimp only at hSw); go_simp; (try with_reducible rfl))
        simp only [Act.put, lsA, lsZ, lsS]
        refine take_at (i := 12) (d := 78) (v := ?_) rfl rfl (by kernel_rfl) (by kernel_rfl) (by kernel_rfl) (fun _ _ _ h => h) (by rfl) ?_ (by assumption) ?_
        rotate_left
        ·(intro w hSw; (try dsimp only at hSw); go_simp; (try with_reducible rfl))
        simp only [Act.put, lsA, lsZ, lsS]
        refine val_at (i := 9) (d := 75) (v := .slice (some ⟨W9.drew.heap.size, 0, none⟩) 1 1) (w' := W9.drew.alloc (.cells #[.int .i64 rln, .int .i64 rln] 190)) (by kernel_rfl) rfl rfl (by rfl) (by go_simp) (by have hl : Later W9 (W9.drew.alloc (.cells #[.int .i64 rln, .int .i64 rln] 190)) := (Later.refl _).drew.alloc _; exact ⟨⟨hl.cell c2, by have := hl.size; omega⟩, hl.cell tc, by have := hl.size; omega⟩) ?_
        simp only [Act.put, lsA, lsZ, lsS]
        refine append_at (i := 10) (d := 76) slt_zone pt2_len pt2_one (by kernel_rfl) rfl rfl rfl (.tmp 69) (.tmp 75) rfl (base := T + 1) (l := zs) rfl (OwnR.alloc (OwnR.drew HO.out) _) (A := some ⟨W9.drew.heap.size, 0, none⟩) (c := 1) [⟨rln, rln⟩] rfl (by intro h; cases h) HS.out (by simp; omega) (by simp; omega) ?_
        intro A3 c3' w3 ho3 hg3
        have hOw := OwnR.alloc (OwnR.drew HO.out) (.cells #[.int .i64 rln, .int .i64 rln] 190)
        have hl10 : Later W9 (W9.drew.alloc (.cells #[.int .i64 rln, .int .i64 rln] 190)) := (Later.refl _).drew.alloc _
        have D3 := Blk.grown (D17'.out.later hl10) hg3 (by intro e; obtain ⟨cs, hcs⟩ := own_cells hOw e.symm; have := blk_type (D17'.out.later hl10) hcs; exact absurd this (by decide))
        have hrow3 := row_keep (rowIs_later Hrow9.out hl10) hOw (by decide) hg3
        have tc3 : w3.cell? ⟨T, k, none⟩ = some (.slice A7 zs.length c7) := by rw [← He7.out]; exact hrow3.cell hlt
        refine ⟨⟨⟨D3.cell 2, D3.lt⟩, tc3, hrow3.lt⟩, fun hS3 => ?_⟩
        simp only [Act.put, lsA, lsZ, lsS]
        refine take_at (i := 11) (d := 77) (v := ?_) rfl rfl (by kernel_rfl) (by kernel_rfl) (by kernel_rfl) (fun _ _ _ h => h) (by rfl) ?_ (by assumption) ?_
        rotate_left
        ·(intro w hSw; (try dsimp only at hSw); go_simp; (try with_reducible rfl))
        simp only [Act.put, lsA, lsZ, lsS]
        refine wpAnyH_done (by kernel_rfl) ?_ _
        have hl3 : Later w w3 := Later.grown (hlw9.trans hl10) hg3 (fun g hg => by have := (World.ownsRow.lt HO.out g hg).1; have := HT.out; have := hlw.size; omega)
        have Ho3 := Lib.hid (own_keep (Ho9.out.later hl10) hOw (by decide) hg3)
        have Hown3 := Lib.hid (fun j (h1 : k + 1 ≤ j) (h2 : j < rs.length) => ((Hown9.out j (by omega) h2).later hl10).ofBlock (fun g hgj => hg3.block g ((World.ownsRow.lt ((Hown9.out j (by omega) h2).later hl10) g hgj).2) (fun e => Hapart.out j k h2 hlt (by omega) g hgj (by rw [He7.out]; exact e.symm))))
        have Hrow3 := Lib.hid hrow3
        have HZ3 := Lib.hid ho3
        have hZl : (zs ++ ([⟨rln, rln⟩] : List Pt)).length ≤ 2001 := by simp; omega
        clear D3 hrow3 tc3 hS3 hOw hl10 hg3 ho3 hHeld HS HO Hown9 Hrow9 Ho9 Ho Hrow Hown tc c2 hb hzk He
        generalize hZ : zs ++ ([⟨rln, rln⟩] : List Pt) = Z at *
        have hZ1 : (zs.length : Int) + 1 = (Z.length : Int) := by rw [← hZ]; simp
        have HZe := Lib.hid hZ
        clear hZ
        simp only [hZ1]
        clear hZ1
        go_wp2
        go_loopw [15, 18, 78] (fun v fv iv wq => ∃ (i : Nat) (f : Int) (acc2 : List Qd), i ≤ Z.length ∧ iv = .int .i64 i ∧ fv = .int .i64 f ∧ acc2.length ≤ acc.length + i ∧ acc ++ restG2 (k : Int) t 0 Z = acc2 ++ restG2 (k : Int) t f (Z.drop i) ∧ OwnR wq w.heap.size 192 4 qd4 v acc2 ∧ wq.rowIs T 188 rs.length vs ∧ (∀ j, k + 1 ≤ j → j < rs.length → OwnR wq (T + 1) 190 2 pt2 (vs j) (sortZ (zonesOf j PP))) ∧ OwnR wq (T + 1) 190 2 pt2 (.slice A3 Z.length c3') Z ∧ Later w wq) (fun _ _ iv _ => Z.length - (intOf iv).toNat)
        case atStart => exact ⟨0, 0, acc, by omega, rfl, rfl, by omega, rfl, Ho3.out, Hrow3.out, Hown3.out, HZ3.out, hl3⟩
        case round =>
         clear Ho3 Hrow3 Hown3 HZ3 hl3
         obtain ⟨i, f, acc2, hi, rfl, rfl, hal2, he2, ho2, hrow2, hown2, hz2, hb⟩ := hrel
         have Hal2 := Lib.hid hal2
         have He2 := Lib.hid he2
         have Ho2 := Lib.hid ho2
         have Hrow2 := Lib.hid hrow2
         have Hown2 := Lib.hid hown2
         have Hz2 := Lib.hid hz2
         clear hal2 he2 ho2 hrow2 hown2 hz2
         by_cases hli : i < Z.length
         ·obtain ⟨A9, c9, e9, _, _, p9⟩ := Hz2.out.zns
          have e9' : A3 = A9 := by injection e9
          subst e9'
          obtain ⟨bz, oz, rfl, e1, e2⟩ := p9.at_ hli
          have hbz : bz < wr.heap.size := World.block_lt_of_cell? _ _ e1
          obtain ⟨bl, ol, rfl, hx⟩ := (hL.later hb) (by omega : 0 < lots.length)
          have y0 := hx k t Hlk.out
          have zl : bl < wr.heap.size := World.block_lt_of_cell? _ _ y0
          have Hd2 := Lib.hid (drop_cons' Z i hli)
          have hk2 : (k : Int) < (lots.length : Int) := by omega
          have hi0 : (0 : Int) ≤ (i : Int) := by omega
          have hi1 : (i : Int) < (Z.length : Int) := by omega
          clear p9 hx
          generalize Z[i] = z at *
          obtain ⟨zx, zy⟩ := z
          simp only [] at e1 e2
          by_cases hf : f < zx
          ·have df : decide (f < zx) = true := by simpa using hf
           have HN := Lib.hid (show acc ++ restG2 (k : Int) t 0 Z = (acc2 ++ [⟨(k : Int), t, f, zx⟩]) ++ restG2 (k : Int) t zy (Z.drop (i + 1)) by rw [He2.out, Hd2.out, g2_hit hf, List.append_assoc])
           go_upto_region 28 with fail
           refine name_world (fun W8 hW8 => ?_)
           have hl8 : Later wr W8 := by rw [hW8]; exact (by repeat' (with_reducible first | exact .refl _ | assumption | refine .drew ?_ | refine .drewN ?_ _ | refine .alloc ?_ _ | refine .put ?_ (by omega) _ | refine .trans ?_ (by assumption)))
           have D20 : Blk W8 wr.heap.size 190 #[.int .i64 zx, .int .i64 zy] := by rw [hW8]; exact (by repeat' (with_reducible first | assumption | (refine Blk.newAt ?_; simp; done) | refine Blk.alloc ?_ _ | refine Blk.drew ?_ | refine Blk.drewN ?_ _ | refine Blk.later ?_ (by assumption)))
           clear hW8
           have y0 := hl8.cell y0
           have zl8 : bl < W8.heap.size := World.block_lt_of_cell? _ _ y0
           have x0 : W8.cell? ⟨wr.heap.size, 0, none⟩ = some (.int .i64 zx) := D20.cell 0
           have zg := D20.lt
           clear e1 e2 hbz
           generalize hg20 : wr.heap.size = g20 at *
           have Hg20 := Lib.hid hg20
           clear hg20
           have HO2 := Lib.hid (Ho2.out.later hl8)
           have HS := Lib.hid (SrcAt.blk (Blk.new W8.drew 192 #[.int .i64 k, .int .i64 t, .int .i64 f, .int .i64 zx]))
           refine wp_region_held_drew (S := fun w' : World => (w'.cell? ⟨bl, ol + k, none⟩ = some (.int .i64 t) ∧ bl < w'.heap.size) ∧ w'.cell? ⟨g20, 0, none⟩ = some (.int .i64 zx) ∧ g20 < w'.heap.size) (by kernel_rfl) ⟨⟨y0, zl8⟩, x0, zg⟩ (fun hHeld => ?_)
           refine take_at (i := 0) (d := 86) (v := ?_) rfl rfl (by kernel_rfl) (by kernel_rfl) (by kernel_rfl) (fun _ _ _ h => h) (by rfl) ?_ (by assumption) ?_
           rotate_left
           ·(intro w hSw; (try dsimp only at hSw); go_simp; (try with_reducible rfl))
           simp only [Act.put, lsA, lsZ, lsS]
           refine take_at (i := 1) (d := 87) (v := ?_) rfl rfl (by kernel_rfl) (by kernel_rfl) (by kernel_rfl) (fun _ _ _ h => h) (by rfl) ?_ (by assumption) ?_
           rotate_left
           ·(intro w hSw; (try dsimp only at hSw); go_simp; (try with_reducible rfl))
           simp only [Act.put, lsA, lsZ, lsS]
           refine take_at (i := 2) (d := 88) (v := ?_) rfl rfl (by kernel_rfl) (by kernel_rfl) (by kernel_rfl) (fun _ _ _ h => h) (by rfl) ?_ (by assumption) ?_
           rotate_left
           ·(intro w hSw; (try dsimp only at hSw); go_simp; (try with_reducible rfl))
           simp only [Act.put, lsA, lsZ, lsS]
           refine take_at (i := 3) (d := 89) (v := ?_) rfl rfl (by kernel_rfl) (by kernel_rfl) (by kernel_rfl) (fun _ _ _ h => h) (by rfl) ?_ (by assumption) ?_
           rotate_left
           ·(intro w hSw; (try dsimp only at hSw); go_simp; (try with_reducible rfl))
           simp only [Act.put, lsA, lsZ, lsS]
           refine take_at (i := 4) (d := 90) (v := ?_) rfl rfl (by kernel_rfl) (by kernel_rfl) (by kernel_rfl) (fun _ _ _ h => h) (by rfl) ?_ (by assumption) ?_
           rotate_left
           ·(intro w hSw; (try dsimp only at hSw); go_simp; (try with_reducible rfl))
           simp only [Act.put, lsA, lsZ, lsS]
           refine take_at (i := 5) (d := 91) (v := ?_) rfl rfl (by kernel_rfl) (by kernel_rfl) (by kernel_rfl) (fun _ _ _ h => h) (by rfl) ?_ (by assumption) ?_
           rotate_left
           ·(intro w hSw; (try dsimp only at hSw); go_simp; (try with_reducible rfl))
           simp only [Act.put, lsA, lsZ, lsS]
           refine take_at (i := 6) (d := 92) (v := ?_) rfl rfl (by kernel_rfl) (by kernel_rfl) (by kernel_rfl) (fun _ _ _ h => h) (by rfl) ?_ (by assumption) ?_
           rotate_left
           ·(intro w hSw; (try dsimp only at hSw); go_simp; (try with_reducible rfl))
           simp only [Act.put, lsA, lsZ, lsS]
           refine take_at (i := 7) (d := 93) (v := ?_) rfl rfl (by kernel_rfl) (by kernel_rfl) (by kernel_rfl) (fun _ _ _ h => h) (by rfl) ?_ (by assumption) ?_
           rotate_left
           ·(intro w hSw; (try dsimp only at hSw); go_simp; (try with_reducible rfl))
           simp only [Act.put, lsA, lsZ, lsS]
           refine take_at (i := 8) (d := 94) (v := ?_) rfl rfl (by kernel_rfl) (by kernel_rfl) (by kernel_rfl) (fun _ _ _ h => h) (by rfl) ?_ (by assumption) ?_
           rotate_left
           ·(intro w hSw; (try dsimp only at hSw); go_simp; (try with_reducible rfl))
           simp only [Act.put, lsA, lsZ, lsS]
           refine take_at (i := 9) (d := 95) (v := ?_) rfl rfl (by kernel_rfl) (by kernel_rfl) (by kernel_rfl) (fun _ _ _ h => h) (by rfl) ?_ (by assumption) ?_
           rotate_left
           ·(intro w hSw; (try dsimp only at hSw); go_simp; (try with_reducible rfl))
           simp only [Act.put, lsA, lsZ, lsS]
           refine val_at (i := 10) (d := 96) (v := .slice (some ⟨W8.drew.heap.size, 0, none⟩) 1 1) (w' := W8.drew.alloc (.cells #[.int .i64 k, .int .i64 t, .int .i64 f, .int .i64 zx] 192)) (by kernel_rfl) rfl rfl (by rfl) (by go_simp) (by have hl : Later W8 (W8.drew.alloc (.cells #[.int .i64 k, .int .i64 t, .int .i64 f, .int .i64 zx] 192)) := (Later.refl _).drew.alloc _; exact ⟨⟨hl.cell y0, by have := hl.size; omega⟩, hl.cell x0, by have := hl.size; omega⟩) ?_
           simp only [Act.put, lsA, lsZ, lsS]
           refine append_at (i := 11) (d := 97) slt_rest qd4_len qd4_one (by kernel_rfl) rfl rfl rfl (.tmp 86) (.tmp 96) rfl (base := w.heap.size) (l := acc2) rfl (OwnR.alloc (OwnR.drew HO2.out) _) (A := some ⟨W8.drew.heap.size, 0, none⟩) (c := 1) [⟨(k : Int), t, f, zx⟩] rfl (by intro h; cases h) HS.out (by have := Hal2.out; have := Hal.out; simp; omega) (by have := hb.size; have := hl8.size; simp; omega) ?_
           intro A4 c4' w3 ho3 hg3
           have hl10 : Later W8 (W8.drew.alloc (.cells #[.int .i64 k, .int .i64 t, .int .i64 f, .int .i64 zx] 192)) := (Later.refl _).drew.alloc _
           have hOw := HO2.out.later hl10
           have D3 := Blk.grown (D20.later hl10) hg3 (by intro e; obtain ⟨cs, hcs⟩ := own_cells hOw e.symm; have := blk_type (D20.later hl10) hcs; exact absurd this (by decide))
           have hl3 : Later w w3 := Later.grown (hb.trans (hl8.trans hl10)) hg3 (fun g hg => (World.ownsRow.lt hOw g hg).1)
           have y3 : w3.cell? ⟨bl, ol + k, none⟩ = some (.int .i64 t) := by
            obtain ⟨bl', ol', e', hx⟩ := (hL.later hl3) (by omega : 0 < lots.length)
            cases e'
            exact hx k t Hlk.out
           refine ⟨⟨⟨y3, World.block_lt_of_cell? _ _ y3⟩, D3.cell 0, D3.lt⟩, fun hS3 => ?_⟩
           simp only [Act.put, lsA, lsZ, lsS]
           refine take_at (i := 12) (d := 15) (v := ?_) rfl rfl (by kernel_rfl) (by kernel_rfl) (by kernel_rfl) (fun _ _ _ h => h) (by rfl) ?_ (by assumption) ?_
           rotate_left
           ·(intro w hSw; (try dsimp only at hSw); go_simp; (try with_reducible rfl))
           simp only [Act.put, lsA, lsZ, lsS]
           refine wpAnyH_done (by kernel_rfl) ?_ _
           have Hz3 := Lib.hid (own_keep ((Hz2.out.later hl8).later hl10) hOw (by decide) hg3)
           have Hrow3 := Lib.hid (row_keep (rowIs_later (rowIs_later Hrow2.out hl8) hl10) hOw (by decide) hg3)
           have Hown3 := Lib.hid (fun j (h1 : k + 1 ≤ j) (h2 : j < rs.length) => own_keep (((Hown2.out j h1 h2).later hl8).later hl10) hOw (by decide) hg3)
           have x1 : w3.cell? ⟨g20, 1, none⟩ = some (.int .i64 zy) := D3.cell 1
           have z20 := D3.lt
           have Ho3 := Lib.hid ho3
           clear ho3 hg3 hOw hHeld hS3 y0 y3 x0 zg zl zl8 HO2 HS D20 D3
           simp only [List.length_append, List.length_singleton] at Ho3
           go_wp2
           go_roundw
           case rel => exact ⟨i + 1, zy, _, by omega, by go_num, rfl, by have := Hal2.out; simp; omega, HN.out, Ho3.out, Hrow3.out, Hown3.out, Hz3.out, hl3⟩
           case measure => simp [intOf]; omega
          ·have df : decide (f < zx) = false := by simpa using hf
           have HN := Lib.hid (show acc ++ restG2 (k : Int) t 0 Z = acc2 ++ restG2 (k : Int) t zy (Z.drop (i + 1)) by rw [He2.out, Hd2.out, g2_miss hf])
           go_wp2
           go_roundw
           case rel => exact ⟨i + 1, zy, acc2, by omega, by go_num, rfl, by have := Hal2.out; omega, HN.out, Ho2.out.later (by repeat' (with_reducible first | exact .refl _ | assumption | refine .drew ?_ | refine .drewN ?_ _ | refine .alloc ?_ _ | refine .put ?_ (by omega) _ | refine .trans ?_ (by assumption))), rowIs_later Hrow2.out (by repeat' (with_reducible first | exact .refl _ | assumption | refine .drew ?_ | refine .drewN ?_ _ | refine .alloc ?_ _ | refine .put ?_ (by omega) _ | refine .trans ?_ (by assumption))), (fun j h1 h2 => (Hown2.out j h1 h2).later (by repeat' (with_reducible first | exact .refl _ | assumption | refine .drew ?_ | refine .drewN ?_ _ | refine .alloc ?_ _ | refine .put ?_ (by omega) _ | refine .trans ?_ (by assumption)))), Hz2.out.later (by repeat' (with_reducible first | exact .refl _ | assumption | refine .drew ?_ | refine .drewN ?_ _ | refine .alloc ?_ _ | refine .put ?_ (by omega) _ | refine .trans ?_ (by assumption))), hb.trans (by repeat' (with_reducible first | exact .refl _ | assumption | refine .drew ?_ | refine .drewN ?_ _ | refine .alloc ?_ _ | refine .put ?_ (by omega) _ | refine .trans ?_ (by assumption)))⟩
           case measure => simp [intOf]; omega
         ·have HN := Lib.hid (show restsFrom PP rs lots 0 = acc2 ++ restsFrom PP (rs.drop (k + 1)) (lots.drop (k + 1)) (k + 1) by rw [Hst.out, He2.out, List.drop_eq_nil_of_le (by omega)]; simp [restG2])
          go_wp2
          go_roundw
          case rel => exact ⟨k + 1, acc2, by omega, by go_num, by have := Hal2.out; have := Hal.out; omega, HN.out, Ho2.out, Hrow2.out, Hown2.out, hb⟩
          case measure => simp [intOf]; omega
       ·have H0 := Lib.hid (show restsFrom PP rs lots 0 = acc by rw [He.out, List.drop_eq_nil_of_le (by omega), List.drop_eq_nil_of_le (by rw [Hnl.out]; omega)]; simp [restsFrom])
        obtain ⟨A6, c6', e6, p1, p2, p3⟩ := Ho.out.qds
        subst e6
        go_wp2
        go_ret2
        exact ⟨A6, c6', by rw [HRv.out, H0.out]; rfl, by rw [HRv.out, H0.out]; exact Ho.out, hb⟩
     ·have HRv := Lib.hid (Hr4.out (by first | trivial | rfl) h40 Hall.out hnt)
      have Hnt := Lib.hid hnt
      clear hnt
      go_wp2_with (first | (go_at_call 78; (with_reducible refine (HUU.out _ hlw).mono ?_); rintro e w5 (⟨h, _⟩ | ⟨_, rfl, hb5⟩); exact absurd h Hnt.out))
      go_ret2
      exact rests_err HRv.out rfl (hlw.trans hb5)
 ·have dn : (er != 0) = true := by simpa using h0
  have HRv := Lib.hid (Hr1.out h0)
  go_enter Tryz.func75, Tryz.ntmps75
  go_wp2_with (first | (go_at_call 114; (with_reducible refine (HK.out _ (by repeat' (with_reducible first | exact .refl _ | assumption | refine .drew ?_ | refine .drewN ?_ _ | refine .alloc ?_ _ | refine .put ?_ (by omega) _ | refine .trans ?_ (by assumption)))).mono ?_); rintro e w1 ⟨rfl, hb1⟩))
  go_ret2
  exact rests_err HRv.out rfl (by repeat' (with_reducible first | exact .refl _ | assumption | refine .drew ?_ | refine .drewN ?_ _ | refine .alloc ?_ _ | refine .put ?_ (by omega) _ | refine .trans ?_ (by assumption)))
end Go.Proofs.YtdhakoecjmaebaaGreat
