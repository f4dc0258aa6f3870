/-
 The reference of layer 39: Table returns the rows that the program's Table returns.
-/
import Derived.Test.YtdhakoecjmaebaaGreatZRHit
import Derived.Test.YtdhakoecjmaebaaGreatZAccA
import Derived.Test.YtdhakoecjmaebaaGreatZStepC
import Derived.Test.YtdhakoecjmaebaaGreatZSprR
import Derived.Test.YtdhakoecjmaebaaGreatZRefT
namespace Go.Proofs.YtdhakoecjmaebaaGreat
open Go.RowKit
set_option linter.unusedSimpArgs false
set_option linter.unusedVariables false
def b1 (x : Bool) : List Value := [.bool x]
theorem b1_len (x : Bool) : (b1 x).length = 1 := rfl
theorem b1_one (x : Bool) : ∀ u ∈ b1 x, u.oneCell' = true := by
 intro u hu
 rw [List.mem_singleton.1 hu]
 rfl
theorem slt_bools : SlT Tryz.prog 111 4 1 := SlT.mk (z := .bool false) (by_ := 1) Tryz.underlying111 (by kernel_rfl) (by omega) rfl (by omega)
theorem slt_table : SlT Tryz.prog 106 111 1 := SlT.mk (z := .slice none 0 0) (by_ := 24) Tryz.underlying106 (by kernel_rfl) (by omega) rfl (by omega)
structure BV where
 A : Option Addr
 c : Nat
 bs : List Bool
def BV.cells (v : BV) : List Value := [.slice v.A v.bs.length v.c]
theorem bv_len (v : BV) : v.cells.length = 1 := rfl
theorem bv_one (v : BV) : ∀ u ∈ v.cells, u.oneCell' = true := by
 intro u hu
 rw [List.mem_singleton.1 hu]
 rfl
def BvOk (w : World) (v : BV) : Prop := BoolsV w (.slice v.A v.bs.length v.c) v.bs
theorem BoolsV.grown {w w' : World} {row : Option Nat} {A : Option Addr} {n c : Nat} {bs : List Bool} (h : BoolsV w (.slice A n c) bs) (hg : w.grownBy w' row) (hf : Fence row w.heap.size A) : BoolsV w' (.slice A n c) bs := by
 obtain ⟨A', c', e, h1, h2⟩ := h
 cases e
 refine ⟨A, c, rfl, h1, fun hn => ?_⟩
 obtain ⟨b, o, e, hx⟩ := h2 hn
 obtain ⟨f1, f2⟩ := hf b o e
 exact ⟨b, o, e, fun i x hi => by rw [World.cell?_of_block (a := ⟨b, o + i, Option.none⟩) (hg.block b f2 f1)]; exact hx i x hi⟩
theorem OwnR.bools {w : World} {base : Nat} {A : Option Addr} {n c : Nat} {l : List Bool} (h : OwnR w base 4 1 b1 (.slice A n c) l) : n = l.length ∧ BoolsV w (.slice A n c) l ∧ (∀ b o, A = some ⟨b, o, none⟩ → base ≤ b ∧ b < w.heap.size) := by
 obtain ⟨A', c', e, h1, h2, h3⟩ := h.form b1_len
 cases e
 refine ⟨rfl, ⟨A, c, rfl, h1, fun hn => ?_⟩, fun b o e => ?_⟩
 ·obtain ⟨g, rfl, _, _, _, hx⟩ := h3 hn
  exact ⟨g, 0, rfl, fun i a ha => by have := hx i a ha 0 _ rfl; simpa using this⟩
 ·have := World.ownsRow.lt h b (by rw [e]; rfl)
  omega
theorem OwnR.table {w : World} {base : Nat} {v : Value} {l : List BV} (h : OwnR w base 111 1 BV.cells v l) (hok : ∀ p ∈ l, BvOk w p) : ∃ A c, v = .slice A l.length c ∧ l.length ≤ c ∧ Tab w A (l.map BV.bs) := by
 obtain ⟨A, c, e, h1, h2, h3⟩ := h.form bv_len
 refine ⟨A, c, e, h1, fun hn => ?_⟩
 obtain ⟨g, rfl, _, _, _, hx⟩ := h3 (by simpa using hn)
 refine ⟨g, 0, rfl, fun i r hr => ?_⟩
 rw [List.getElem?_map, Option.map_eq_some_iff] at hr
 obtain ⟨v, hv, rfl⟩ := hr
 have := hx i v hv 0 _ rfl
 rw [Nat.mul_one, Nat.add_zero] at this
 exact ⟨_, this, hok v (List.mem_of_getElem? hv)⟩
theorem tabRows_take {rs : List Rl} {polys : List (List Pt)} {ys : List Py} {k : Nat} (hk : k < ys.length) : tabRows rs polys (ys.take (k + 1)) = tabRows rs polys (ys.take k) ++ [polys.map fun q => (hitR ys[k].parts rs q).1] := by
 unfold tabRows
 rw [← List.take_append_getElem hk, List.map_append]
 rfl
theorem mapTake (f : List Pt → Bool) (polys : List (List Pt)) {i : Nat} (hi : i < polys.length) : (polys.take (i + 1)).map f = (polys.take i).map f ++ [f polys[i]] := by
 rw [← List.take_append_getElem hi, List.map_append]
 rfl
set_option maxHeartbeats 8000000 in
theorem ref39_Table_ok (P C Q S1 S2 : Option Addr) (pc cc qc n1 c1 n2 c2 : Nat) (l0 l1 l2 l3 : Int) (ys : List Py) (rs : List Rl) (polys : List (List Pt)) (w : World)
  (hy : Plys w P ys) (hrs : Rolls w C rs) (hps : Polys w Q polys) (hrl : rs.length ≤ 65536) (hparts : ∀ y ∈ ys, y.parts.length ≤ 65536) (hpl : PtsOk polys) (h40 : ys.length ≤ 40) (h60 : polys.length ≤ 60) :
  Calls Tryz.prog 44 #[.agg #[.int .i64 l0, .int .i64 l1, .int .i64 l2, .int .i64 l3, .slice S1 n1 c1, .slice S2 n2 c2, .slice P ys.length pc], .slice C rs.length cc, .slice Q polys.length qc] w
   (TabPost (tabErr rs polys ys) (tabRows rs polys ys) w) := by
 have d40 : decide ((40 : Int) < (ys.length : Int)) = false := by simp; omega
 have d60 : decide ((60 : Int) < (polys.length : Int)) = false := by simp; omega
 go_enter Tryz.func44, Tryz.ntmps44
 go_wp2
 refine name_world (fun W9 hW9 => ?_)
 have hl9 : Later w W9 := by rw [hW9]; exact (by repeat' (with_reducible first | exact .refl _ | assumption | refine .drew ?_ | refine .drewN ?_ _ | refine .alloc ?_ _ | refine .put ?_ (by omega) _ | refine .trans ?_ (by assumption)))
 have B6 : W9.cell? ⟨w.heap.size, 6, none⟩ = some (.slice P ys.length pc) := by rw [hW9]; simp [go_sem]
 clear hW9 d40 d60
 have hTw : w.heap.size < W9.heap.size := World.block_lt_of_cell? _ _ B6
 generalize hTe : w.heap.size = N at *
 have HN := Lib.hid hTe
 clear hTe
 go_loopw [8, 9] (fun ov iv wr => ∃ (k : Nat) (acc : List BV), k ≤ ys.length ∧ iv = .int .i64 k ∧ tabErr rs polys ys = tabErr rs polys (ys.drop k) ∧ OwnR wr W9.heap.size 111 1 BV.cells ov acc ∧ (∀ v ∈ acc, BvOk wr v ∧ Fence ov.ownBlock wr.heap.size v.A) ∧ acc.map BV.bs = tabRows rs polys (ys.take k) ∧ Later W9 wr) (fun _ iv _ => ys.length - (intOf iv).toNat)
 case atStart => exact ⟨0, [], by omega, rfl, rfl, World.ownsRow_nil _ _ _ _, fun v hv => by simp at hv, rfl, Later.refl _⟩
 case round =>
  obtain ⟨k, acc, hk, rfl, he, ho, hok, hac, hb⟩ := hrel
  have He := Lib.hid he
  clear he
  have hlw := hl9.trans hb
  have hacl : acc.length = k := by have := congrArg List.length hac; simp [tabRows] at this; omega
  have C6 := hb.cell B6
  by_cases hlt : k < ys.length
  ·obtain ⟨bb, ob, rfl, e1, e2, hoky⟩ := (hy.later hlw).at_ hlt
   have hokw : PyOk w ys[k] := by obtain ⟨_, _, _, _, _, h⟩ := hy.at_ hlt; exact h
   have Hd := Lib.hid (drop_cons' ys k hlt)
   have Htk := Lib.hid (tabRows_take (rs := rs) (polys := polys) hlt)
   have hpn := hparts _ (List.getElem_mem hlt)
   generalize ys[k] = y at *
   obtain ⟨lot, pa, pc', parts⟩ := y
   simp only [] at e1 e2 hpn
   obtain ⟨hpc, hpm, hqd, hqi⟩ := hokw
   simp only [] at hpc hpm hqd hqi
   clear hoky
   have hk0 : (0 : Int) ≤ (k : Int) := by omega
   have hk1 : (k : Int) < (ys.length : Int) := by omega
   have HH := Lib.hid (fun (A' : Option Addr) (c' : Nat) (ps : List Pt) (W : World) (h1 : ps.length ≤ 1099511627776) (h2 : ps.length ≤ c') (h3 : Pts W A' ps) (h4 : Qds W pa parts) (h5 : Rolls W C rs) => ref39_Hit A' pa C c' pc' cc lot parts rs ps W h1 h2 h3 hpn hpc h4 h5 hrl)
   have Ho := Lib.hid ho
   have Hok := Lib.hid hok
   have Hac := Lib.hid hac
   clear ho hok hac
   go_wp2
   obtain ⟨wo, rfl⟩ : ∃ wo : World, wo = wr := ⟨_, rfl⟩
   go_loopw [10, 11] (fun rv iv wq => ∃ i : Nat, i ≤ polys.length ∧ iv = .int .i64 i ∧ rowErr parts rs polys = rowErr parts rs (polys.drop i) ∧ OwnR wq wo.heap.size 4 1 b1 rv ((polys.take i).map fun q => (hitR parts rs q).1) ∧ Later wo wq) (fun _ iv _ => polys.length - (intOf iv).toNat)
   case atStart => exact ⟨0, by omega, rfl, rfl, World.ownsRow_nil _ _ _ _, Later.refl _⟩
   case round =>
    obtain ⟨i, hi, rfl, he, ho2, hb2⟩ := hrel
    have He2 := Lib.hid he
    have Ho2 := Lib.hid ho2
    clear he ho2
    have hl2 := hlw.trans hb2
    by_cases hli : i < polys.length
    ·obtain ⟨bq, oq, A', c', rfl, k1, k2, k3⟩ := (hps.later hl2).at_ hli
     have Hd2 := Lib.hid (drop_cons' polys i hli)
     have Hmt := Lib.hid (mapTake (fun q => (hitR parts rs q).1) polys hli)
     have hpn2 := hpl _ (List.getElem_mem hli)
     have hln : ((polys.take i).map fun q => (hitR parts rs q).1).length ≤ 60 := by simp; omega
     have Hln := Lib.hid hln
     clear hln
     generalize polys[i] = ps at *
     generalize ((polys.take i).map fun q => (hitR parts rs q).1) = acc2 at *
     have g6 := hb2.cell C6
     have g1 := hb2.cell e1
     have g2 := hb2.cell e2
     have hbz : bq < wr.heap.size := World.block_lt_of_cell? _ _ k1
     have hbb : bb < wr.heap.size := World.block_lt_of_cell? _ _ g1
     have hNz : N < wr.heap.size := World.block_lt_of_cell? _ _ g6
     have HH3 := Lib.hid (fun W (hW : Later wr W) => HH.out A' c' ps W hpn2 k2 (k3.later hW) (hqd.later (hl2.trans hW)) (hrs.later (hl2.trans hW)))
     have hi0 : (0 : Int) ≤ (i : Int) := by omega
     have hi1 : (i : Int) < (polys.length : Int) := by omega
     rcases h2 : hitR parts rs ps with ⟨hb0, he0⟩
     rw [h2] at HH3
     have H2 := Lib.hid h2
     clear h2
     rcases Classical.em (he0 = 0) with h0 | h0
     ·subst h0
      go_wp2
      go_region_held3 (fun w' : World => (∀ a : Addr, (wr.cell? a).isSome = true → w'.cell? a = wr.cell? a) ∧ Later wr w') (first | assumption | exact keep_call (by assumption) (by assumption) | exact keep_call (by assumption) ((Later.refl _).alloc _) | exact keep_init _)
       (first | (go_at_call 85; (with_reducible refine (HH3.out _ (by assumption : _ ∧ Later wr _).2).mono ?_); rintro e w5 ⟨rfl, hb4⟩))
      rename_i hHw
      have hb5 : Later wr w5 := hHw.2
      go_upto_region 14 with fail
      have HS := Lib.hid (SrcAt.blk (Blk.new w5 4 #[.bool hb0]))
      go_wp2_with (at_builtin; refine wpList_append_rec slt_bools b1_len b1_one rfl (.tmp 53) (.tmp 55) rfl (base := wo.heap.size) (l := acc2) rfl (OwnR.alloc (Ho2.out.later hb5) _) (A := some ⟨w5.heap.size, 0, none⟩) (c := 1) [hb0] rfl (by intro h; cases h) HS.out (by have := Hln.out; simp; omega) (by have := hb2.size; have := hb5.size; simp; omega) ?_; intro A3 c3' w3 ho3 hg3)
      have hl3 : Later wo w3 := Later.grown ((hb2.trans hb5).alloc _) hg3 (fun g hg => (World.ownsRow.lt Ho2.out g hg).1)
      clear hg3
      simp only [List.length_append, List.length_singleton] at ho3
      go_roundw
      case rel => exact ⟨i + 1, by omega, by go_num, by rw [He2.out, Hd2.out, row_good (by rw [H2.out])], by rw [Hmt.out]; simp only [H2.out]; exact ho3, hl3⟩
      case measure => simp [intOf]; omega
     ·have d0 : (he0 != 0) = true := by simpa using h0
      go_wp2
      go_region_held3 (fun w' : World => (∀ a : Addr, (wr.cell? a).isSome = true → w'.cell? a = wr.cell? a) ∧ Later wr w') (first | assumption | exact keep_call (by assumption) (by assumption) | exact keep_call (by assumption) ((Later.refl _).alloc _) | exact keep_init _)
       (first | (go_at_call 85; (with_reducible refine (HH3.out _ (by assumption : _ ∧ Later wr _).2).mono ?_); rintro e w5 ⟨rfl, hb4⟩))
      rename_i hHw
      have hb5 : Later wr w5 := hHw.2
      go_wp2
      go_ret2
      have hre : rowErr parts rs polys = he0 := by rw [He2.out, Hd2.out, row_bad (by rw [H2.out]; exact h0), H2.out]
      have hte : tabErr rs polys ys = he0 := by rw [He.out, Hd.out, tab_bad (by show rowErr parts rs polys ≠ 0; rw [hre]; exact h0)]; exact hre
      exact .inr ⟨by rw [hte]; exact h0, by rw [hte]; rfl, hl2.trans hb5⟩
    ·have hie : i = polys.length := by omega
     subst hie
     have H0 := Lib.hid (show rowErr parts rs polys = 0 by rw [He2.out, List.drop_eq_nil_of_le (by omega)]; rfl)
     rw [List.take_length] at Ho2
     have Hrw := Lib.hid (rfl : (polys.map fun q => (hitR parts rs q).1) = polys.map fun q => (hitR parts rs q).1)
     generalize hrow : (polys.map fun q => (hitR parts rs q).1) = row at Ho2 Htk
     obtain ⟨A7, c7, e7, _⟩ := Ho2.out.form b1_len
     subst e7
     obtain ⟨_, hbo, hbb⟩ := Ho2.out.bools
     have HS := Lib.hid (SrcAt.blk (Blk.new wr 111 #[.slice A7 row.length c7]))
     clear He2
     go_wp2_with (at_builtin; refine wpList_append_recf slt_table bv_len bv_one rfl (.tmp 57) (.tmp 59) rfl (base := W9.heap.size) (l := acc) rfl (OwnR.alloc (Ho.out.later hb2) _) (ad := ⟨wr.heap.size, 0, none⟩) (c := 1) [⟨A7, c7, row⟩] rfl HS.out (by simp; omega) (by have := hb.size; have := hb2.size; simp; omega) ?_; intro A5 c5' w5 ho5 hg5 hf5)
     have hl5 : Later W9 w5 := Later.grown ((hb.trans hb2).alloc _) hg5 (fun g hg => (World.ownsRow.lt Ho.out g hg).1)
     have hfr : Fence u8.ownBlock (wr.alloc (.cells #[.slice A7 row.length c7] 111)).heap.size A7 := by
      intro b' o' e'
      have := hbb b' o' e'
      refine ⟨fun q => ?_, by simp; omega⟩
      have := (World.ownsRow.lt Ho.out _ q.symm).2
      omega
     have hok5 : ∀ v ∈ acc ++ [(⟨A7, c7, row⟩ : BV)], BvOk w5 v ∧ Fence (Value.slice A5 (acc ++ [(⟨A7, c7, row⟩ : BV)]).length c5').ownBlock w5.heap.size v.A := by
      intro v hv
      rcases List.mem_append.1 hv with k | k
      ·obtain ⟨o1, o2⟩ := Hok.out v k
       have o3 := o2.mono (m := (wr.alloc (.cells #[.slice A7 row.length c7] 111)).heap.size) (by have := hb2.size; simp; omega)
       exact ⟨BoolsV.grown ((BoolsV.later o1 hb2).later ((Later.refl _).alloc _)) hg5 o3, o3.fresh hf5 (Nat.le_refl _) hg5.size⟩
      ·rw [List.mem_singleton.1 k]
       exact ⟨BoolsV.grown (hbo.later ((Later.refl _).alloc _)) hg5 hfr, hfr.fresh hf5 (Nat.le_refl _) hg5.size⟩
     have Hok5 := Lib.hid hok5
     have Ho5 := Lib.hid ho5
     clear hok5 ho5
     simp only [List.length_append, List.length_singleton, hacl] at Ho5 Hok5
     go_roundw
     case rel => exact ⟨k + 1, acc ++ [⟨A7, c7, row⟩], by omega, by go_num, by rw [He.out, Hd.out, tab_good H0.out], Ho5.out, Hok5.out, by rw [List.map_append, Hac.out, Htk.out]; rfl, hl5⟩
     case measure => simp [intOf]; omega
  ·have hke : k = ys.length := by omega
   have h0 : tabErr rs polys ys = 0 := by rw [He.out, List.drop_eq_nil_of_le (by omega)]; rfl
   have H0 := Lib.hid h0
   have Ho := Lib.hid ho
   clear h0 He ho
   obtain ⟨A6, c6, e6, p1, p2⟩ := Ho.out.table (fun p hp => (hok p hp).1)
   subst e6
   rw [hke, List.take_length] at hac
   rw [hac] at p2
   have Hp2 := Lib.hid p2
   have Hl := Lib.hid (show acc.length = (tabRows rs polys ys).length by rw [← hac, List.length_map])
   clear hac p2 hok
   go_wp2
   go_ret2
   exact .inl ⟨H0.out, A6, c6, by rw [← Hl.out]; rfl, by rw [← Hl.out]; exact p1, Hp2.out, hlw⟩
end Go.Proofs.YtdhakoecjmaebaaGreat
namespace Go.Proofs.YtdhakoecjmaebaaGreat
open Go.RowKit
set_option linter.unusedSimpArgs false
set_option linter.unusedVariables false
structure Like (rs rs' : List Rl) : Prop where
 len : rs'.length = rs.length
 wd : ∀ i, (grl rs' i).wd = (grl rs i).wd
 ln : ∀ i, (grl rs' i).ln = (grl rs i).ln
theorem Like.cloth {rs rs' : List Rl} (L : Like rs rs') (p : Qd) : clothB p rs' = clothB p rs := by unfold clothB; rw [L.len, L.ln]
theorem Like.part {rs rs' : List Rl} (L : Like rs rs') {len wd : Int} {polys : List (List Pt)} {lots : List Int} {lot : Int} {prev : Option Qd} {p : Qd} : partErr len wd polys rs' lots lot prev p = partErr len wd polys rs lots lot prev p := by
 unfold partErr; rw [L.cloth, L.wd]
theorem Like.go {rs rs' : List Rl} (L : Like rs rs') {len wd : Int} {polys : List (List Pt)} {lots : List Int} {lot : Int} : ∀ {l : List Qd} {prev : Option Qd}, plyGo len wd polys rs' lots lot prev l = plyGo len wd polys rs lots lot prev l := by
 intro l
 induction l with
 | nil => intro prev; cases prev <;> rfl
 | cons p l ih => intro prev; cases prev <;> rw [plyGo, plyGo, L.part, ih]
theorem Like.ply {rs rs' : List Rl} (L : Like rs rs') {len wd : Int} {polys : List (List Pt)} {lots : List Int} {y : Pl} : plyR len wd polys rs' lots y = plyR len wd polys rs lots y := L.go
theorem Like.check {rs rs' : List Rl} (L : Like rs rs') (hr : ∀ r ∈ rs', rollI r = 0) {len wd : Int} {polys : List (List Pt)} {lots : List Int} {ys : List Pl} (h : scheckR len wd polys rs lots ys = 0) : scheckR len wd polys rs' lots ys = 0 := by
 obtain ⟨a, b, c, d⟩ := scheck_iff.1 h
 refine scheck_iff.2 ⟨?_, b, fun y hy => by rw [L.ply]; exact c y hy, d⟩
 unfold chkClothR at a ⊢
 split at a
 ·rename_i h1; exact absurd a h1
 ·rename_i h1
  rw [if_neg h1]
  split at a
  ·rename_i h2; exact absurd a h2
  ·rename_i h2
   obtain ⟨r1, r2, r3⟩ := chkRolls_zero (by simpa using h2 : chkRollsR rs lots.length = 0)
   have : chkRollsR rs' lots.length = 0 := by
    unfold chkRollsR
    rw [if_neg (by rw [L.len]; omega), if_neg (by simpa using rolls_all.2 hr), if_neg (by rw [L.len]; omega)]
   rw [if_neg (by simpa using this)]
   exact a
theorem Like.tkn {rs rs' : List Rl} (L : Like rs rs') (ys : List Py) : tknA rs' ys = tknA rs ys := by unfold tknA tknQ wdOf; simp only [L.wd]
theorem Like.dblG {rs rs' : List Rl} (L : Like rs rs') : ∀ (l : List Qd) (p : Qd), dblGo rs' p l = dblGo rs p l := by
 intro l
 induction l with
 | nil => intro p; rfl
 | cons q l ih => intro p; rw [dblGo, dblGo, ih]; unfold wdOf; rw [L.wd]
theorem Like.dbl {rs rs' : List Rl} (L : Like rs rs') (ys : List Py) : dblA rs' ys = dblA rs ys := by
 unfold dblA
 congr 1
 refine List.map_congr_left fun y hy => ?_
 cases h : y.parts with
 | nil => rfl
 | cons p l => exact L.dblG l p
theorem Like.acc {rs rs' : List Rl} (L : Like rs rs') (hr : ∀ r ∈ rs', rollI r = 0) {len wd : Int} {polys : List (List Pt)} {lots : List Int} {ys : List Py} (h : (accR len wd polys rs lots ys).2 = 0) :
  accR len wd polys rs' lots ys = (balR rs' polys ys, 0) ∧ (balR rs' polys ys).t = (balR rs polys ys).t ∧ (balR rs' polys ys).w = (balR rs polys ys).w := by
 obtain ⟨h1, h2, h3⟩ := acc_zero h
 refine ⟨acc_of (L.check hr h2) h3, L.tkn ys, ?_⟩
 have a := hitA_both rs polys ys
 have b := hitA_both rs' polys ys
 unfold balR
 simp only [L.tkn, L.dbl]
 omega
theorem roll_more {r : Rl} (h : rollI r = 0) (h6 : r.fl.length ≤ 19) {A : Option Addr} {c : Nat} {f : Qd} (hf : flawBad r.ln r.wd f = false) : rollI (withFl r A c (r.fl ++ [f])) = 0 := by
 obtain ⟨hb, _, hg, _⟩ := roll_ok h
 unfold rollI
 rw [baseI_with, hb, if_neg (by simp), if_neg (show ¬ 20 < (withFl r A c (r.fl ++ [f])).fl.length by show ¬ 20 < (r.fl ++ [f]).length; simp; omega)]
 have : flawsBad (withFl r A c (r.fl ++ [f])).ln (withFl r A c (r.fl ++ [f])).wd (withFl r A c (r.fl ++ [f])).fl = false := flawsBad_all.2 fun q hq => by
  have hq : q ∈ r.fl ++ [f] := hq
  rcases List.mem_append.1 hq with hq | hq
  ·exact flawsBad_all.1 hg q hq
  ·rw [List.mem_singleton.1 hq]; exact hf
 rw [this]
 rfl
end Go.Proofs.YtdhakoecjmaebaaGreat
namespace Go.Proofs.YtdhakoecjmaebaaGreat
open Go.RowKit
set_option linter.unusedSimpArgs false
set_option linter.unusedVariables false
def wCond (x : Qd) (m i : Nat) (r : Rl) : Bool := decide (i = m) && decide (0 ≤ x.a) && decide (0 ≤ x.b) && decide (x.a < r.ln) && decide (x.b < r.wd)
def wfl (x : Qd) (m i : Nat) (r : Rl) : List Qd := if wCond x m i r = true then r.fl ++ [⟨x.a, x.b, 1, 1⟩] else r.fl
theorem wfl_yes {x : Qd} {m i : Nat} {r : Rl} (h : wCond x m i r = true) : wfl x m i r = r.fl ++ [⟨x.a, x.b, 1, 1⟩] := if_pos h
theorem wfl_no {x : Qd} {m i : Nat} {r : Rl} (h : wCond x m i r = false) : wfl x m i r = r.fl := if_neg (by simp [h])
theorem wfl_sub {x : Qd} {m i : Nat} {r : Rl} : ∀ f ∈ r.fl, f ∈ wfl x m i r := by
 intro f hf
 unfold wfl
 split
 ·exact List.mem_append_left _ hf
 ·exact hf
theorem wfl_ok {x : Qd} {m i : Nat} {r : Rl} (h : rollI r = 0) (h6 : r.fl.length ≤ 6) (A : Option Addr) (c : Nat) : rollI (withFl r A c (wfl x m i r)) = 0 := by
 by_cases hc : wCond x m i r = true
 ·rw [wfl_yes hc]
  refine roll_more h (by omega) ?_
  unfold wCond at hc
  simp only [Bool.and_eq_true, decide_eq_true_eq] at hc
  obtain ⟨⟨⟨⟨_, h1⟩, h2⟩, h3⟩, h4⟩ := hc
  unfold flawBad
  simp only [Bool.or_eq_false_iff, decide_eq_false_iff_not]
  omega
 ·rw [wfl_no (by simpa using hc)]
  exact rollI_with h (by omega) (fun q hq => hq)
structure ArR (B K : Nat) (rs : List Rl) (x : Qd) (m a b : Nat) (cv wv : Value) (ws : List Rl) (w : World) : Prop where
 cl : OwnR w B 100 7 Rl.cells cv ((rs.take a).map bare)
 wo : OwnR w B 100 7 Rl.cells wv ws
 ln : ws.length = b
 row : ∀ j (hj : j < ws.length) (hj' : j < rs.length), ∃ A c, ws[j] = withFl rs[j] A c (wfl x m j rs[j]) ∧ OwnR w B 48 4 qd4 (.slice A (wfl x m j rs[j]).length c) (wfl x m j rs[j]) ∧
  ∀ g, (Value.slice A (wfl x m j rs[j]).length c).ownBlock = some g → g < K
 ne : ∀ g, cv.ownBlock = some g → wv.ownBlock ≠ some g
section
variable {B K : Nat} {rs : List Rl} {x : Qd} {m a b : Nat} {cv wv : Value} {ws : List Rl} {w : World}
theorem ArR.later (h : ArR B K rs x m a b cv wv ws w) {w' : World} (k : Later w w') : ArR B K rs x m a b cv wv ws w' :=
 ⟨h.cl.later k, h.wo.later k, h.ln, fun j hj hj' => by obtain ⟨A, c, e, h1, h2⟩ := h.row j hj hj'; exact ⟨A, c, e, h1.later k, h2⟩, h.ne⟩
theorem ArR.mono (h : ArR B K rs x m a b cv wv ws w) {K' : Nat} (hk : K ≤ K') : ArR B K' rs x m a b cv wv ws w :=
 ⟨h.cl, h.wo, h.ln, fun j hj hj' => by obtain ⟨A, c, e, h1, h2⟩ := h.row j hj hj'; exact ⟨A, c, e, h1, fun g hg => by have := h2 g hg; omega⟩, h.ne⟩
theorem own_off {α : Type} {cells : α → List Value} {sz g : Nat} {w : World} {base : Nat} {E : TypeId} {v u : Value} {o : Nat} {l : List α} (h : OwnR w base E sz cells v l) (hb : v.ownBlock ≠ some g) : OwnR (w.setCell ⟨g, o, none⟩ u) base E sz cells v l :=
 h.ofBlk fun k hk => Below.heap_setCell w ⟨g, o, none⟩ u k (by intro e; subst e; exact hb hk)
theorem ArR.put (h : ArR B K rs x m a b cv wv ws w) {g o : Nat} {u : Value} {cs : Array Value} (h1 : cv.ownBlock ≠ some g) (h2 : wv.ownBlock ≠ some g) (h3 : Blk w g 100 cs) : ArR B K rs x m a b cv wv ws (w.setCell ⟨g, o, none⟩ u) :=
 ⟨own_off h.cl h1, own_off h.wo h2, h.ln, fun j hj hj' => by
  obtain ⟨A, c, e, k1, k2⟩ := h.row j hj hj'
  exact ⟨A, c, e, own_off k1 (fun he => own_ne k1 h3 (by decide) he.symm), k2⟩, h.ne⟩
theorem ArR.rolls (h : ArR B K rs x m a rs.length cv wv ws w) (hr : ∀ r ∈ rs, rollI r = 0) (h6 : ∀ r ∈ rs, r.fl.length ≤ 6) : ∀ r ∈ ws, rollI r = 0 := by
 intro r hm
 obtain ⟨j, hj, rfl⟩ := List.getElem_of_mem hm
 have hj' : j < rs.length := by have := h.ln; omega
 obtain ⟨A, c, e, _, _⟩ := h.row j hj hj'
 rw [e]
 exact wfl_ok (hr _ (List.getElem_mem hj')) (h6 _ (List.getElem_mem hj')) A c
theorem ArR.sub (h : ArR B K rs x m a rs.length cv wv ws w) : ∀ i (h1 : i < rs.length) (h2 : i < ws.length), ∀ f ∈ rs[i].fl, f ∈ ws[i].fl := by
 intro i h1 h2 f hf
 obtain ⟨A, c, e, _, _⟩ := h.row i h2 h1
 rw [e]
 exact wfl_sub f hf
end
section
attribute [local go_sem] ite_min ite_max
end
end Go.Proofs.YtdhakoecjmaebaaGreat
