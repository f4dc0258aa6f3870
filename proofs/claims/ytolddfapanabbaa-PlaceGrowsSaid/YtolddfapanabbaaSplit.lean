/-
  The walk of triangle.Split.
-/
import Derived.Test.YtolddfapanabbaaSplitB
import Derived.Laws.EntriesVeiled
import Derived.Deep.LoopGhost
namespace Go.Proofs.Ytolddfapanabbaa
open Go.RowKit
set_option linter.unusedSimpArgs false
set_option linter.unusedVariables false

theorem run_make_rows {P : Program} (t e : TypeId) (i : TypeInfo) (z : Value) (ht : P.underlying t = some (.slice e)) (hi : P.info? e = some i) (hz : i.zero = some z)
    (n : Nat) (hbytes : i.bytes * n ≤ 281474976710656) (h63 : n ≤ 9223372036854775807) (w : World) :
    (Instr.makeSlice t (.int .i64 (n : Int)) (.int .i64 (n : Int))).run P w = .ok (.slice (some ⟨w.heap.size, 0, none⟩) n n) (w.alloc (.cells (madeCells z.cells (n * i.size)) e)) := by
  have hb : (i.bytes : Int) * (n : Int) ≤ 281474976710656 := by
    have h : ((i.bytes * n : Nat) : Int) ≤ 281474976710656 := by omega
    rwa [Int.natCast_mul] at h
  have hr := run_make (P := P) w t e i z ht hi hz .i64 .i64 n n (by omega) (by omega) hb (by omega)
  simp only [Int.toNat_natCast] at hr
  exact hr

def SplitPost (r : Option (List (List Pt))) (w : World) (e : Ending) (w' : World) : Prop :=
  match r with
  | some ts => ∃ A c, e = .returned (.tuple #[.slice A ts.length c, .int .i64 0]) ∧ ts.length ≤ c ∧ Polys w' A ts ∧ Later w w'
  | none => e = .returned (.tuple #[.slice none 0 0, .int .i64 11]) ∧ Later w w'

theorem info_poly : (Try.prog.info? 25).map (fun i => (i.zero, i.size, i.bytes)) = some (some (.slice none 0 0), 1, 24) := by kernel_rfl
theorem new_one (w : World) (x : Value) (t : TypeId) : ∀ j u, ([x] : List Value)[j]? = some u → (w.alloc (.cells #[x] t)).cell? ((⟨w.heap.size, 0, none⟩ : Addr).add j) = some u := by
  intro j u hu
  have h := Blk.new w t #[x]
  rcases j with _ | j
  · simp at hu; subst hu; exact h.cell 0
  · simp at hu
set_option maxHeartbeats 4000000 in
set_option maxRecDepth 100000 in
theorem triangle_Split_ok (A : Option Addr) (c : Nat) (ps : List Pt) (w : World) (hcap : ps.length ≤ c) (hp : Pts w A ps) (hok : checkI ps = 0) (hne : 0 < (cornersOf ps).length)
    (hN0 : 0 < (normalOf ps).length) (hN : (normalOf ps).length ≤ 40) (hin : AllIn (normalOf ps)) :
    Calls Try.prog 47 #[.slice A ps.length c] w (SplitPost (splitOf ps) w) := by
  have HN := Lib.hid (polygon_Normal_ok A c ps w hcap hp hok hne)
  have HS := Lib.hid (show splitOf ps = splitGo (normalOf ps).length (normalOf ps) [] from rfl)
  generalize normalOf ps = L at *
  obtain ⟨i0, hi, hz0, hz1, hz2⟩ := info_parts info_spot
  have hmk := fun W => run_make_rows (P := Try.prog) 25 78 i0 _ Try.underlying25 hi hz0 L.length (by rw [hz2]; omega) (by omega) W
  rw [hz1] at hmk
  have hmz : (madeCells (Value.agg #[Value.int IntKind.i64 0, Value.int IntKind.i64 0]).cells (L.length * 2)).size = L.length * 2 := by simp [madeCells]
  generalize madeCells (Value.agg #[Value.int IntKind.i64 0, Value.int IntKind.i64 0]).cells (L.length * 2) = Z at *
  go_enter Try.func47, Try.ntmps47
  go_upto_region 5 with (first | (go_at_call 78; refine HN.out.mono ?_; rintro e w1 ⟨A1, c1, rfl, q1, q2, q3, hb1⟩))
  refine name_world (fun W hW => ?_)
  obtain ⟨b1, o1, rfl, hat1⟩ := q3 hN0
  have hlW : Later w W := by rw [hW]; exact (by repeat' (first | exact Later.refl _ | assumption | refine Later.drew ?_ | refine Later.drewN ?_ _ | refine Later.alloc ?_ _ | refine Later.put ?_ (by omega) _ | refine Later.trans ?_ (by assumption)))
  have hl1W : Later w1 W := by rw [hW]; exact (by repeat' (first | exact Later.refl _ | assumption | refine Later.drew ?_ | refine Later.drewN ?_ _ | refine Later.alloc ?_ _ | refine Later.put ?_ (by omega) _ | refine Later.trans ?_ (by assumption)))
  have hrow : W.heap[w1.heap.size]? = some (.cells Z 78 (0, 0)) := by rw [hW]; exact (Blk.new w1 78 Z).alloc _
  have hvar : Blk W (w1.heap.size + 1) 25 #[.slice (some ⟨w1.heap.size, 0, none⟩) L.length L.length] := by rw [hW]; exact Blk.new1 _ _ _ _
  have hv0 : W.cell? ⟨w1.heap.size + 1, 0, none⟩ = some (.slice (some ⟨w1.heap.size, 0, none⟩) L.length L.length) := hvar.cell 0
  have hz1' : w.heap.size ≤ w1.heap.size := hb1.size
  clear hW hmk
  have hcp := run_copy_rowN (P := Try.prog) W 25 25 3 78 2 w1.heap.size 0 L.length L.length ⟨b1, o1, none⟩ L.length c1 Z 78 (flat L) Try.underlying25 (by rw [hi]; simp [hz1]) hrow (by rw [flat_length]; simp) (src_cells (A := some ⟨b1, o1, none⟩) (l := L) (fun _ => ⟨b1, o1, rfl, hat1.later hl1W⟩) _ rfl) (by rw [flat_length, hmz]; omega) (flat_one L)
  have hown2 : Own (W.setRow w1.heap.size (Z.toList.take 0 ++ flat L ++ Z.toList.drop (0 + (flat L).length)).toArray) w.heap.size (.slice (some ⟨w1.heap.size, 0, none⟩) L.length L.length) L := by
    refine ⟨flat_length L, .inr ⟨w1.heap.size, L.length, _, rfl, hz1', setRow_heap W w1.heap.size Z _ 78 _ hrow, Nat.le_refl _, by unfold maxLen; omega, ?_, ?_⟩⟩
    · simp [flat_length, hmz]
    · rw [List.take_zero, List.nil_append]
      exact List.take_left' (flat_length L)
  have hvar2 : Blk (W.setRow w1.heap.size (Z.toList.take 0 ++ flat L ++ Z.toList.drop (0 + (flat L).length)).toArray) (w1.heap.size + 1) 25 #[.slice (some ⟨w1.heap.size, 0, none⟩) L.length L.length] := (setRow_other W w1.heap.size (w1.heap.size + 1) _ (by omega)).trans hvar
  have hlw2 : Later w (W.setRow w1.heap.size (Z.toList.take 0 ++ flat L ++ Z.toList.drop (0 + (flat L).length)).toArray) := hlW.setRow hz1' _
  generalize W.setRow w1.heap.size (Z.toList.take 0 ++ flat L ++ Z.toList.drop (0 + (flat L).length)).toArray = W2 at *
  have Hcp := Lib.hid hcp
  clear hcp hvar hrow hmz
  go_upto_region 9 with (refine wpList_copy_run (o := ⟨some 28, _, _, _, _, _⟩) _ rfl (.tmp 26) (.tmp 27) 25 25 rfl _ _ rfl rfl _ _ Hcp.out ?_)
  refine name_world (fun W3 hW3 => ?_)
  have hl3 : Later W2 W3 := by rw [hW3]; exact (by repeat' (first | exact Later.refl _ | assumption | refine Later.drew ?_ | refine Later.drewN ?_ _ | refine Later.alloc ?_ _ | refine Later.put ?_ (by omega) _ | refine Later.trans ?_ (by assumption)))
  have hown3 := hown2.later hl3
  have hvar3 := hvar2.later hl3
  have hcor3 : VarCorner W3 W2.heap.size (w1.heap.size + 1) := by rw [hW3]; exact (Blk.new W2 120 _).cell 0
  have hlw3 : Later w W3 := hlw2.trans hl3
  have hB3 : w1.heap.size + 1 < W3.heap.size := hvar3.lt
  have hC3 : W2.heap.size < W3.heap.size := World.block_lt_of_cell? _ _ hcor3
  have hBC : w1.heap.size + 1 < W2.heap.size := hvar2.lt
  clear hW3 hl3 hown2 hvar2 hlw2 Hcp hlW hl1W hv0 hat1 q1 q2 q3 hb1 HN
  go_wp2
  go_loopg [10] L.length (fun k v wr => ∃ (f : Nat) (l : List Pt) (acc : List (List Pt)) (vs : List Value), l.length = k ∧ splitOf ps = splitGo f l acc ∧ l.length ≤ f + 3 ∧ l.length ≤ L.length ∧ 0 < l.length ∧ AllIn l ∧ acc.length + l.length ≤ 40 ∧
      wr.ownsRow W3.heap.size 25 1 v vs.length vs ∧ TriVs wr W3.heap.size vs acc ∧ vs.length = acc.length ∧ Blk wr (w1.heap.size + 1) 25 #[.slice (some ⟨w1.heap.size, 0, none⟩) l.length L.length] ∧
      Own wr w.heap.size (.slice (some ⟨w1.heap.size, 0, none⟩) l.length L.length) l ∧ VarCorner wr W2.heap.size (w1.heap.size + 1) ∧ Later w wr ∧ W3.heap.size ≤ wr.heap.size)
  case atStart => exact ⟨L.length, L, [], [], rfl, HS.out, by omega, by omega, hN0, hin, by simpa using hN, World.ownsRow_nil _ _ _ _, trivial, rfl, hvar3, hown3, hcor3, hlw3, Nat.le_refl _⟩
  case round =>
    clear hown3 hvar3 hcor3 hlw3 hin
    obtain ⟨f, l, acc, vs, rfl, he, hf, hlL, hl0, hin, hal, hrw, htri, hvl, hvar, hown, hcor, hlw, hsz⟩ := hrel
    have hv0 : wr.cell? ⟨w1.heap.size + 1, 0, none⟩ = some (.slice (some ⟨w1.heap.size, 0, none⟩) l.length L.length) := hvar.cell 0
    have He := Lib.hid he
    have Hrw := Lib.hid hrw
    have Htri := Lib.hid htri
    have Hvl := Lib.hid hvl
    clear he hrw htri hvl
    by_cases h3 : l.length ≤ 3
    · have hsp : splitOf ps = some (acc ++ [l]) := by rw [He.out]; exact split_small h3
      have Hsp := Lib.hid hsp
      clear hsp
      obtain ⟨i1, hi1, hy0, hy1, hy2⟩ := info_parts info_poly
      have a63 : vs.length + 1 ≤ maxLen := by have := Hvl.out; unfold maxLen; omega
      have a47 : (vs.length + 1) * 24 ≤ 140737488355328 := by have := Hvl.out; omega
      have Hnw := Lib.hid (new_one wr (.slice (some ⟨w1.heap.size, 0, none⟩) l.length L.length) 25)
      have hl3 : ¬ (3 : Int) < (l.length : Int) := by omega
      go_wp2_with (at_builtin; refine wpList_append_own _ rfl (.tmp 74) (.tmp 76) 28 rfl W3.heap.size 25 i1 (.slice none 0 0) 1 24 Try.underlying28 hi1 hy0 hy1 hy2 rfl (by decide) _ vs.length vs rfl (World.ownsRow.alloc Hrw.out _) ⟨wr.heap.size, 0, none⟩ 1 1 [.slice (some ⟨w1.heap.size, 0, none⟩) l.length L.length] rfl rfl Hnw.out (by intro u hu; simp at hu; subst hu; rfl) a63 a47 (Nat.le_trans hsz (by simp)) ?_; intro v' w5 hown5 hgr5 _)
      go_ret2
      have hgr : (wr.alloc (.cells #[.slice (some ⟨w1.heap.size, 0, none⟩) l.length L.length] 25)).grownBy w5 u10.ownBlock := hgr5
      clear hgr5
      have hob := World.ownsRow.lt Hrw.out
      have hnB : some w1.heap.size ≠ u10.ownBlock := fun e => by have := (hob _ e.symm).1; omega
      have ht5 := (Htri.out.later ((Later.refl _).alloc _)).grown hgr (fun g cs hb => own_ne (World.ownsRow.alloc Hrw.out _) hb (by decide))
      have hp5 := (((hown.later ((Later.refl _).alloc _)).grown hgr hnB).poly)
      obtain ⟨A9, c9, e9, hc9, hP9⟩ := polys_of_owns hown5 (ht5.polys.snoc hp5) (by have := Hvl.out; simp; omega) (by omega)
      have hl5 : Later w w5 := Below.grown (hlw.alloc _) hgr (hlw.alloc _).size (fun g hg => by have := (hob _ hg).1; omega)
      rw [Hsp.out]
      exact ⟨A9, c9, by rw [← e9]; rfl, hc9, hP9, hl5⟩
    · have hg3 : (3 : Int) < (l.length : Int) := by omega
      have hvp : VarPts wr (w1.heap.size + 1) l := ⟨w1.heap.size, L.length, hv0, hlL, hown.at0 hl0⟩
      have hsm : AllSm l := fun j => out_sm (hin j)
      have Hfs := Lib.hid (show ∀ i W, i < l.length → Later wr W → Calls Try.prog 80 #[.int .i64 (i : Nat), .pointer (some ⟨W2.heap.size, 0, none⟩)] W (Ret (.bool (decide (bendI l i = 0))) W) from
        fun i W hi hW => split_straight W2.heap.size (w1.heap.size + 1) i l W (by omega) hi (hvp.later hW) (hW.cell hcor) hsm)
      have hF1 := triangle_first_straight l.length W2.heap.size (fun i => decide (bendI l i = 0)) wr (by omega) Hfs
      rw [show firstGo (fun i => decide (bendI l i = 0)) l.length 0 = straightAt l from rfl] at hF1
      have HF1 := Lib.hid hF1
      clear hF1 Hfs
      rcases straight_bd l with hst | ⟨j, hj, hst⟩
      · rw [hst] at HF1
        have Hst := Lib.hid hst
        clear hst
        have Hff := Lib.hid (show ∀ i W, i < l.length → Later wr W → Calls Try.prog 82 #[.int .i64 (i : Nat), .pointer (some ⟨W2.heap.size, 0, none⟩), .pointer (some ⟨w1.heap.size + 1, 0, none⟩)] W (Ret (.bool (freeB l i)) W) from
          fun i W hi hW => split_free W2.heap.size (w1.heap.size + 1) i l W (by omega) hi (hvp.later hW) (hW.cell hcor) hin)
        have HF2 := Lib.hid (show ∀ W, Later wr W → Calls Try.prog 84 #[.int .i64 l.length, .func (.func 82) #[] #[.pointer (some ⟨W2.heap.size, 0, none⟩), .pointer (some ⟨w1.heap.size + 1, 0, none⟩)]] W (Ret (.int .i64 (freeAt l)) W) from
          fun W hW => triangle_first_free l.length W2.heap.size (w1.heap.size + 1) (freeB l) W (by omega) (Lib.hid (fun i W' hi hW' => Hff.out i W' hi (hW.trans hW'))))
        clear Hff
        rcases free_bd l with hfr | ⟨j, hj, hfr, _⟩
        · have hsp := split_none (acc := acc) h3 hf Hst.out hfr
          rw [hfr] at HF2
          have Hsp := Lib.hid hsp
          clear hsp hfr
          go_upto_region 13 with (first | (go_at_call 84; refine HF1.out.mono ?_; rintro e w3 ⟨rfl, hb3⟩; have hv3 := hb3.cell hv0))
          go_wp2_with (first | (go_at_call 84; refine (HF2.out _ hb3).mono ?_; rintro e w5 ⟨rfl, hb5⟩))
          go_ret2
          rw [He.out, Hsp.out]
          exact ⟨rfl, (by repeat' (first | exact Later.refl _ | assumption | refine Later.drew ?_ | refine Later.drewN ?_ _ | refine Later.alloc ?_ _ | refine Later.put ?_ (by omega) _ | refine Later.trans ?_ (by assumption)))⟩
        · obtain ⟨f', hf', hsp⟩ := split_free_step (acc := acc) h3 hf Hst.out hfr
          rw [hfr] at HF2
          have Hf' := Lib.hid hf'
          have Hsp := Lib.hid hsp
          clear hf' hsp hfr
          obtain ⟨i1, hi1, hy0, hy1, hy2⟩ := info_parts info_poly
          have a63 : vs.length + 1 ≤ maxLen := by have := Hvl.out; unfold maxLen; omega
          have a47 : (vs.length + 1) * 24 ≤ 140737488355328 := by have := Hvl.out; omega
          go_upto_region 13 with (first | (go_at_call 84; refine HF1.out.mono ?_; rintro e w3 ⟨rfl, hb3⟩; have hv3 := hb3.cell hv0))
          go_upto_region 16 with (first | (go_at_call 84; refine (HF2.out _ hb3).mono ?_; rintro e w5 ⟨rfl, hb5⟩; have hv5 := hb5.cell hv3))
          have hL5 := hb3.trans hb5
          have hcor5 : w5.cell? ⟨W2.heap.size, 0, none⟩ = some (.func (.func 79) #[] #[.pointer (some ⟨w1.heap.size + 1, 0, none⟩)]) := hL5.cell hcor
          have Hcn := Lib.hid (split_corner (w1.heap.size + 1) j l w5 (by omega) hj (hvp.later hL5))
          generalize hpa : gp l ((j + l.length - 1) % l.length) = a at *
          generalize hpb : gp l j = b at *
          generalize hpc : gp l ((j + 1) % l.length) = cc at *
          have htri : triOf l j = [a, b, cc] := by rw [triOf, hpa, hpb, hpc]
          have Htr := Lib.hid htri
          clear htri hpa hpb hpc
          go_upto_region 17 with (first | (go_at_call 79; refine Hcn.out.mono ?_; rintro e w6 ⟨rfl, hb6⟩))
          refine name_world (fun W7 hW7 => ?_)
          have x1 : W7.cell? ⟨w6.heap.size, 0, none⟩ = some (.int .i64 a.x) := by rw [hW7]; simp [go_sem]
          have x2 : W7.cell? ⟨w6.heap.size, 1, none⟩ = some (.int .i64 a.y) := by rw [hW7]; simp [go_sem]
          have x3 : W7.cell? ⟨w6.heap.size + 1, 0, none⟩ = some (.int .i64 b.x) := by rw [hW7]; simp [go_sem]
          have x4 : W7.cell? ⟨w6.heap.size + 1, 1, none⟩ = some (.int .i64 b.y) := by rw [hW7]; simp [go_sem]
          have x5 : W7.cell? ⟨w6.heap.size + 1 + 1, 0, none⟩ = some (.int .i64 cc.x) := by rw [hW7]; simp [go_sem]
          have x6 : W7.cell? ⟨w6.heap.size + 1 + 1, 1, none⟩ = some (.int .i64 cc.y) := by rw [hW7]; simp [go_sem]
          have hL7 : Later wr W7 := by rw [hW7]; exact (by repeat' (first | exact Later.refl _ | assumption | refine Later.drew ?_ | refine Later.drewN ?_ _ | refine Later.alloc ?_ _ | refine Later.put ?_ (by omega) _ | refine Later.trans ?_ (by assumption)))
          clear hW7
          have hsz7 : W3.heap.size ≤ W7.heap.size := Nat.le_trans hsz hL7.size
          obtain ⟨six, hsix⟩ : ∃ six : Obj, six = .cells #[.int .i64 a.x, .int .i64 a.y, .int .i64 b.x, .int .i64 b.y, .int .i64 cc.x, .int .i64 cc.y] 78 := ⟨_, rfl⟩
          have hL8 : Later wr ((W7.alloc (.cells #[.int .i64 a.x, .int .i64 a.y, .int .i64 b.x, .int .i64 b.y, .int .i64 cc.x, .int .i64 cc.y] 78)).alloc (.cells #[.slice (some ⟨W7.heap.size, 0, none⟩) 3 3] 25)) := (hL7.alloc _).alloc _
          have hrw8 := owns_later Hrw.out hL8
          have hnw := new_one (W7.alloc (.cells #[.int .i64 a.x, .int .i64 a.y, .int .i64 b.x, .int .i64 b.y, .int .i64 cc.x, .int .i64 cc.y] 78)) (.slice (some ⟨W7.heap.size, 0, none⟩) 3 3) 25
          rw [World.size_alloc] at hnw
          have Hnw := Lib.hid hnw
          have Hrw8 := Lib.hid hrw8
          clear hnw hrw8 hsix
          go_upto_region 18 with (at_builtin; refine wpList_append_own _ rfl (.tmp 54) (.tmp 59) 28 rfl W3.heap.size 25 i1 (.slice none 0 0) 1 24 Try.underlying28 hi1 hy0 hy1 hy2 rfl (by decide) _ vs.length vs rfl Hrw8.out ⟨W7.heap.size + 1, 0, none⟩ 1 1 [.slice (some ⟨W7.heap.size, 0, none⟩) 3 3] rfl rfl Hnw.out (by intro u hu; simp at hu; subst hu; rfl) a63 a47 (Nat.le_trans hsz hL8.size) ?_; intro v' w4 hown' hgrow _)
          have hgr : ((W7.alloc (.cells #[.int .i64 a.x, .int .i64 a.y, .int .i64 b.x, .int .i64 b.y, .int .i64 cc.x, .int .i64 cc.y] 78)).alloc (.cells #[.slice (some ⟨W7.heap.size, 0, none⟩) 3 3] 25)).grownBy w4 u10.ownBlock := hgrow
          clear hgrow
          have hob := World.ownsRow.lt Hrw.out
          have hnB : some w1.heap.size ≠ u10.ownBlock := fun e => by have := (hob _ e.symm).1; omega
          have hnL : some (w1.heap.size + 1) ≠ u10.ownBlock := fun e => by have := (hob _ e.symm).1; omega
          have hnC : some W2.heap.size ≠ u10.ownBlock := fun e => by have := (hob _ e.symm).1; omega
          have hown4 := (hown.later hL8).grown hgr hnB
          have hvar4 : Blk w4 (w1.heap.size + 1) 25 #[.slice (some ⟨w1.heap.size, 0, none⟩) l.length L.length] := (hgr.block _ (hvar.later hL8).lt hnL).trans (hvar.later hL8)
          have hcor4 : VarCorner w4.drew W2.heap.size (w1.heap.size + 1) := grown_cell (grown_drew hgr) hnC (hL8.cell hcor)
          have htri4 : TriVs w4.drew W3.heap.size (vs ++ [Value.slice (some ⟨W7.heap.size, 0, none⟩) 3 3]) (acc ++ [triOf l j]) :=
            ((Htri.out.later hL8).snoc ⟨W7.heap.size, a, b, cc, Htr.out, rfl, hsz7, (Blk.new _ _ _).alloc _⟩).grown (grown_drew hgr) (fun g cs hb => own_ne Hrw8.out hb (by decide))
          have hrw4 : w4.drew.ownsRow W3.heap.size 25 1 v' (vs ++ [Value.slice (some ⟨W7.heap.size, 0, none⟩) 3 3]).length (vs ++ [Value.slice (some ⟨W7.heap.size, 0, none⟩) 3 3]) := by rw [List.length_append]; exact hown'
          have hvl4 : (vs ++ [Value.slice (some ⟨W7.heap.size, 0, none⟩) 3 3]).length = (acc ++ [triOf l j]).length := by have := Hvl.out; simp; omega
          have hW4 : Later w w4 := Below.grown (hlw.trans hL8) hgr (hlw.trans hL8).size (fun g hg => by have := (hob _ hg).1; omega)
          have hz4 : W3.heap.size ≤ w4.heap.size := Nat.le_trans (Nat.le_trans hsz hL8.size) hgr.size
          have hv4 : w4.cell? ⟨w1.heap.size + 1, 0, none⟩ = some (.slice (some ⟨w1.heap.size, 0, none⟩) l.length L.length) := hvar4.cell 0
          clear hown' hgr hob hnB hnL hnC hL8 hL7 x1 x2 x3 x4 x5 x6 hb3 hb5 hb6 hv3 hv5 hcor5 hL5 Hcn Hrw8 Hnw HF1 HF2
          obtain ⟨cur, hg4, hbB, hlN, hNm, hcs, htk⟩ := hown4.row
          have ho4 := Own.erase hj (show w4.drew.heap[w1.heap.size]? = _ from hg4) hbB hlN hNm hcs htk
          have hp4 : PtsAt w4.drew w1.heap.size 0 l := hown4.at0 hl0
          have hw1 : IntKind.i64.wrap ((j : Int) + 1) = (j : Int) + 1 := IntWalk.i64_in _ (by omega)
          have j1 : (0 : Int) ≤ (j : Int) ∧ (j : Int) ≤ (l.length : Int) := by omega
          have j2 : (0 : Int) ≤ (j : Int) + 1 ∧ (j : Int) + 1 ≤ (l.length : Int) := by omega
          have j3 : (l.length : Int) ≤ (L.length : Int) := by omega
          have j4 : ¬ L.length = j := by omega
          have j5 : ((j : Int) + 1).toNat = j + 1 := by omega
          have hfit : j * 2 + (flat (l.drop (j + 1))).length ≤ cur.size := by rw [flat_length, List.length_drop, hcs]; omega
          have hsrc : ∀ SA : Addr, (SA = ⟨w1.heap.size, (j + 1) * 2, none⟩ ∨ l.length = j + 1) → ∀ i u, (flat (l.drop (j + 1)))[i]? = some u → w4.drew.cell? (SA.add i) = some u := by
            intro SA h i u hu
            rcases h with rfl | h
            · exact drop_cells hp4 i u hu
            · rw [List.drop_eq_nil_of_le (by omega)] at hu; simp [flat] at hu
          have hrun : ∀ SA : Addr, (SA = ⟨w1.heap.size, (j + 1) * 2, none⟩ ∨ l.length = j + 1) → (Builtin.copy_ #[25, 25] 3 #[.slice (some ⟨w1.heap.size, j * 2, none⟩) (l.length - j) (L.length - j), .slice (some SA) (l.length - (j + 1)) (L.length - (j + 1))]).run Try.prog w4.drew =
              .ok (goInt (Nat.min (l.length - (j + 1)) (l.length - j))) (w4.drew.setRow w1.heap.size (cur.toList.take (j * 2) ++ flat (l.drop (j + 1)) ++ cur.toList.drop (j * 2 + (flat (l.drop (j + 1))).length)).toArray) := fun SA h =>
            run_copy_rowN (P := Try.prog) w4.drew 25 25 3 78 2 w1.heap.size (j * 2) (l.length - j) (L.length - j) SA (l.length - (j + 1)) (L.length - (j + 1)) cur 78 (flat (l.drop (j + 1))) Try.underlying25 (by rw [hi]; simp [hz1]) hg4 (drop_len hj) (hsrc SA h) hfit (flat_one _)
          have hcut := fun u => Cut.mk' w4.drew w1.heap.size (w1.heap.size + 1) 0 (cur.toList.take (j * 2) ++ flat (l.drop (j + 1)) ++ cur.toList.drop (j * 2 + (flat (l.drop (j + 1))).length)).toArray u
          have hv5 : Blk (w4.drew.setRow w1.heap.size (cur.toList.take (j * 2) ++ flat (l.drop (j + 1)) ++ cur.toList.drop (j * 2 + (flat (l.drop (j + 1))).length)).toArray) (w1.heap.size + 1) 25 #[.slice (some ⟨w1.heap.size, 0, none⟩) l.length L.length] := (setRow_other w4.drew w1.heap.size (w1.heap.size + 1) _ (by omega)).trans hvar4.drew
          have hl5 : Later w (w4.drew.setRow w1.heap.size (cur.toList.take (j * 2) ++ flat (l.drop (j + 1)) ++ cur.toList.drop (j * 2 + (flat (l.drop (j + 1))).length)).toArray) := hW4.drew.setRow hbB _
          have hz5 : W3.heap.size ≤ (w4.drew.setRow w1.heap.size (cur.toList.take (j * 2) ++ flat (l.drop (j + 1)) ++ cur.toList.drop (j * 2 + (flat (l.drop (j + 1))).length)).toArray).heap.size := by
            simp [World.setRow]; omega
          generalize w4.drew.setRow w1.heap.size (cur.toList.take (j * 2) ++ flat (l.drop (j + 1)) ++ cur.toList.drop (j * 2 + (flat (l.drop (j + 1))).length)).toArray = W5 at *
          have c5 : W5.cell? ⟨w1.heap.size + 1, 0, none⟩ = some (.slice (some ⟨w1.heap.size, 0, none⟩) l.length L.length) := hv5.cell 0
          have f5 := hv5.frozen 0
          have hrw5 := fun u => (hcut u).owns (base := W3.heap.size) (by omega) (by omega) hrw4
          have htr5 := fun u => (hcut u).tris (base := W3.heap.size) (by omega) (by omega) htri4
          have hco5 := fun u => (hcut u).cell (g := W2.heap.size) (o := 0) (by omega) (by omega) hcor4
          have Hrun := Lib.hid hrun
          have Hrw5 := Lib.hid hrw5
          have Htr5 := Lib.hid htr5
          have Hco5 := Lib.hid hco5
          have hel : (l.eraseIdx j).length = l.length - 1 := by rw [List.length_eraseIdx, if_pos hj]
          have Hel := Lib.hid hel
          have Hvl4 := Lib.hid hvl4
          clear hrun hrw5 htr5 hco5 hcut hsrc hfit hel hrw4 htri4 hvl4 hp4 hcs htk hg4
          have j6 : (0 : Int) ≤ (l.length : Int) - 1 ∧ (l.length : Int) - 1 ≤ (L.length : Int) := by omega
          have j7 : ((l.length : Int) - 1).toNat = l.length - 1 := by omega
          by_cases hq : L.length = j + 1
          · go_region_held3 (fun w' : World => w'.cell? ⟨w1.heap.size + 1, 0, none⟩ = some (.slice (some ⟨w1.heap.size, 0, none⟩) l.length L.length)) (first | assumption | exact (Later.refl _).drew.cell hv4)
              (first | (refine step_copy_run (o := ⟨some 68, _, _, _, _, _⟩) _ rfl (.tmp 63) (.tmp 67) 25 25 rfl _ _ rfl rfl _ _ (Hrun.out _ (.inr (by omega))) ?_))
            have Hq := Lib.hid hq
            clear hq
            go_wp2
            go_roundg (l.length - 1)
            case measure => omega
            case rel => exact ⟨f', l.eraseIdx j, acc ++ [triOf l j], vs ++ [Value.slice (some ⟨W7.heap.size, 0, none⟩) 3 3], Hel.out, by rw [He.out, Hsp.out], by rw [Hel.out]; have := Hf'.out; omega, by rw [Hel.out]; omega, by rw [Hel.out]; omega, gp_erase hin, by rw [Hel.out]; first | omega | (simp; omega), Hrw5.out _, Htr5.out _, Hvl4.out, by rw [Hel.out]; exact hv5.set_ 0 _, by rw [Hel.out]; exact ho4.far (by omega), Hco5.out _, hl5.put (by omega) _, by simpa [World.setCell] using hz5⟩
          · go_region_held3 (fun w' : World => w'.cell? ⟨w1.heap.size + 1, 0, none⟩ = some (.slice (some ⟨w1.heap.size, 0, none⟩) l.length L.length)) (first | assumption | exact (Later.refl _).drew.cell hv4)
              (first | (refine step_copy_run (o := ⟨some 68, _, _, _, _, _⟩) _ rfl (.tmp 63) (.tmp 67) 25 25 rfl _ _ rfl rfl _ _ (Hrun.out _ (.inl rfl)) ?_))
            go_wp2
            go_roundg (l.length - 1)
            case measure => omega
            case rel => exact ⟨f', l.eraseIdx j, acc ++ [triOf l j], vs ++ [Value.slice (some ⟨W7.heap.size, 0, none⟩) 3 3], Hel.out, by rw [He.out, Hsp.out], by rw [Hel.out]; have := Hf'.out; omega, by rw [Hel.out]; omega, by rw [Hel.out]; omega, gp_erase hin, by rw [Hel.out]; first | omega | (simp; omega), Hrw5.out _, Htr5.out _, Hvl4.out, by rw [Hel.out]; exact hv5.set_ 0 _, by rw [Hel.out]; exact ho4.far (by omega), Hco5.out _, hl5.put (by omega) _, by simpa [World.setCell] using hz5⟩
      · obtain ⟨f', hf', hsp⟩ := split_straight_step (acc := acc) h3 hf hst
        rw [hst] at HF1
        have Hst := Lib.hid hst
        have Hf' := Lib.hid hf'
        have Hsp := Lib.hid hsp
        clear hst hf' hsp
        go_upto_region 18 with (first | (go_at_call 84; refine HF1.out.mono ?_; rintro e w4 ⟨rfl, hb4⟩; have hv4 := hb4.cell hv0))
        have hrw4 := owns_later Hrw.out hb4.drew
        have htri4 := Htri.out.later hb4.drew
        have hvl4 := Hvl.out
        have hW4 : Later w w4 := hlw.trans hb4
        have hown4 := hown.later hb4
        have hvar4 := hvar.later hb4
        have hcor4 : VarCorner w4.drew W2.heap.size (w1.heap.size + 1) := hb4.drew.cell hcor
        have hz4 : W3.heap.size ≤ w4.heap.size := Nat.le_trans hsz hb4.size
        obtain ⟨cur, hg4, hbB, hlN, hNm, hcs, htk⟩ := hown4.row
        have ho4 := Own.erase hj (show w4.drew.heap[w1.heap.size]? = _ from hg4) hbB hlN hNm hcs htk
        have hp4 : PtsAt w4.drew w1.heap.size 0 l := hown4.at0 hl0
        have hw1 : IntKind.i64.wrap ((j : Int) + 1) = (j : Int) + 1 := IntWalk.i64_in _ (by omega)
        have j1 : (0 : Int) ≤ (j : Int) ∧ (j : Int) ≤ (l.length : Int) := by omega
        have j2 : (0 : Int) ≤ (j : Int) + 1 ∧ (j : Int) + 1 ≤ (l.length : Int) := by omega
        have j3 : (l.length : Int) ≤ (L.length : Int) := by omega
        have j4 : ¬ L.length = j := by omega
        have j5 : ((j : Int) + 1).toNat = j + 1 := by omega
        have hfit : j * 2 + (flat (l.drop (j + 1))).length ≤ cur.size := by rw [flat_length, List.length_drop, hcs]; omega
        have hsrc : ∀ SA : Addr, (SA = ⟨w1.heap.size, (j + 1) * 2, none⟩ ∨ l.length = j + 1) → ∀ i u, (flat (l.drop (j + 1)))[i]? = some u → w4.drew.cell? (SA.add i) = some u := by
          intro SA h i u hu
          rcases h with rfl | h
          · exact drop_cells hp4 i u hu
          · rw [List.drop_eq_nil_of_le (by omega)] at hu; simp [flat] at hu
        have hrun : ∀ SA : Addr, (SA = ⟨w1.heap.size, (j + 1) * 2, none⟩ ∨ l.length = j + 1) → (Builtin.copy_ #[25, 25] 3 #[.slice (some ⟨w1.heap.size, j * 2, none⟩) (l.length - j) (L.length - j), .slice (some SA) (l.length - (j + 1)) (L.length - (j + 1))]).run Try.prog w4.drew =
            .ok (goInt (Nat.min (l.length - (j + 1)) (l.length - j))) (w4.drew.setRow w1.heap.size (cur.toList.take (j * 2) ++ flat (l.drop (j + 1)) ++ cur.toList.drop (j * 2 + (flat (l.drop (j + 1))).length)).toArray) := fun SA h =>
          run_copy_rowN (P := Try.prog) w4.drew 25 25 3 78 2 w1.heap.size (j * 2) (l.length - j) (L.length - j) SA (l.length - (j + 1)) (L.length - (j + 1)) cur 78 (flat (l.drop (j + 1))) Try.underlying25 (by rw [hi]; simp [hz1]) hg4 (drop_len hj) (hsrc SA h) hfit (flat_one _)
        have hcut := fun u => Cut.mk' w4.drew w1.heap.size (w1.heap.size + 1) 0 (cur.toList.take (j * 2) ++ flat (l.drop (j + 1)) ++ cur.toList.drop (j * 2 + (flat (l.drop (j + 1))).length)).toArray u
        have hv5 : Blk (w4.drew.setRow w1.heap.size (cur.toList.take (j * 2) ++ flat (l.drop (j + 1)) ++ cur.toList.drop (j * 2 + (flat (l.drop (j + 1))).length)).toArray) (w1.heap.size + 1) 25 #[.slice (some ⟨w1.heap.size, 0, none⟩) l.length L.length] := (setRow_other w4.drew w1.heap.size (w1.heap.size + 1) _ (by omega)).trans hvar4.drew
        have hl5 : Later w (w4.drew.setRow w1.heap.size (cur.toList.take (j * 2) ++ flat (l.drop (j + 1)) ++ cur.toList.drop (j * 2 + (flat (l.drop (j + 1))).length)).toArray) := hW4.drew.setRow hbB _
        have hz5 : W3.heap.size ≤ (w4.drew.setRow w1.heap.size (cur.toList.take (j * 2) ++ flat (l.drop (j + 1)) ++ cur.toList.drop (j * 2 + (flat (l.drop (j + 1))).length)).toArray).heap.size := by
          simp [World.setRow]; omega
        generalize w4.drew.setRow w1.heap.size (cur.toList.take (j * 2) ++ flat (l.drop (j + 1)) ++ cur.toList.drop (j * 2 + (flat (l.drop (j + 1))).length)).toArray = W5 at *
        have c5 : W5.cell? ⟨w1.heap.size + 1, 0, none⟩ = some (.slice (some ⟨w1.heap.size, 0, none⟩) l.length L.length) := hv5.cell 0
        have f5 := hv5.frozen 0
        have hrw5 := fun u => (hcut u).owns (base := W3.heap.size) (by omega) (by omega) hrw4
        have htr5 := fun u => (hcut u).tris (base := W3.heap.size) (by omega) (by omega) htri4
        have hco5 := fun u => (hcut u).cell (g := W2.heap.size) (o := 0) (by omega) (by omega) hcor4
        have Hrun := Lib.hid hrun
        have Hrw5 := Lib.hid hrw5
        have Htr5 := Lib.hid htr5
        have Hco5 := Lib.hid hco5
        have hel : (l.eraseIdx j).length = l.length - 1 := by rw [List.length_eraseIdx, if_pos hj]
        have Hel := Lib.hid hel
        have Hvl4 := Lib.hid hvl4
        clear hrun hrw5 htr5 hco5 hcut hsrc hfit hel hrw4 htri4 hvl4 hp4 hcs htk hg4
        have j6 : (0 : Int) ≤ (l.length : Int) - 1 ∧ (l.length : Int) - 1 ≤ (L.length : Int) := by omega
        have j7 : ((l.length : Int) - 1).toNat = l.length - 1 := by omega
        by_cases hq : L.length = j + 1
        · go_region_held3 (fun w' : World => w'.cell? ⟨w1.heap.size + 1, 0, none⟩ = some (.slice (some ⟨w1.heap.size, 0, none⟩) l.length L.length)) (first | assumption | exact (Later.refl _).drew.cell hv4)
            (first | (refine step_copy_run (o := ⟨some 68, _, _, _, _, _⟩) _ rfl (.tmp 63) (.tmp 67) 25 25 rfl _ _ rfl rfl _ _ (Hrun.out _ (.inr (by omega))) ?_))
          have Hq := Lib.hid hq
          clear hq
          go_wp2
          go_roundg (l.length - 1)
          case measure => omega
          case rel => exact ⟨f', l.eraseIdx j, acc, vs, Hel.out, by rw [He.out, Hsp.out], by rw [Hel.out]; have := Hf'.out; omega, by rw [Hel.out]; omega, by rw [Hel.out]; omega, gp_erase hin, by rw [Hel.out]; first | omega | (simp; omega), Hrw5.out _, Htr5.out _, Hvl4.out, by rw [Hel.out]; exact hv5.set_ 0 _, by rw [Hel.out]; exact ho4.far (by omega), Hco5.out _, hl5.put (by omega) _, by simpa [World.setCell] using hz5⟩
        · go_region_held3 (fun w' : World => w'.cell? ⟨w1.heap.size + 1, 0, none⟩ = some (.slice (some ⟨w1.heap.size, 0, none⟩) l.length L.length)) (first | assumption | exact (Later.refl _).drew.cell hv4)
            (first | (refine step_copy_run (o := ⟨some 68, _, _, _, _, _⟩) _ rfl (.tmp 63) (.tmp 67) 25 25 rfl _ _ rfl rfl _ _ (Hrun.out _ (.inl rfl)) ?_))
          go_wp2
          go_roundg (l.length - 1)
          case measure => omega
          case rel => exact ⟨f', l.eraseIdx j, acc, vs, Hel.out, by rw [He.out, Hsp.out], by rw [Hel.out]; have := Hf'.out; omega, by rw [Hel.out]; omega, by rw [Hel.out]; omega, gp_erase hin, by rw [Hel.out]; first | omega | (simp; omega), Hrw5.out _, Htr5.out _, Hvl4.out, by rw [Hel.out]; exact hv5.set_ 0 _, by rw [Hel.out]; exact ho4.far (by omega), Hco5.out _, hl5.put (by omega) _, by simpa [World.setCell] using hz5⟩

end Go.Proofs.Ytolddfapanabbaa
