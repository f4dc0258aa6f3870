/-
  The walk of fill.Run, where nothing fails but the search for a place.
-/
import Derived.Test.YtdhakoecjmaebaaGreatZStpB
namespace Go.Proofs.YtdhakoecjmaebaaGreat
open Go.RowKit Go.Lib
set_option linter.unusedSimpArgs false
set_option linter.unusedVariables false

theorem pu5 (p : Pu) : p.cells.length = 5 := rfl
theorem pu5_one (p : Pu) : ∀ u ∈ p.cells, u.oneCell' = true := by
  intro u hu
  simp only [Pu.cells, List.mem_cons, List.not_mem_nil, or_false] at hu
  rcases hu with rfl | rfl | rfl | rfl | rfl <;> rfl
/-- A valid list of puts: each is on the bed's shapes and lies in range. -/
theorem puts_sound {b : Bd} {l : List Sh} {acc : List Pu} (hc : pcheckR b l acc = 0) (hn : acc.length ≤ 60) (hl : l.length ≤ 65536) (hb : ∀ p ∈ acc, PutBy p.sh p) : (polysR l acc).2 = 0 ∧ ∀ p ∈ acc, ∀ w : World, PuOk w p := by
  have h := ((pcheck_pairs hn).1 hc).1
  refine ⟨polys_of fun p hp => (h p hp).2.1, fun p hp w => ?_⟩
  obtain ⟨h1, h2, h3, _⟩ := poly_zero (h p hp).2.1
  obtain ⟨_, _, hq⟩ := hb p hp
  unfold outsideB at h3
  simp only [List.mem_cons, List.not_mem_nil, or_false] at hq
  simp at h3
  unfold PuOk I64
  omega
theorem step_put {b : Bd} {l : List Sh} {acc : List Pu} {sh : Int} (hc : pcheckR b l acc = 0) (hn : acc.length ≤ 58) (hb : ∀ p ∈ acc, PutBy p.sh p) (h : (stepR b l acc sh).2 = 0) : pcheckR b l (acc ++ [(stepR b l acc sh).1]) = 0 ∧ ∀ p ∈ acc ++ [(stepR b l acc sh).1], PutBy p.sh p := by
  obtain ⟨f1, f2⟩ := step_fit h
  refine ⟨(pcheck_snoc (by omega)).2 ⟨hc, f1⟩, fun p hp => ?_⟩
  rcases List.mem_append.1 hp with hp | hp
  · exact hb p hp
  · rw [List.mem_singleton.1 hp]; exact ⟨rfl, f2.2⟩
def RunPost (r : List Pu × Int) (w : World) (e : Ending) (w' : World) : Prop := ∃ A c, e = .returned (.tuple #[.slice A r.1.length c, .int .i64 r.2]) ∧ r.1.length ≤ c ∧ c ≤ maxLen ∧ Puts w' A r.1 ∧ Later w w'
set_option maxHeartbeats 8000000 in
set_option maxRecDepth 100000 in
theorem fill_Run (b : Bd) (C O : Option Addr) (cc oc : Nat) (l : List Sh) (od : List Int) (w : World) (hs : Shapes w C l) (hl : l.length ≤ 65536) (hlen : ∀ s ∈ l, s.ps.length ≤ 6) (ho : Ints w O od) (hon : od.length ≤ 4) (hod : ∀ i ∈ od, ∃ j : Nat, j < l.length ∧ i = (j : Int))
    (hbl : 1 ≤ b.l ∧ b.l ≤ 1048576) (hbw : 1 ≤ b.w ∧ b.w ≤ 1048576) (h0 : ∀ k : Nat, k < l.length → (polyR l ⟨k, false, 0, 0, 0⟩).2 = 0) (h2 : ∀ k : Nat, k < l.length → ∀ q ∈ turnsR (gs l k).gr, (polyR l ⟨k, false, q, 0, 0⟩).2 = 0) :
    Calls Tryz.prog 7 #[b.agg, .slice C l.length cc, .slice O od.length oc] w (RunPost (runR b l od) w) := by
  have HR := Lib.hid (show runR b l od = runGo b l od [] from if_neg (by omega))
  have HSt := Lib.hid (fun (P : Option Addr) (pc : Nat) (puts : List Pu) (k : Nat) (W : World) (hW : Later w W) (hp : Puts W P puts) (hn : puts.length ≤ 3) (hk : k < l.length) (h1 : (polysR l puts).2 = 0) => fill_Step b C P cc pc l puts k W (hs.later hW) hl hlen hp hn hk hbl hbw (h0 k hk) h1 (h2 k hk))
  have HPs := Lib.hid (fun (acc : List Pu) hc hn hb => puts_sound (b := b) (l := l) (acc := acc) hc hn hl hb)
  have HNx := Lib.hid (fun (acc : List Pu) sh hc hn hb h => step_put (b := b) (l := l) (acc := acc) (sh := sh) hc hn hb h)
  have HGo := Lib.hid (fun (acc : List Pu) (o : List Int) sh => show runGo b l (sh :: o) acc = if (stepR b l acc sh).2 ≠ 0 then ([], (stepR b l acc sh).2) else runGo b l o (acc ++ [(stepR b l acc sh).1]) from rfl)
  have HG0 := Lib.hid (fun (acc : List Pu) => show runGo b l [] acc = (acc, 0) from rfl)
  have Hod := Lib.hid hod
  clear h0 h2 hlen hod hs
  generalize runR b l od = R at *
  have HP0 := Lib.hid (show pcheckR b l [] = 0 from rfl)
  generalize hpc : pcheckR b l = pck at *
  generalize hrg : runGo b l = rgo at *
  generalize hst : stepR b l = stp at *
  clear hpc hrg hst
  obtain ⟨bl, bw, brx, bry⟩ := b
  unfold Bd.agg StepPost at *
  simp only [] at *
  go_enter Tryz.func7, Tryz.ntmps7
  go_upto_region 1 with fail
  refine name_world (fun W1 hW1 => ?_)
  have hl1 : Later w W1 := by rw [hW1]; exact (by repeat' (with_reducible first | exact Later.refl _ | assumption | refine Later.drew ?_ | refine Later.drewN ?_ _ | refine Later.alloc ?_ _ | refine Later.put ?_ (by omega) _ | refine Later.trans ?_ (by assumption)))
  have B4 : Blk W1 w.heap.size 25 #[.int .i64 bl, .int .i64 bw, .int .i64 brx, .int .i64 bry] := by rw [hW1]; exact (by repeat' (with_reducible first | assumption | (refine Blk.newAt ?_; simp; done) | refine Blk.alloc ?_ _ | refine Blk.drew ?_ | refine Blk.drewN ?_ _ | refine Blk.later ?_ (by assumption)))
  clear hW1
  obtain ⟨g4, hg4⟩ : ∃ g, g = w.heap.size := ⟨_, rfl⟩
  rw [← hg4] at B4
  rw [← hg4]
  clear hg4
  have d60 : decide ((od.length : Int) > 60) = false := by simp; omega
  go_upto_region 5 with fail
  have HW1 := Lib.hid hl1
  have HB := Lib.hid B4
  clear hl1 B4
  go_loopw [8, 18] (fun v iv wr => ∃ (k : Nat) (acc : List Pu), k ≤ od.length ∧ iv = .int .i64 k ∧ OwnR wr W1.heap.size 44 5 Pu.cells v acc ∧ Hid (acc.length = k) ∧ acc.length ≤ k ∧ Hid (R = rgo (od.drop k) acc ∧ pck acc = 0 ∧ ∀ p ∈ acc, PutBy p.sh p) ∧ Later W1 wr) (fun _ iv _ => od.length - (intOf iv).toNat)
  case atStart => exact ⟨0, [], by omega, rfl, World.ownsRow_nil _ _ _ _, Lib.hid rfl, Nat.le_refl _, Lib.hid ⟨HR.out, HP0.out, by simp⟩, Later.refl _⟩
  case round =>
    obtain ⟨k, acc, hk, rfl, hown, Hak, hak, Hin, hbr⟩ := hrel
    have Hown := Lib.hid hown
    clear hown
    have hlr := HW1.out.trans hbr
    have B5 := HB.out.later hbr
    have hzr := hlr.size
    by_cases hlt : k < od.length
    · obtain ⟨bo, oo, rfl, x0⟩ := (ho.later hlr).at_ hlt
      have zbo := World.block_lt_of_cell? _ _ x0
      obtain ⟨j, hj, ej⟩ := Hod.out _ (List.getElem_mem hlt)
      have Hdr := Lib.hid (List.drop_eq_getElem_cons hlt)
      rw [ej] at x0 Hdr
      clear ej
      obtain ⟨A2, c2, rfl, _, _, _⟩ := Hown.out.form pu5
      obtain ⟨q1, q2⟩ := HPs.out acc Hin.out.2.1 (by omega) Hin.out.2.2
      have hput : Puts wr A2 acc := (Hown.out.list pu5 (fun a ha => q2 a ha wr)).2.2.2
      have HC := Lib.hid (fun W (hW : Later wr W) => HSt.out A2 c2 acc j W (hlr.trans hW) (hput.later hW) (by omega) hj q1)
      have HN2 := Lib.hid (HNx.out acc j Hin.out.2.1 (by omega) Hin.out.2.2)
      have HG2 := Lib.hid (HGo.out acc (od.drop (k + 1)) j)
      clear q1 q2 hput
      generalize stp acc j = r at *
      obtain ⟨⟨p1, p2, p3, p4, p5⟩, er⟩ := r
      unfold Pu.agg at HC
      simp only [] at HC HN2 HG2
      have hk0 : (0 : Int) ≤ (k : Int) := by omega
      have hk1 : (k : Int) < (od.length : Int) := by omega
      have b0 : wr.cell? ⟨g4, 0, none⟩ = some (.int .i64 bl) := B5.cell 0
      have b1 : wr.cell? ⟨g4, 1, none⟩ = some (.int .i64 bw) := B5.cell 1
      have b2 : wr.cell? ⟨g4, 2, none⟩ = some (.int .i64 brx) := B5.cell 2
      have b3 : wr.cell? ⟨g4, 3, none⟩ = some (.int .i64 bry) := B5.cell 3
      have zb4 := B5.lt
      by_cases her : er = 0
      · subst her
        have HR2 := Lib.hid (show R = rgo (od.drop (k + 1)) (acc ++ [⟨p1, p2, p3, p4, p5⟩]) by rw [Hin.out.1, Hdr.out, HG2.out, if_neg (by simp)])
        have HN3 := Lib.hid (HN2.out rfl)
        go_upto_region 8 with (go_at_call 24; (with_reducible refine (HC.out _ (by exact (by repeat' (with_reducible first | exact Later.refl _ | assumption | refine Later.drew ?_ | refine Later.drewN ?_ _ | refine Later.alloc ?_ _ | refine Later.put ?_ (by omega) _ | refine Later.trans ?_ (by assumption))))).mono ?_); rintro e w5 ⟨rfl, hb5⟩)
        refine name_world (fun W6 hW6 => ?_)
        have hb6 : Later w5 W6 := by rw [hW6]; exact (by repeat' (with_reducible first | exact Later.refl _ | assumption | refine Later.drew ?_ | refine Later.drewN ?_ _ | refine Later.alloc ?_ _ | refine Later.put ?_ (by omega) _ | refine Later.trans ?_ (by assumption)))
        have D6 : Blk W6 w5.heap.size 44 #[.int .i64 p1, .bool p2, .int .i64 p3, .int .i64 p4, .int .i64 p5] := by rw [hW6]; exact (by repeat' (with_reducible first | assumption | (refine Blk.newAt ?_; simp; done) | refine Blk.alloc ?_ _ | refine Blk.drew ?_ | refine Blk.drewN ?_ _ | refine Blk.later ?_ (by assumption)))
        clear hW6
        obtain ⟨g6, hg6⟩ : ∃ g, g = w5.heap.size := ⟨_, rfl⟩
        rw [← hg6] at D6
        rw [← hg6]
        clear hg6
        have hl6 : Later wr W6 := hb5.trans hb6
        have y0 : W6.cell? ⟨g6, 0, none⟩ = some (.int .i64 p1) := D6.cell 0
        have y1 : W6.cell? ⟨g6, 1, none⟩ = some (.bool p2) := D6.cell 1
        have y2 : W6.cell? ⟨g6, 2, none⟩ = some (.int .i64 p3) := D6.cell 2
        have y3 : W6.cell? ⟨g6, 3, none⟩ = some (.int .i64 p4) := D6.cell 3
        have y4 : W6.cell? ⟨g6, 4, none⟩ = some (.int .i64 p5) := D6.cell 4
        have z6 := D6.lt
        have HS := Lib.hid (SrcAt.blk (Blk.new W6 44 #[.int .i64 p1, .bool p2, .int .i64 p3, .int .i64 p4, .int .i64 p5]))
        clear x0 zbo b0 b1 b2 b3 zb4
        go_wp2_with (at_builtin; refine wpList_append_rec slt_put pu5 pu5_one rfl (.tmp 33) (.tmp 35) rfl (base := W1.heap.size) (l := acc) rfl (OwnR.alloc (Hown.out.later hl6) _) (A := some ⟨W6.heap.size, 0, none⟩) (c := 1) [⟨p1, p2, p3, p4, p5⟩] rfl (by intro h; cases h) HS.out (by simp; omega) (by have := hl6.size; have := hbr.size; simp; omega) ?_; intro A3 c3' w3 ho3 hg3)
        have hl3 : Later W1 w3 := Later.grown ((hbr.trans hl6).alloc _) hg3 (fun g hg => (World.ownsRow.lt Hown.out g hg).1)
        have Ho3 := Lib.hid ho3
        clear ho3 hg3
        simp only [List.length_append, List.length_singleton] at Ho3
        refine ⟨⟨k + 1, acc ++ [⟨p1, p2, p3, p4, p5⟩], by omega, by go_num, Ho3.out, Lib.hid (by simp [Hak.out]), by simp; omega, Lib.hid ⟨HR2.out, HN3.out.1, HN3.out.2⟩, hl3⟩, ?_⟩
        simp [intOf]
        omega
      · have HR2 := Lib.hid (show R = ([], er) by rw [Hin.out.1, Hdr.out, HG2.out, if_pos (by simpa using her)])
        have der : (er != 0) = true := by simpa using her
        go_upto_region 8 with (go_at_call 24; (with_reducible refine (HC.out _ (by exact (by repeat' (with_reducible first | exact Later.refl _ | assumption | refine Later.drew ?_ | refine Later.drewN ?_ _ | refine Later.alloc ?_ _ | refine Later.put ?_ (by omega) _ | refine Later.trans ?_ (by assumption))))).mono ?_); rintro e w5 ⟨rfl, hb5⟩)
        go_wp2
        refine bodyPost_ret (v := .tuple #[.slice none 0 0, .int .i64 er]) (by simp [results, Tryz.results7, go_sem]) rfl ?_
        refine ⟨none, 0, by rw [HR2.out]; rfl, by rw [HR2.out]; simp, by unfold maxLen; omega, by rw [HR2.out]; exact fun h => by simp at h, ?_⟩
        exact hlr.trans (hb5.trans (by repeat' (with_reducible first | exact Later.refl _ | assumption | refine Later.drew ?_ | refine Later.drewN ?_ _ | refine Later.alloc ?_ _ | refine Later.put ?_ (by omega) _ | refine Later.trans ?_ (by assumption))))
    · have hke : k = od.length := by omega
      subst hke
      have HR2 := Lib.hid (show R = (acc, 0) by rw [Hin.out.1, List.drop_length, HG0.out])
      obtain ⟨A2, c2, rfl, hc1, hc2, _⟩ := Hown.out.form pu5
      obtain ⟨q1, q2⟩ := HPs.out acc Hin.out.2.1 (by omega) Hin.out.2.2
      have hput : Puts wr A2 acc := (Hown.out.list pu5 (fun a ha => q2 a ha wr)).2.2.2
      clear q1 q2
      go_wp2
      refine bodyPost_ret (v := .tuple #[.slice A2 acc.length c2, .int .i64 0]) (by simp [results, Tryz.results7, go_sem]) rfl ?_
      refine ⟨A2, c2, by rw [HR2.out], by rw [HR2.out]; exact hc1, hc2, by rw [HR2.out]; exact hput.later (by exact (by repeat' (with_reducible first | exact Later.refl _ | assumption | refine Later.drew ?_ | refine Later.drewN ?_ _ | refine Later.alloc ?_ _ | refine Later.put ?_ (by omega) _ | refine Later.trans ?_ (by assumption)))), ?_⟩
      exact hlr.trans (by repeat' (with_reducible first | exact Later.refl _ | assumption | refine Later.drew ?_ | refine Later.drewN ?_ _ | refine Later.alloc ?_ _ | refine Later.put ?_ (by omega) _ | refine Later.trans ?_ (by assumption)))
end Go.Proofs.YtdhakoecjmaebaaGreat
