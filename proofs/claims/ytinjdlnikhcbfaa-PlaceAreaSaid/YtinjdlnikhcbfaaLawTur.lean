/-
  PlaceTurnsRound, walked.
-/
import Derived.Test.YtinjdlnikhcbfaaLawPMv
import Derived.Test.YtinjdlnikhcbfaaTurnQ
import Derived.Test.YtinjdlnikhcbfaaStepA
import Derived.Test.YtinjdlnikhcbfaaRefV
namespace Go.Proofs.Ytinjdlnikhcbfaa
open Go.RowKit
set_option linter.unusedSimpArgs false
set_option linter.unusedVariables false

theorem sh_len (s : Sh) : s.cells.length = 5 := rfl
theorem sh_one (s : Sh) : ∀ u ∈ s.cells, u.oneCell' = true := by
  intro u hu
  simp only [Sh.cells, List.mem_cons, List.not_mem_nil, or_false] at hu
  rcases hu with rfl | rfl | rfl | rfl | rfl <;> rfl
theorem slt_shape : SlT Try.prog 80 92 5 := SlT.mk (z := .agg #[.slice none 0 0, .int .i64 0, .bool false, .int .i64 0, .int .i64 0]) (by_ := 56) Try.underlying80 (by kernel_rfl) (by omega) rfl (by omega)
/-- A shape as the law turns it: half a turn allowed, no stripes. -/
def fixS (s : Sh) : Sh := ⟨s.pa, s.pc, s.ps, if s.gr = 1 then 2 else s.gr, false, s.ax, s.ay⟩
@[go_sem] theorem build_rep0 (w : World) : (Instr.build 23 #[]).run Try.prog w = .ok (.agg #[.int .i64 0, .int .i64 0]) w := run_build w 23 _ _ (by kernel_rfl)
@[go_sem] theorem build_turn2 (w : World) : (Instr.build 88 #[(1, .int .i64 2)]).run Try.prog w = .ok (.agg #[.bool false, .int .i64 2]) w := run_build w 88 _ _ (by kernel_rfl)
@[go_sem] theorem build_put3 (s : Int) (f : Bool) (q x y : Int) (w : World) : (Instr.build 90 #[(0, .int .i64 s), (1, .agg #[.bool f, .int .i64 q]), (2, .agg #[.int .i64 x, .int .i64 y])]).run Try.prog w = .ok (.agg #[.int .i64 s, .bool f, .int .i64 q, .int .i64 x, .int .i64 y]) w := run_build w 90 _ _ (by kernel_rfl)
@[go_sem] theorem build_spot2 (x y : Int) (w : World) : (Instr.build 86 #[(0, .int .i64 x), (1, .int .i64 y)]).run Try.prog w = .ok (.agg #[.int .i64 x, .int .i64 y]) w := run_build w 86 _ _ (by kernel_rfl)

set_option maxHeartbeats 8000000 in
set_option maxRecDepth 100000 in
theorem law30_PlaceTurnsRound (hex : ∀ W, Calls Try.prog 34 #[] W (Ret (.bool true) W)) (c : Cs) (w : World) (hc : CsOk w c) :
    Calls Try.prog 13 #[c.agg] w (Ret (.bool true) w) := by
  have HX := Lib.hid hex
  have HV := Lib.hid (fun c' W h => law30_valid c' W h)
  obtain ⟨hsh, hsc, hscm, hpu, hpc, hpcm, i1, i2, i3, i4⟩ := hc
  unfold Cs.agg
  obtain ⟨⟨bl, bw, rx, ry⟩, sa, sc, sh, pa, pc, pu⟩ := c
  simp only [] at *
  have hshm : sh.length ≤ 9223372036854775807 := by unfold maxLen at hscm; omega
  have hpum : pu.length ≤ 9223372036854775807 := by unfold maxLen at hpcm; omega
  go_enter Try.func13, Try.ntmps13
  go_upto_region 2 with fail
  refine name_world (fun W2 hW2 => ?_)
  have D1 : Blk W2 w.heap.size 83 #[.int .i64 bl, .int .i64 bw, .int .i64 0, .int .i64 0, .slice sa sh.length sc, .slice pa pu.length pc] := by rw [hW2]; exact (by repeat' (with_reducible first | assumption | (refine Blk.newAt ?_; simp; done) | refine Blk.alloc ?_ _ | refine Blk.drew ?_ | refine Blk.drewN ?_ _ | refine Blk.later ?_ (by assumption)))
  have hl2 : Later w W2 := by rw [hW2]; exact (by repeat' (with_reducible first | exact Later.refl _ | assumption | refine Later.drew ?_ | refine Later.drewN ?_ _ | refine Later.alloc ?_ _ | refine Later.put ?_ (by omega) _ | refine Later.trans ?_ (by assumption)))
  clear hW2
  have hg1 : w.heap.size ≤ w.heap.size := Nat.le_refl _
  generalize hgg : w.heap.size = g1 at D1 ⊢
  have Hgg := Lib.hid hgg
  clear hgg hg1
  go_wp2
  go_loopw [3, 4] (fun v iv wr => ∃ k : Nat, k ≤ sh.length ∧ k ≤ 9 ∧ iv = .int .i64 k ∧ OwnR wr W2.heap.size 92 5 Sh.cells v ((sh.take k).map fixS) ∧ Later W2 wr) (fun _ iv _ => 9 - (intOf iv).toNat)
  case atStart => exact ⟨0, by omega, by omega, rfl, World.ownsRow_nil _ _ _ _, Later.refl _⟩
  case round =>
    obtain ⟨k, hk, hk9, rfl, ho, hb⟩ := hrel
    have Ho := Lib.hid ho
    clear ho
    have hlw := hl2.trans hb
    have c4 : wr.cell? ⟨g1, 4, none⟩ = some (.slice sa sh.length sc) := hb.cell (D1.cell 4)
    have z1 : g1 < wr.heap.size := World.block_lt_of_cell? _ _ c4
    by_cases hlt : k < sh.length ∧ k < 9
    · obtain ⟨hlt1, hlt9⟩ := hlt
      have d2 : decide ((k : Int) < 9) = true := by simp; omega
      have hk0 : (0 : Int) ≤ (k : Int) := by omega
      have hk1 : (k : Int) < (sh.length : Int) := by omega
      obtain ⟨bs, os, rfl, f0, f1, f2, f3, f4, _⟩ := (hsh.later hlw).at_ hlt1
      have hsz : bs < wr.heap.size := World.block_lt_of_cell? _ _ f0
      have Htk := Lib.hid (show (sh.take (k + 1)).map fixS = (sh.take k).map fixS ++ [fixS sh[k]] by rw [List.take_succ_eq_append_getElem hlt1, List.map_append]; rfl)
      have hal : ((sh.take k).map fixS).length ≤ 9 := by simp; omega
      generalize sh[k] = s at *
      obtain ⟨spa, spc, sps, sgr, smt, sax, say⟩ := s
      simp only [] at f0 f1 f2 f3 f4
      generalize (sh.take k).map fixS = acc at *
      by_cases hg : sgr = 1
      · have dg : (sgr == 1) = true := by simpa using hg
        have Hgr := Lib.hid (show fixS ⟨spa, spc, sps, sgr, smt, sax, say⟩ = ⟨spa, spc, sps, 2, false, sax, say⟩ by unfold fixS; simp [hg])
        have HS := Lib.hid (fun W => SrcAt.blk (Blk.new W 92 #[.slice spa sps.length spc, .int .i64 2, .bool false, .int .i64 sax, .int .i64 say]))
        go_upto_region 10 with fail
        refine name_world (fun W7 hW7 => ?_)
        have hl7 : Later wr W7 := by rw [hW7]; exact (by repeat' (with_reducible first | exact Later.refl _ | assumption | refine Later.drew ?_ | refine Later.drewN ?_ _ | refine Later.alloc ?_ _ | refine Later.put ?_ (by omega) _ | refine Later.trans ?_ (by assumption)))
        have D7 : Blk W7 wr.heap.size 92 #[.slice spa sps.length spc, .int .i64 2, .bool false, .int .i64 sax, .int .i64 say] := by rw [hW7]; exact (by repeat' (with_reducible first | assumption | (refine Blk.newAt ?_; simp; done) | refine Blk.alloc ?_ _ | refine Blk.drew ?_ | refine Blk.drewN ?_ _ | refine Blk.later ?_ (by assumption)))
        clear hW7
        have x0 : W7.cell? ⟨wr.heap.size, 0, none⟩ = some (.slice spa sps.length spc) := D7.cell 0
        have x1 : W7.cell? ⟨wr.heap.size, 1, none⟩ = some (.int .i64 2) := D7.cell 1
        have x2 : W7.cell? ⟨wr.heap.size, 2, none⟩ = some (.bool false) := D7.cell 2
        have x3 : W7.cell? ⟨wr.heap.size, 3, none⟩ = some (.int .i64 sax) := D7.cell 3
        have x4 : W7.cell? ⟨wr.heap.size, 4, none⟩ = some (.int .i64 say) := D7.cell 4
        have z7 := D7.lt
        go_wp2_with (at_builtin; refine wpList_append_rec slt_shape sh_len sh_one rfl (.tmp 34) (.tmp 36) rfl (base := W2.heap.size) (l := acc) rfl (OwnR.alloc (Ho.out.later hl7) _) (A := some ⟨W7.heap.size, 0, none⟩) (c := 1) [⟨spa, spc, sps, 2, false, sax, say⟩] rfl (by intro h; cases h) (HS.out _) (by simp; omega) (by have := hb.size; have := hl7.size; simp; omega) ?_; intro A3 c3' w3 ho3 hg3)
        have hl3 : Later W2 w3 := Later.grown ((hb.trans hl7).alloc _) hg3 (fun g hg => (World.ownsRow.lt Ho.out g hg).1)
        clear hg3
        have Ho3 := Lib.hid ho3
        clear ho3
        simp only [List.length_append, List.length_singleton] at Ho3
        go_roundw
        case rel => exact ⟨k + 1, by omega, by omega, by go_num, by rw [Htk.out, Hgr.out]; exact Ho3.out, hl3⟩
        case measure => simp [intOf]; omega
      · have dg : (sgr == 1) = false := by simpa using hg
        have Hgr := Lib.hid (show fixS ⟨spa, spc, sps, sgr, smt, sax, say⟩ = ⟨spa, spc, sps, sgr, false, sax, say⟩ by unfold fixS; simp [hg])
        have HS := Lib.hid (fun W => SrcAt.blk (Blk.new W 92 #[.slice spa sps.length spc, .int .i64 sgr, .bool false, .int .i64 sax, .int .i64 say]))
        go_upto_region 10 with fail
        refine name_world (fun W7 hW7 => ?_)
        have hl7 : Later wr W7 := by rw [hW7]; exact (by repeat' (with_reducible first | exact Later.refl _ | assumption | refine Later.drew ?_ | refine Later.drewN ?_ _ | refine Later.alloc ?_ _ | refine Later.put ?_ (by omega) _ | refine Later.trans ?_ (by assumption)))
        have D7 : Blk W7 wr.heap.size 92 #[.slice spa sps.length spc, .int .i64 sgr, .bool false, .int .i64 sax, .int .i64 say] := by rw [hW7]; exact (by repeat' (with_reducible first | assumption | (refine Blk.newAt ?_; simp; done) | refine Blk.alloc ?_ _ | refine Blk.drew ?_ | refine Blk.drewN ?_ _ | refine Blk.later ?_ (by assumption)))
        clear hW7
        have x0 : W7.cell? ⟨wr.heap.size, 0, none⟩ = some (.slice spa sps.length spc) := D7.cell 0
        have x1 : W7.cell? ⟨wr.heap.size, 1, none⟩ = some (.int .i64 sgr) := D7.cell 1
        have x2 : W7.cell? ⟨wr.heap.size, 2, none⟩ = some (.bool false) := D7.cell 2
        have x3 : W7.cell? ⟨wr.heap.size, 3, none⟩ = some (.int .i64 sax) := D7.cell 3
        have x4 : W7.cell? ⟨wr.heap.size, 4, none⟩ = some (.int .i64 say) := D7.cell 4
        have z7 := D7.lt
        go_wp2_with (at_builtin; refine wpList_append_rec slt_shape sh_len sh_one rfl (.tmp 34) (.tmp 36) rfl (base := W2.heap.size) (l := acc) rfl (OwnR.alloc (Ho.out.later hl7) _) (A := some ⟨W7.heap.size, 0, none⟩) (c := 1) [⟨spa, spc, sps, sgr, false, sax, say⟩] rfl (by intro h; cases h) (HS.out _) (by simp; omega) (by have := hb.size; have := hl7.size; simp; omega) ?_; intro A3 c3' w3 ho3 hg3)
        have hl3 : Later W2 w3 := Later.grown ((hb.trans hl7).alloc _) hg3 (fun g hg => (World.ownsRow.lt Ho.out g hg).1)
        clear hg3
        have Ho3 := Lib.hid ho3
        clear ho3
        simp only [List.length_append, List.length_singleton] at Ho3
        go_roundw
        case rel => exact ⟨k + 1, by omega, by omega, by go_num, by rw [Htk.out, Hgr.out]; exact Ho3.out, hl3⟩
        case measure => simp [intOf]; omega
    · have hshk := Lib.hid (fun j (hj : j < sh.length) => hsh.at_ hj)
      clear hsh
      by_cases h8 : 8 < sh.length
      · have d8 : decide ((8 : Int) < (sh.length : Int)) = true := by simp; omega
        have d9 : sh.length ≤ k ∨ 9 ≤ k := by omega
        have dlt : (decide ((k : Int) < (sh.length : Int)) && decide ((k : Int) < 9)) = false := by simp; omega
        by_cases hk1 : k < sh.length
        · have d2 : decide ((k : Int) < 9) = false := by simp; omega
          go_wp2_with (first | (go_at_call 34; (with_reducible refine (HX.out _).mono ?_); rintro e w10 ⟨rfl, hb10⟩))
          go_ret
          exact ⟨rfl, hlw.trans hb10⟩
        · go_wp2_with (first | (go_at_call 34; (with_reducible refine (HX.out _).mono ?_); rintro e w10 ⟨rfl, hb10⟩))
          go_ret
          exact ⟨rfl, hlw.trans hb10⟩
      · have d8 : decide ((8 : Int) < (sh.length : Int)) = false := by simp; omega
        have hk1 : ¬ k < sh.length := by omega
        have hke : k = sh.length := by omega
        rw [hke, List.take_length] at Ho
        have hl8 : sh.length ≤ 8 := by omega
        obtain ⟨A3, c3, rfl, hc3, hc3m, _⟩ := Ho.out.form sh_len
        rw [List.length_map] at Ho
        have Hsh3 := Lib.hid (fun W (hW : Later wr W) => (OwnR.list (w := W) (ok := ShOk) sh_len (Ho.out.later hW) (fun s hs => by
          obtain ⟨s0, hs0, rfl⟩ := List.mem_map.1 hs
          obtain ⟨j, hj, rfl⟩ := List.getElem_of_mem hs0
          obtain ⟨_, _, _, _, _, _, _, _, k1, k2, k3, k4, k5, k6⟩ := hshk.out j hj
          exact ⟨k1, k2, k3.later (hlw.trans hW), by unfold fixS; simp only []; split; exact ⟨by omega, by omega⟩; exact k4, k5, k6⟩)).2.2.2)
        have hD1 := D1.later hb
        have f4 := hD1.frozen 4
        have c0 : wr.cell? ⟨g1, 0, none⟩ = some (.int .i64 bl) := hD1.cell 0
        simp only [List.length_map] at hc3 ⊢
        go_upto_region 14 with fail
        refine name_world (fun W5 hW5 => ?_)
        have D5 : Blk W5 g1 83 #[.int .i64 bl, .int .i64 bw, .int .i64 0, .int .i64 0, .slice A3 sh.length c3, .slice pa pu.length pc] := by rw [hW5]; exact hD1.set_ 4 _
        have hl5 : Later w W5 := by rw [hW5]; exact hlw.put (Nat.le_of_eq Hgg.out) _
        have hO5 : OwnR W5 W2.heap.size 92 5 Sh.cells (.slice A3 (sh.map fixS).length c3) (sh.map fixS) := by
          rw [hW5, List.length_map]
          exact OwnR.ofBlk Ho.out fun b hb' => Below.heap_setCell wr ⟨g1, 4, none⟩ _ b (by have := (World.ownsRow.lt Ho.out b hb').1; have := D1.lt; simp only [ne_eq]; omega)
        have hS5 : Shapes W5 A3 (sh.map fixS) := (OwnR.list (w := W5) (ok := ShOk) sh_len hO5 (fun s hs => by
          obtain ⟨s0, hs0, rfl⟩ := List.mem_map.1 hs
          obtain ⟨j, hj, rfl⟩ := List.getElem_of_mem hs0
          obtain ⟨_, _, _, _, _, _, _, _, k1, k2, k3, k4, k5, k6⟩ := hshk.out j hj
          exact ⟨k1, k2, k3.later hl5, by unfold fixS; simp only []; split; exact ⟨by omega, by omega⟩; exact k4, k5, k6⟩)).2.2.2
        clear hW5 hO5 Hsh3 Ho f4 c0 c4 hD1
        have hcs : CsOk W5 ⟨⟨bl, bw, 0, 0⟩, A3, c3, sh.map fixS, pa, pc, pu⟩ := ⟨hS5, by simpa using hc3, hc3m, hpu.later hl5, hpc, hpcm, i1, i2, (by unfold I64; simp only []; omega), (by unfold I64; simp only []; omega)⟩
        have HVc := Lib.hid (HV.out ⟨⟨bl, bw, 0, 0⟩, A3, c3, sh.map fixS, pa, pc, pu⟩ W5 hcs)
        have Hcs := Lib.hid hcs
        clear hcs
        unfold Cs.agg at HVc
        simp only [List.length_map] at HVc
        have u0 : W5.cell? ⟨g1, 0, none⟩ = some (.int .i64 bl) := D5.cell 0
        have u1 : W5.cell? ⟨g1, 1, none⟩ = some (.int .i64 bw) := D5.cell 1
        have u2 : W5.cell? ⟨g1, 2, none⟩ = some (.int .i64 0) := D5.cell 2
        have u3 : W5.cell? ⟨g1, 3, none⟩ = some (.int .i64 0) := D5.cell 3
        have u4 : W5.cell? ⟨g1, 4, none⟩ = some (.slice A3 sh.length c3) := D5.cell 4
        have u5 : W5.cell? ⟨g1, 5, none⟩ = some (.slice pa pu.length pc) := D5.cell 5
        have z5 := D5.lt
        rcases hvb : (fewCs ⟨⟨bl, bw, 0, 0⟩, A3, c3, sh.map fixS, pa, pc, pu⟩ && pcheckR ⟨bl, bw, 0, 0⟩ (sh.map fixS) pu == 0) with _ | _
        · rw [hvb] at HVc
          clear hvb
          go_wp2_with (first | (go_at_call 33; (with_reducible refine HVc.out.mono ?_); rintro e w6 ⟨rfl, hb6⟩) | (go_at_call 34; (with_reducible refine (HX.out _).mono ?_); rintro e w10 ⟨rfl, hb10⟩))
          go_ret
          exact ⟨rfl, hl5.trans (hb6.trans hb10)⟩
        · rw [hvb] at HVc
          rw [Bool.and_eq_true, beq_iff_eq] at hvb
          obtain ⟨hf, hv⟩ := hvb
          unfold fewCs at hf
          rw [Bool.and_eq_true] at hf
          obtain ⟨h8', h12⟩ := fewSh_all hf.1
          have hpl8 : pu.length ≤ 8 := by have := hf.2; simp at this; omega
          have hpair := (pcheck_pairs (by omega)).1 hv
          have hsnd := Lib.hid hpair.1
          have HT := Lib.hid (fun hm => pcheck_ht (b := ⟨bl, bw, 0, 0⟩) (l := sh.map fixS) (puts := pu) (by omega) hv (fun s hs => by
            obtain ⟨s0, hs0, rfl⟩ := List.mem_map.1 hs
            unfold fixS
            exact ⟨by simp only []; split <;> omega, rfl⟩) hm)
          have H12 := Lib.hid h12
          clear hv hpair hf h12
          go_wp2_with (first | (go_at_call 33; (with_reducible refine HVc.out.mono ?_); rintro e w6 ⟨rfl, hb6⟩))
          have D6 := D5.later hb6
          have hl6 : Later w w6 := hl5.trans hb6
          clear u0 u1 u2 u3 u4 u5 z5 HVc
          go_loopw [6, 7] (fun v iv wq => ∃ k : Nat, k ≤ pu.length ∧ iv = .int .i64 k ∧ OwnR wq w6.heap.size 90 5 Pu.cells v ((pu.take k).map (htPu ⟨bl, bw, 0, 0⟩)) ∧ (∀ p ∈ pu.take k, outsideB (bl - p.x) (bw - p.y) = false) ∧ Later w6 wq) (fun _ iv _ => pu.length - (intOf iv).toNat)
          case atStart => exact ⟨0, by omega, rfl, World.ownsRow_nil _ _ _ _, (fun p hp => by simp at hp), Later.refl _⟩
          case round =>
            obtain ⟨k, hk, rfl, ho, hmv, hb⟩ := hrel
            have Ho := Lib.hid ho
            have Hmv := Lib.hid hmv
            clear ho hmv
            have hlwr : Later w wr := hl6.trans hb
            have u0 : wr.cell? ⟨g1, 0, none⟩ = some (.int .i64 bl) := hb.cell (D6.cell 0)
            have u1 : wr.cell? ⟨g1, 1, none⟩ = some (.int .i64 bw) := hb.cell (D6.cell 1)
            have u2 : wr.cell? ⟨g1, 2, none⟩ = some (.int .i64 0) := hb.cell (D6.cell 2)
            have u3 : wr.cell? ⟨g1, 3, none⟩ = some (.int .i64 0) := hb.cell (D6.cell 3)
            have u4 : wr.cell? ⟨g1, 4, none⟩ = some (.slice A3 sh.length c3) := hb.cell (D6.cell 4)
            have u5 : wr.cell? ⟨g1, 5, none⟩ = some (.slice pa pu.length pc) := hb.cell (D6.cell 5)
            have z1 : g1 < wr.heap.size := World.block_lt_of_cell? _ _ u0
            by_cases hlt : k < pu.length
            · obtain ⟨bb, ob, rfl, e0, e1, e2, e3, e4, hok⟩ := (hpu.later hlwr).at_ hlt
              have hbz : bb < wr.heap.size := World.block_lt_of_cell? _ _ e0
              obtain ⟨hbd, hpz, _⟩ := hsnd.out _ (List.getElem_mem hlt)
              obtain ⟨p1, p2, p3, _⟩ := poly_zero hpz
              have Htk := Lib.hid (show pu.take (k + 1) = pu.take k ++ [pu[k]] from List.take_succ_eq_append_getElem hlt)
              clear hpz
              generalize pu[k] = q at *
              obtain ⟨qs, qf, qq, qx, qy⟩ := q
              simp only [] at e0 e1 e2 e3 e4 p1 p2 p3 hbd
              have hq : -1048576 ≤ qx ∧ qx ≤ 1048576 ∧ -1048576 ≤ qy ∧ qy ≤ 1048576 := by
                simp only [outsideB, Bool.or_eq_false_iff, decide_eq_false_iff_not] at p3
                omega
              have hk0 : (0 : Int) ≤ (k : Int) := by omega
              have hk1 : (k : Int) < (pu.length : Int) := by omega
              have vx : IntKind.i64.wrap (bl - qx) = bl - qx := IntWalk.i64_in _ (by omega)
              have vy : IntKind.i64.wrap (bw - qy) = bw - qy := IntWalk.i64_in _ (by omega)
              have HNr := Lib.hid (fun W => ref30_Near (bl - qx) (bw - qy) W)
              rcases hout : outsideB (bl - qx) (bw - qy) with _ | _
              · rw [hout] at HNr
                have Hout := Lib.hid hout
                clear hout
                have Hl := Lib.hid (show ((pu.take k).map (htPu ⟨bl, bw, 0, 0⟩)).length ≤ 8 by simp; omega)
                generalize hacc : (pu.take k).map (htPu ⟨bl, bw, 0, 0⟩) = acc at *
                have Hacc := Lib.hid hacc
                clear hacc
                go_upto_region 24 with (first | (go_at_call 37; (with_reducible refine (HNr.out _).mono ?_); rintro e w7 ⟨rfl, hb7⟩))
                refine name_world (fun W8 hW8 => ?_)
                have hl8 : Later wr W8 := by rw [hW8]; exact (by repeat' (with_reducible first | exact Later.refl _ | assumption | refine Later.drew ?_ | refine Later.drewN ?_ _ | refine Later.alloc ?_ _ | refine Later.put ?_ (by omega) _ | refine Later.trans ?_ (by assumption)))
                have D8 : Blk W8 wr.heap.size 90 #[.int .i64 qs, .bool qf, .int .i64 qq, .int .i64 qx, .int .i64 qy] := by rw [hW8]; first | exact (by repeat' (with_reducible first | assumption | (refine Blk.newAt ?_; simp; done) | refine Blk.alloc ?_ _ | refine Blk.drew ?_ | refine Blk.drewN ?_ _ | refine Blk.later ?_ (by assumption))) | (refine Blk.later ?_ hb7; exact (by repeat' (with_reducible first | assumption | (refine Blk.newAt ?_; simp; done) | refine Blk.alloc ?_ _ | refine Blk.drew ?_ | refine Blk.drewN ?_ _ | refine Blk.later ?_ (by assumption))))
                have D9 : Blk W8 (wr.heap.size + 1) 86 #[.int .i64 (bl - qx), .int .i64 (bw - qy)] := by rw [hW8]; first | exact (by repeat' (with_reducible first | assumption | (refine Blk.newAt ?_; simp; done) | refine Blk.alloc ?_ _ | refine Blk.drew ?_ | refine Blk.drewN ?_ _ | refine Blk.later ?_ (by assumption))) | (refine Blk.later ?_ hb7; exact Blk.at2)
                clear hW8
                have HO8 := Lib.hid (Ho.out.later hl8)
                have hrow : ∀ g, (u6 : Value).ownBlock = some g → g < wr.heap.size := fun g hg => (World.ownsRow.lt Ho.out g hg).2
                have hlow : ∀ g, (u6 : Value).ownBlock = some g → w6.heap.size ≤ g := fun g hg => (World.ownsRow.lt Ho.out g hg).1
                have hne1 : (u6 : Value).ownBlock ≠ some wr.heap.size := fun e => by have := hrow _ e; omega
                have hne2 : (u6 : Value).ownBlock ≠ some (wr.heap.size + 1) := fun e => by have := hrow _ e; omega
                have n12 : wr.heap.size ≠ wr.heap.size + 1 := by omega
                clear e0 e1 e2 e3 e4 hbz u0 u1 u2 u3 u4 u5 z1 hb7 hrow
                generalize wr.heap.size + 1 = g9 at *
                generalize hg8 : wr.heap.size = g8 at *
                clear hg8
                have y0 : W8.cell? ⟨g8, 0, none⟩ = some (.int .i64 qs) := D8.cell 0
                have y1 : W8.cell? ⟨g8, 1, none⟩ = some (.bool qf) := D8.cell 1
                have y2 : W8.cell? ⟨g8, 2, none⟩ = some (.int .i64 qq) := D8.cell 2
                have x0 : W8.cell? ⟨g9, 0, none⟩ = some (.int .i64 (bl - qx)) := D9.cell 0
                have x1 : W8.cell? ⟨g9, 1, none⟩ = some (.int .i64 (bw - qy)) := D9.cell 1
                have z8 := D8.lt
                have z9 := D9.lt
                refine wp_region_held_drew (S := fun w' : World => (w'.cell? ⟨g8, 0, none⟩ = some (.int .i64 qs) ∧ w'.cell? ⟨g8, 1, none⟩ = some (.bool qf) ∧ w'.cell? ⟨g8, 2, none⟩ = some (.int .i64 qq) ∧ g8 < w'.heap.size) ∧ w'.cell? ⟨g9, 0, none⟩ = some (.int .i64 (bl - qx)) ∧ w'.cell? ⟨g9, 1, none⟩ = some (.int .i64 (bw - qy)) ∧ g9 < w'.heap.size) (by kernel_rfl) ⟨⟨y0, y1, y2, z8⟩, x0, x1, z9⟩ (fun hHeld => ?_)
                refine take_at (i := 0) (d := 80) (v := ?_) rfl rfl (by kernel_rfl) (by kernel_rfl) (by kernel_rfl) (fun _ _ _ h => h) (by rfl) ?_ (by assumption) ?_
                rotate_left
                · (intro w hSw; (try dsimp only at hSw); go_simp; (try with_reducible rfl))
                simp only [Act.put, List.setIfInBounds_toArray, List.set_cons_zero, List.set_cons_succ]
                refine take_at (i := 1) (d := 81) (v := ?_) rfl rfl (by kernel_rfl) (by kernel_rfl) (by kernel_rfl) (fun _ _ _ h => h) (by rfl) ?_ (by assumption) ?_
                rotate_left
                · (intro w hSw; (try dsimp only at hSw); go_simp; (try with_reducible rfl))
                simp only [Act.put, List.setIfInBounds_toArray, List.set_cons_zero, List.set_cons_succ]
                refine take_at (i := 2) (d := 82) (v := ?_) rfl rfl (by kernel_rfl) (by kernel_rfl) (by kernel_rfl) (fun _ _ _ h => h) (by rfl) ?_ (by assumption) ?_
                rotate_left
                · (intro w hSw; (try dsimp only at hSw); go_simp; (try with_reducible rfl))
                simp only [Act.put, List.setIfInBounds_toArray, List.set_cons_zero, List.set_cons_succ]
                refine take_at (i := 3) (d := 83) (v := ?_) rfl rfl (by kernel_rfl) (by kernel_rfl) (by kernel_rfl) (fun _ _ _ h => h) (by rfl) ?_ (by assumption) ?_
                rotate_left
                · (intro w hSw; (try dsimp only at hSw); go_simp; (try with_reducible rfl))
                simp only [Act.put, List.setIfInBounds_toArray, List.set_cons_zero, List.set_cons_succ]
                refine take_at (i := 4) (d := 84) (v := ?_) rfl rfl (by kernel_rfl) (by kernel_rfl) (by kernel_rfl) (fun _ _ _ h => h) (by rfl) ?_ (by assumption) ?_
                rotate_left
                · (intro w hSw; (try dsimp only at hSw); go_simp; (try with_reducible rfl))
                simp only [Act.put, List.setIfInBounds_toArray, List.set_cons_zero, List.set_cons_succ]
                refine take_at (i := 5) (d := 85) (v := ?_) rfl rfl (by kernel_rfl) (by kernel_rfl) (by kernel_rfl) (fun _ _ _ h => h) (by rfl) ?_ (by assumption) ?_
                rotate_left
                · (intro w hSw; (try dsimp only at hSw); go_simp; (try with_reducible rfl))
                simp only [Act.put, List.setIfInBounds_toArray, List.set_cons_zero, List.set_cons_succ]
                refine take_at (i := 7) (d := 87) (v := ?_) rfl rfl (by kernel_rfl) (by kernel_rfl) (by kernel_rfl) (fun _ _ _ h => h) (by rfl) ?_ (by assumption) ?_
                rotate_left
                · (intro w hSw; (try dsimp only at hSw); go_simp; (try with_reducible rfl))
                simp only [Act.put, List.setIfInBounds_toArray, List.set_cons_zero, List.set_cons_succ]
                refine call_at (i := 6) (d := 86) (f := 38) (args := #[.agg #[.bool qf, .int .i64 qq], .agg #[.bool false, .int .i64 2]]) (by kernel_rfl) rfl rfl (by rfl) (by go_simp) ?_
                refine (turn_Compose2 qf qq _).mono ?_
                rintro e wc9 ⟨rfl, hbc9⟩
                have hlc9 : Later W8 wc9 := (Later.refl _).drew.trans hbc9
                have D8c := D8.later hlc9
                have D9c := D9.later hlc9
                refine ⟨_, rfl, ⟨⟨D8c.cell 0, D8c.cell 1, D8c.cell 2, D8c.lt⟩, D9c.cell 0, D9c.cell 1, D9c.lt⟩, fun hHeld2 => ?_⟩
                simp only [Act.put, List.setIfInBounds_toArray, List.set_cons_zero, List.set_cons_succ]
                refine take_at (i := 8) (d := 88) (v := ?_) rfl rfl (by kernel_rfl) (by kernel_rfl) (by kernel_rfl) (fun _ _ _ h => h) (by rfl) ?_ (by assumption) ?_
                rotate_left
                · (intro w hSw; (try dsimp only at hSw); go_simp; (try with_reducible rfl))
                simp only [Act.put, List.setIfInBounds_toArray, List.set_cons_zero, List.set_cons_succ]
                have hla : Later wc9 (wc9.alloc (.cells #[.int .i64 qs, .bool qf, .int .i64 (qm (qm qq + 2)), .int .i64 (bl - qx), .int .i64 (bw - qy)] 90)) := (Later.refl _).alloc _
                refine val_at (i := 9) (d := 89) (v := .slice (some ⟨wc9.heap.size, 0, none⟩) 1 1) (w' := wc9.alloc (.cells #[.int .i64 qs, .bool qf, .int .i64 (qm (qm qq + 2)), .int .i64 (bl - qx), .int .i64 (bw - qy)] 90)) (by kernel_rfl) rfl rfl (by rfl) (by go_simp) ⟨⟨(D8c.later hla).cell 0, (D8c.later hla).cell 1, (D8c.later hla).cell 2, (D8c.later hla).lt⟩, (D9c.later hla).cell 0, (D9c.later hla).cell 1, (D9c.later hla).lt⟩ ?_
                simp only [Act.put, List.setIfInBounds_toArray, List.set_cons_zero, List.set_cons_succ]
                have HSp := Lib.hid (SrcAt.blk (Blk.new wc9 90 #[.int .i64 qs, .bool qf, .int .i64 (qm (qm qq + 2)), .int .i64 (bl - qx), .int .i64 (bw - qy)]))
                refine append_at (i := 10) (d := 90) slt_put pu_cells pu_one (by kernel_rfl) rfl rfl rfl (.tmp 80) (.tmp 89) rfl (base := w6.heap.size) (l := acc) rfl ((HO8.out.later hlc9).later hla) (A := some ⟨wc9.heap.size, 0, none⟩) (c := 1) [⟨qs, qf, qm (qm qq + 2), bl - qx, bw - qy⟩] rfl (by intro h; cases h) HSp.out (by have := Hl.out; simp; omega) (by have := hb.size; have := hl8.size; have := hlc9.size; have := hla.size; omega) ?_
                intro A4 c4' w3 ho3 hg3
                have D8d := Blk.grown (D8c.later hla) hg3 (fun e => hne1 e.symm)
                have D9d := Blk.grown (D9c.later hla) hg3 (fun e => hne2 e.symm)
                refine ⟨⟨⟨D8d.cell 0, D8d.cell 1, D8d.cell 2, D8d.lt⟩, D9d.cell 0, D9d.cell 1, D9d.lt⟩, fun hHeld3 => ?_⟩
                simp only [Act.put, List.setIfInBounds_toArray, List.set_cons_zero, List.set_cons_succ]
                refine take_at (i := 11) (d := 6) (v := ?_) rfl rfl (by kernel_rfl) (by kernel_rfl) (by kernel_rfl) (fun _ _ _ h => h) (by rfl) ?_ (by assumption) ?_
                rotate_left
                · (intro w hSw; (try dsimp only at hSw); go_simp; (try with_reducible rfl))
                simp only [Act.put, List.setIfInBounds_toArray, List.set_cons_zero, List.set_cons_succ]
                refine wpAnyH_done (by kernel_rfl) ?_ _
                have hl3 : Later w6 w3 := Later.grown (hb.trans (hl8.trans (hlc9.trans hla))) hg3 hlow
                have Ho3 := Lib.hid ho3
                clear hg3 ho3 D8d D9d hHeld hHeld2 hHeld3 D8c D9c
                simp only [List.length_append, List.length_singleton] at Ho3
                go_wp2
                go_roundw
                case rel =>
                  refine ⟨k + 1, by omega, by go_num, ?_, fun p hp => ?_, hl3⟩
                  · rw [Htk.out, List.map_append, Hacc.out]; exact Ho3.out
                  · rw [Htk.out] at hp
                    rcases List.mem_append.1 hp with hp | hp
                    · exact Hmv.out p hp
                    · rw [List.mem_singleton.1 hp]; exact Hout.out
                case measure => simp [intOf]; omega
              · rw [hout] at HNr
                clear hout
                go_wp2_with (first | (go_at_call 37; (with_reducible refine (HNr.out _).mono ?_); rintro e w7 ⟨rfl, hb7⟩) | (go_at_call 34; (with_reducible refine (HX.out _).mono ?_); rintro e w10 ⟨rfl, hb10⟩))
                go_ret
                exact ⟨rfl, hlwr.trans (by repeat' (with_reducible first | exact Later.refl _ | assumption | refine Later.drew ?_ | refine Later.drewN ?_ _ | refine Later.alloc ?_ _ | refine Later.put ?_ (by omega) _ | refine Later.trans ?_ (by assumption)))⟩
            · have hke2 : k = pu.length := by omega
              rw [hke2, List.take_length] at Ho Hmv
              have hz := HT.out Hmv.out
              obtain ⟨A6, c6, e6, _⟩ := Ho.out.form pu_cells
              subst e6
              obtain ⟨_, hcap6, _, hP6⟩ := OwnR.list (ok := PuOk) pu_cells Ho.out (fun p hp => by
                obtain ⟨q, hq, rfl⟩ := List.mem_map.1 hp
                obtain ⟨j, hj, rfl⟩ := List.getElem_of_mem hq
                obtain ⟨_, _, _, _, _, _, _, _, j1, j2, j3, j4⟩ := hpu.at_ hj
                have h1 := qm_bd (qm pu[j].q + 2)
                have h2 := Hmv.out _ hq
                simp only [outsideB, Bool.or_eq_false_iff, decide_eq_false_iff_not] at h2
                exact ⟨j1, by unfold I64 htPu; simp only []; omega, by unfold I64 htPu; simp only []; omega, by unfold I64 htPu; simp only []; omega⟩)
              have HC1 := Lib.hid (fun W (hW : Later wr W) => place_Check ⟨bl, bw, 0, 0⟩ A3 A6 c3 c6 (sh.map fixS) (pu.map (htPu ⟨bl, bw, 0, 0⟩)) W (Hcs.out.1.later (hb6.trans (hb.trans hW))) (by simp; omega) (fun s hs => by have := H12.out s hs; omega) (Puts.later hP6 hW) hcap6)
              rw [hz] at HC1
              unfold Bd.agg at HC1
              simp only [List.length_map] at HC1
              rw [List.length_map]
              clear hP6 hcap6 hz Ho
              go_wp2_with (first | (go_at_call 36; (with_reducible refine (HC1.out _ (Later.refl _)).mono ?_); rintro e w8 ⟨rfl, hb8⟩) | (go_at_call 34; (with_reducible refine (HX.out _).mono ?_); rintro e w10 ⟨rfl, hb10⟩))
              go_ret
              exact ⟨rfl, hlwr.trans (hb8.trans hb10)⟩

end Go.Proofs.Ytinjdlnikhcbfaa
