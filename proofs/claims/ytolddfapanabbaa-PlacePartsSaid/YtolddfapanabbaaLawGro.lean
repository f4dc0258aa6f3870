/-
  PlaceGrows, walked.
-/
import Derived.Test.YtolddfapanabbaaOpen30
import Derived.Test.YtolddfapanabbaaPartP
import Derived.Test.YtolddfapanabbaaAppR
namespace Go.Proofs.Ytolddfapanabbaa
open Go.RowKit
set_option linter.unusedSimpArgs false
set_option linter.unusedVariables false

attribute [local go_sem] ite_min ite_max

theorem pu_cells (p : Pu) : p.cells.length = 5 := rfl
theorem pu_one (p : Pu) : ∀ u ∈ p.cells, u.oneCell' = true := by
  intro u hu
  simp only [Pu.cells, List.mem_cons, List.not_mem_nil, or_false] at hu
  rcases hu with rfl | rfl | rfl | rfl | rfl <;> rfl

set_option maxHeartbeats 4000000 in
set_option maxRecDepth 100000 in
theorem law30_PlaceGrows_in (hex : ∀ W, Calls Try.prog 29 #[] W (Ret (.bool true) W)) (c : Cs) (p : Pu) (w : World) (hc : CsOk w c) (hpk : PuOk w p) (hf : fewCs c = true) (h7 : c.pu.length ≤ 7) :
    Calls Try.prog 13 #[c.agg, p.agg] w (Ret (.bool true) w) := by
  have HX := Lib.hid hex
  have HF := Lib.hid (fun W (hW : Later w W) => law30_few c W (hc.later hW))
  rw [hf] at HF
  unfold fewCs at hf
  rw [Bool.and_eq_true] at hf
  obtain ⟨h8, h12⟩ := fewSh_all hf.1
  have HC := Lib.hid (fun (b : Bd) (pa : Option Addr) (pc : Nat) (pu : List Pu) W (hW : Later w W) (hp : Puts W pa pu) (hpc : pu.length ≤ pc) => place_Check b c.sa pa c.sc pc c.sh pu W (hc.1.later hW) (by omega) (fun s hs => by have := h12 s hs; omega) hp hpc)
  have HT := Lib.hid (fun W (hW : Later w W) => place_Fits c.b c.sa c.pa c.sc c.pc c.sh c.pu p W (hc.1.later hW) (by omega) (fun s hs => by have := h12 s hs; omega) (hc.2.2.2.1.later hW) (by omega))
  unfold Cs.agg at HF ⊢
  unfold Pu.agg at HT ⊢
  obtain ⟨⟨bl, bw, rx, ry⟩, sa, sc, sh, pa, pc, pu⟩ := c
  obtain ⟨osh, ofl, oq, ox, oy⟩ := p
  simp only [] at HF HC HT h7 h8 h12 ⊢
  have d7 : decide ((7 : Int) < (pu.length : Int)) = false := by simp; omega
  go_enter Try.func13, Try.ntmps13
  go_upto_region 3 with (first | (go_at_call 28; (with_reducible refine (HF.out _ (by repeat' (with_reducible first | exact Later.refl _ | assumption | refine Later.drew ?_ | refine Later.drewN ?_ _ | refine Later.alloc ?_ _ | refine Later.put ?_ (by omega) _ | refine Later.trans ?_ (by assumption)))).mono ?_); rintro e w1 ⟨rfl, hb1⟩; have q5 : w1.cell? ⟨w.heap.size, 5, none⟩ = some (.slice pa pu.length pc) := hb1.cell (by simp [go_sem])))
  have D0 : Blk w1 w.heap.size 72 #[.int .i64 bl, .int .i64 bw, .int .i64 rx, .int .i64 ry, .slice sa sh.length sc, .slice pa pu.length pc] := Blk.later (by repeat' (with_reducible first | assumption | (refine Blk.newAt ?_; simp; done) | refine Blk.alloc ?_ _ | refine Blk.drew ?_ | refine Blk.drewN ?_ _ | refine Blk.later ?_ (by assumption))) hb1
  have D1 : Blk w1 (w.heap.size + 1) 80 #[.int .i64 osh, .bool ofl, .int .i64 oq, .int .i64 ox, .int .i64 oy] := Blk.later (by repeat' (with_reducible first | assumption | (refine Blk.newAt ?_; simp; done) | refine Blk.alloc ?_ _ | refine Blk.drew ?_ | refine Blk.drewN ?_ _ | refine Blk.later ?_ (by assumption))) hb1
  have hl1 : Later w w1 := (by repeat' (with_reducible first | exact Later.refl _ | assumption | refine Later.drew ?_ | refine Later.drewN ?_ _ | refine Later.alloc ?_ _ | refine Later.put ?_ (by omega) _ | refine Later.trans ?_ (by assumption)))
  clear hb1 q5 HF d7
  generalize w.heap.size = N at *
  have c0 : w1.cell? ⟨N, 0, none⟩ = some (.int .i64 bl) := D0.cell 0
  have c1 : w1.cell? ⟨N, 1, none⟩ = some (.int .i64 bw) := D0.cell 1
  have c2 : w1.cell? ⟨N, 2, none⟩ = some (.int .i64 rx) := D0.cell 2
  have c3 : w1.cell? ⟨N, 3, none⟩ = some (.int .i64 ry) := D0.cell 3
  have c4 : w1.cell? ⟨N, 4, none⟩ = some (.slice sa sh.length sc) := D0.cell 4
  have c5 : w1.cell? ⟨N, 5, none⟩ = some (.slice pa pu.length pc) := D0.cell 5
  have HC0 := Lib.hid (fun W (hW : Later w W) => HC.out ⟨bl, bw, rx, ry⟩ pa pc pu W hW (hc.2.2.2.1.later hW) hc.2.2.2.2.1)
  unfold Bd.agg at HC0
  simp only [] at HC0
  generalize hok0 : pcheckR ⟨bl, bw, rx, ry⟩ sh pu = ok0 at HC0
  have Hok0 := Lib.hid hok0
  clear hok0
  go_upto_region 4 with (first | (go_at_call 37; (with_reducible refine (HC0.out _ hl1).mono ?_); rintro e w2 ⟨rfl, hb2⟩))
  have b4 := hb2.cell c4
  have b5 := hb2.cell c5
  have p0 : w2.cell? ⟨N + 1, 0, none⟩ = some (.int .i64 osh) := hb2.cell (D1.cell 0)
  have p1 : w2.cell? ⟨N + 1, 1, none⟩ = some (.bool ofl) := hb2.cell (D1.cell 1)
  have p2 : w2.cell? ⟨N + 1, 2, none⟩ = some (.int .i64 oq) := hb2.cell (D1.cell 2)
  have p3 : w2.cell? ⟨N + 1, 3, none⟩ = some (.int .i64 ox) := hb2.cell (D1.cell 3)
  have p4 : w2.cell? ⟨N + 1, 4, none⟩ = some (.int .i64 oy) := hb2.cell (D1.cell 4)
  have hnil : pa = none → pu.length = 0 := by
    intro h
    rcases Nat.eq_zero_or_pos pu.length with h0 | h0
    · exact h0
    · obtain ⟨b, o, e, _⟩ := hc.2.2.2.1 h0
      rw [h] at e; cases e
  have hl2 : Later w w2 := hl1.trans hb2
  have hsrc : SrcAt w2 pa (pu.flatMap Pu.cells) := SrcAt.list pu_cells (hc.2.2.2.1.later hl2)
  have Hnil := Lib.hid hnil
  have Hsrc := Lib.hid hsrc
  clear hnil hsrc
  go_region_held3 (fun w' : World => (∀ a : Addr, (w2.cell? a).isSome = true → w'.cell? a = w2.cell? a) ∧ Later w2 w') (first | assumption | exact keep_call (by assumption) (by assumption) | exact keep_call (by assumption) ((Later.refl _).alloc _) | exact keep_init _ | exact ⟨Later.keeps (by assumption), by assumption⟩) ((first
    | (refine step_append_rec (v := .slice (some ⟨w2.heap.size, 0, none⟩) 0 0) slt_put pu_cells pu_one rfl (.tmp 26) (.tmp 28) rfl (base := w2.heap.size) (l := []) rfl (by repeat' (first | (with_reducible assumption) | (with_reducible refine OwnR.drew ?_) | (refine OwnR.lit [] #[] rfl pu_cells (by simp) (by simp) rfl (by simp); done) | (with_reducible refine OwnR.alloc ?_ _))) pu rfl Hnil.out (Hsrc.out.later (by repeat' (with_reducible first | exact Later.refl _ | assumption | refine Later.drew ?_ | refine Later.drewN ?_ _ | refine Later.alloc ?_ _ | refine Later.put ?_ (by omega) _ | refine Later.trans ?_ (by assumption)))) (by simp; omega) (by simp; try omega) ?_
       intro A4 c4' w4 ho4 hg4
       have hl4 : Later w2 w4 := Later.grown (by repeat' (with_reducible first | exact Later.refl _ | assumption | refine Later.drew ?_ | refine Later.drewN ?_ _ | refine Later.alloc ?_ _ | refine Later.put ?_ (by omega) _ | refine Later.trans ?_ (by assumption))) hg4 (by intro g hg; cases hg; simp)
       have hk4 := fun (g : Nat) (t : TypeId) (cs : Array Value) (h : Blk _ g t cs) (hn : some g ≠ some (w2.heap.size)) => Blk.grown h hg4 hn)
    | (refine step_append_rec (v := .slice (some ⟨w2.heap.size + 1, 0, none⟩) 0 0) slt_put pu_cells pu_one rfl (.tmp 26) (.tmp 28) rfl (base := w2.heap.size) (l := []) rfl (by repeat' (first | (with_reducible assumption) | (with_reducible refine OwnR.drew ?_) | (refine OwnR.lit [] #[] rfl pu_cells (by simp) (by simp) rfl (by simp); done) | (with_reducible refine OwnR.alloc ?_ _))) pu rfl Hnil.out (Hsrc.out.later (by repeat' (with_reducible first | exact Later.refl _ | assumption | refine Later.drew ?_ | refine Later.drewN ?_ _ | refine Later.alloc ?_ _ | refine Later.put ?_ (by omega) _ | refine Later.trans ?_ (by assumption)))) (by simp; omega) (by simp; try omega) ?_
       intro A4 c4' w4 ho4 hg4
       have hl4 : Later w2 w4 := Later.grown (by repeat' (with_reducible first | exact Later.refl _ | assumption | refine Later.drew ?_ | refine Later.drewN ?_ _ | refine Later.alloc ?_ _ | refine Later.put ?_ (by omega) _ | refine Later.trans ?_ (by assumption))) hg4 (by intro g hg; cases hg; simp)
       have hk4 := fun (g : Nat) (t : TypeId) (cs : Array Value) (h : Blk _ g t cs) (hn : some g ≠ some (w2.heap.size + 1)) => Blk.grown h hg4 hn)
    | (refine step_append_rec (v := .slice A4 ([] ++ pu).length c4') slt_put pu_cells pu_one rfl (.tmp 29) (.tmp 31) rfl (base := w2.heap.size) (l := [] ++ pu) rfl (by repeat' (first | (with_reducible assumption) | (with_reducible refine OwnR.drew ?_) | (refine OwnR.lit [] #[] rfl pu_cells (by simp) (by simp) rfl (by simp); done) | (with_reducible refine OwnR.alloc ?_ _))) (A := some ⟨w4.heap.size, 0, none⟩) [⟨osh, ofl, oq, ox, oy⟩] rfl (by intro h; cases h) (SrcAt.blk (cs := #[.int .i64 osh, .bool ofl, .int .i64 oq, .int .i64 ox, .int .i64 oy]) (by repeat' (with_reducible first | assumption | (refine Blk.newAt ?_; simp; done) | refine Blk.alloc ?_ _ | refine Blk.drew ?_ | refine Blk.drewN ?_ _ | refine Blk.later ?_ (by assumption)))) (by simp; omega) (by have := hl4.size; simp; try omega) ?_
       intro A5 c5' w5 ho5 hg5
       have hl5 : Later w2 w5 := Later.grown (by repeat' (with_reducible first | exact Later.refl _ | assumption | refine Later.drew ?_ | refine Later.drewN ?_ _ | refine Later.alloc ?_ _ | refine Later.put ?_ (by omega) _ | refine Later.trans ?_ (by assumption))) hg5 (fun g hg => (World.ownsRow.lt ho4 g hg).1))
    | (refine step_append_rec (v := .slice A4 ([] ++ pu).length c4') slt_put pu_cells pu_one rfl (.tmp 29) (.tmp 31) rfl (base := w2.heap.size) (l := [] ++ pu) rfl (by repeat' (first | (with_reducible assumption) | (with_reducible refine OwnR.drew ?_) | (refine OwnR.lit [] #[] rfl pu_cells (by simp) (by simp) rfl (by simp); done) | (with_reducible refine OwnR.alloc ?_ _))) (A := some ⟨w2.heap.size, 0, none⟩) [⟨osh, ofl, oq, ox, oy⟩] rfl (by intro h; cases h) (SrcAt.blk (cs := #[.int .i64 osh, .bool ofl, .int .i64 oq, .int .i64 ox, .int .i64 oy]) (hk4 _ 80 _ (by repeat' (with_reducible first | assumption | (refine Blk.newAt ?_; simp; done) | refine Blk.alloc ?_ _ | refine Blk.drew ?_ | refine Blk.drewN ?_ _ | refine Blk.later ?_ (by assumption))) (by simp))) (by simp; omega) (by have := hl4.size; simp; try omega) ?_
       intro A5 c5' w5 ho5 hg5
       have hl5 : Later w2 w5 := Later.grown (by repeat' (with_reducible first | exact Later.refl _ | assumption | refine Later.drew ?_ | refine Later.drewN ?_ _ | refine Later.alloc ?_ _ | refine Later.put ?_ (by omega) _ | refine Later.trans ?_ (by assumption))) hg5 (fun g hg => (World.ownsRow.lt ho4 g hg).1))
    | (refine step_append_rec (v := .slice A4 ([] ++ pu).length c4') slt_put pu_cells pu_one rfl (.tmp 29) (.tmp 31) rfl (base := w2.heap.size) (l := [] ++ pu) rfl (by repeat' (first | (with_reducible assumption) | (with_reducible refine OwnR.drew ?_) | (refine OwnR.lit [] #[] rfl pu_cells (by simp) (by simp) rfl (by simp); done) | (with_reducible refine OwnR.alloc ?_ _))) (A := some ⟨w2.heap.size + 1, 0, none⟩) [⟨osh, ofl, oq, ox, oy⟩] rfl (by intro h; cases h) (SrcAt.blk (cs := #[.int .i64 osh, .bool ofl, .int .i64 oq, .int .i64 ox, .int .i64 oy]) (hk4 _ 80 _ (by repeat' (with_reducible first | assumption | (refine Blk.newAt ?_; simp; done) | refine Blk.alloc ?_ _ | refine Blk.drew ?_ | refine Blk.drewN ?_ _ | refine Blk.later ?_ (by assumption))) (by simp))) (by simp; omega) (by have := hl4.size; simp; try omega) ?_
       intro A5 c5' w5 ho5 hg5
       have hl5 : Later w2 w5 := Later.grown (by repeat' (with_reducible first | exact Later.refl _ | assumption | refine Later.drew ?_ | refine Later.drewN ?_ _ | refine Later.alloc ?_ _ | refine Later.put ?_ (by omega) _ | refine Later.trans ?_ (by assumption))) hg5 (fun g hg => (World.ownsRow.lt ho4 g hg).1))))
  all_goals
    have hlw : Later w w5 := hl2.trans hl5
    have d0 := hl5.cell (hb2.cell c0)
    have d1 := hl5.cell (hb2.cell c1)
    have d2 := hl5.cell (hb2.cell c2)
    have d3 := hl5.cell (hb2.cell c3)
    have d4 := hl5.cell b4
    have d5 := hl5.cell b5
    have e0 := hl5.cell p0
    have e1 := hl5.cell p1
    have e2 := hl5.cell p2
    have e3 := hl5.cell p3
    have e4 := hl5.cell p4
    rw [List.nil_append] at ho5
    have hmem : ∀ a ∈ pu ++ [(⟨osh, ofl, oq, ox, oy⟩ : Pu)], PuOk w5 a := by
      intro a ha
      simp only [List.mem_append, List.mem_singleton] at ha
      rcases ha with ha | rfl
      · obtain ⟨k, hk, rfl⟩ := List.getElem_of_mem ha
        obtain ⟨b, o, _, hx⟩ := hc.2.2.2.1 (by simp only []; omega)
        exact (hx k _ (List.getElem?_eq_getElem hk)).2
      · exact hpk
    obtain ⟨_, hcap5, _, hP5⟩ := OwnR.list pu_cells ho5 hmem
    have HM := Lib.hid (fun W (hW : Later w5 W) => HC.out ⟨bl, bw, rx, ry⟩ A5 c5' (pu ++ [(⟨osh, ofl, oq, ox, oy⟩ : Pu)]) W (hlw.trans hW) (Puts.later hP5 hW) hcap5)
    have hsn : pcheckR ⟨bl, bw, rx, ry⟩ sh (pu ++ [(⟨osh, ofl, oq, ox, oy⟩ : Pu)]) = 0 ↔ (pcheckR ⟨bl, bw, rx, ry⟩ sh pu = 0 ∧ fitsR ⟨bl, bw, rx, ry⟩ sh pu ⟨osh, ofl, oq, ox, oy⟩ = 0) := by
      exact pcheck_snoc (by omega)
    rw [Hok0.out] at hsn
    unfold Bd.agg at HM HT
    simp only [List.length_append, List.length_singleton] at HM
    simp only [] at HT
    generalize pcheckR ⟨bl, bw, rx, ry⟩ sh (pu ++ [(⟨osh, ofl, oq, ox, oy⟩ : Pu)]) = mr at HM hsn
    generalize fitsR ⟨bl, bw, rx, ry⟩ sh pu ⟨osh, ofl, oq, ox, oy⟩ = fr at HT hsn
    clear hmem hP5 ho5 hg5
    by_cases hz : ok0 = 0
    · by_cases hpl : 0 < pu.length
      · have hbd := pcheck_bed (b := ⟨bl, bw, rx, ry⟩) (by omega) hpl (Hok0.out.trans hz)
        simp only [] at hbd
        have hlg := pcheck_larger (b := ⟨bl, bw, rx, ry⟩) (b' := ⟨min (bl + 7) 1048576, min (bw + 3) 1048576, rx, ry⟩) (l := sh) (puts := pu) (by omega) (by simp only []; omega) (by simp only []; omega) (by simp only []; omega) (by simp only []; omega) rfl rfl (Hok0.out.trans hz)
        have HL := Lib.hid (fun W (hW : Later w W) => HC.out ⟨min (bl + 7) 1048576, min (bw + 3) 1048576, rx, ry⟩ pa pc pu W hW (hc.2.2.2.1.later hW) hc.2.2.2.2.1)
        rw [hlg] at HL
        unfold Bd.agg at HL
        simp only [] at HL
        have hw1 : IntKind.i64.wrap (bl + 7) = bl + 7 := IntWalk.i64_in _ (by omega)
        have hw2 : IntKind.i64.wrap (bw + 3) = bw + 3 := IntWalk.i64_in _ (by omega)
        have dpl : decide ((0 : Int) < (pu.length : Int)) = true := by simp; omega
        clear hlg
        by_cases hfr : fr = 0
        · have hmr : mr = 0 := hsn.2 ⟨hz, hfr⟩
          subst hz hfr hmr
          clear hsn
          have s5 := hlw.size
          go_wp2_with (first | (go_at_call 37; (with_reducible refine (HM.out _ (by repeat' (with_reducible first | exact Later.refl _ | assumption | refine Later.drew ?_ | refine Later.drewN ?_ _ | refine Later.alloc ?_ _ | refine Later.put ?_ (by omega) _ | refine Later.trans ?_ (by assumption)))).mono ?_); rintro e w6 ⟨rfl, hb6⟩; have k0 := hb6.cell d0; have k1 := hb6.cell d1; have k2 := hb6.cell d2; have k3 := hb6.cell d3; have k4 := hb6.cell d4; have k5 := hb6.cell d5; have l0 := hb6.cell e0; have l1 := hb6.cell e1; have l2 := hb6.cell e2; have l3 := hb6.cell e3; have l4 := hb6.cell e4; have hN6 : N < w6.heap.size := World.block_lt_of_cell? _ _ k0; have s6 := hb6.size) | (go_at_call 37; (with_reducible refine (HL.out _ (by repeat' (with_reducible first | exact Later.refl _ | assumption | refine Later.drew ?_ | refine Later.drewN ?_ _ | refine Later.alloc ?_ _ | refine Later.put ?_ (by omega) _ | refine Later.trans ?_ (by assumption)))).mono ?_); rintro e w8 ⟨rfl, hb8⟩) | (go_at_call 35; (with_reducible refine (HT.out _ (by repeat' (with_reducible first | exact Later.refl _ | assumption | refine Later.drew ?_ | refine Later.drewN ?_ _ | refine Later.alloc ?_ _ | refine Later.put ?_ (by omega) _ | refine Later.trans ?_ (by assumption)))).mono ?_); rintro e w7 ⟨rfl, hb7⟩; have m0 := hb7.cell k0; have m1 := hb7.cell k1; have m2 := hb7.cell k2; have m3 := hb7.cell k3; have m4 := hb7.cell k4; have m5 := hb7.cell k5; have hN7 : N < w7.heap.size := World.block_lt_of_cell? _ _ m0; have s7 := hb7.size) | (go_at_call 29; (with_reducible refine (HX.out _).mono ?_); rintro e w9 ⟨rfl, hb9⟩))
          all_goals go_ret
          all_goals exact ⟨rfl, (by repeat' (with_reducible first | exact Later.refl _ | assumption | refine Later.drew ?_ | refine Later.drewN ?_ _ | refine Later.alloc ?_ _ | refine Later.put ?_ (by omega) _ | refine Later.trans ?_ (by assumption)))⟩
        · have hmr : (mr == 0) = false := by simpa using fun h => hfr (hsn.1 h).2
          have hfr' : (fr == 0) = false := by simpa using hfr
          subst hz
          clear hsn
          have s5 := hlw.size
          go_wp2_with (first | (go_at_call 37; (with_reducible refine (HM.out _ (by repeat' (with_reducible first | exact Later.refl _ | assumption | refine Later.drew ?_ | refine Later.drewN ?_ _ | refine Later.alloc ?_ _ | refine Later.put ?_ (by omega) _ | refine Later.trans ?_ (by assumption)))).mono ?_); rintro e w6 ⟨rfl, hb6⟩; have k0 := hb6.cell d0; have k1 := hb6.cell d1; have k2 := hb6.cell d2; have k3 := hb6.cell d3; have k4 := hb6.cell d4; have k5 := hb6.cell d5; have l0 := hb6.cell e0; have l1 := hb6.cell e1; have l2 := hb6.cell e2; have l3 := hb6.cell e3; have l4 := hb6.cell e4; have hN6 : N < w6.heap.size := World.block_lt_of_cell? _ _ k0; have s6 := hb6.size) | (go_at_call 37; (with_reducible refine (HL.out _ (by repeat' (with_reducible first | exact Later.refl _ | assumption | refine Later.drew ?_ | refine Later.drewN ?_ _ | refine Later.alloc ?_ _ | refine Later.put ?_ (by omega) _ | refine Later.trans ?_ (by assumption)))).mono ?_); rintro e w8 ⟨rfl, hb8⟩) | (go_at_call 35; (with_reducible refine (HT.out _ (by repeat' (with_reducible first | exact Later.refl _ | assumption | refine Later.drew ?_ | refine Later.drewN ?_ _ | refine Later.alloc ?_ _ | refine Later.put ?_ (by omega) _ | refine Later.trans ?_ (by assumption)))).mono ?_); rintro e w7 ⟨rfl, hb7⟩; have m0 := hb7.cell k0; have m1 := hb7.cell k1; have m2 := hb7.cell k2; have m3 := hb7.cell k3; have m4 := hb7.cell k4; have m5 := hb7.cell k5; have hN7 : N < w7.heap.size := World.block_lt_of_cell? _ _ m0; have s7 := hb7.size) | (go_at_call 29; (with_reducible refine (HX.out _).mono ?_); rintro e w9 ⟨rfl, hb9⟩))
          all_goals go_ret
          all_goals exact ⟨rfl, (by repeat' (with_reducible first | exact Later.refl _ | assumption | refine Later.drew ?_ | refine Later.drewN ?_ _ | refine Later.alloc ?_ _ | refine Later.put ?_ (by omega) _ | refine Later.trans ?_ (by assumption)))⟩
      · have dpl : decide ((0 : Int) < (pu.length : Int)) = false := by rw [decide_eq_false_iff_not]; omega
        by_cases hfr : fr = 0
        · have hmr : mr = 0 := hsn.2 ⟨hz, hfr⟩
          subst hz hfr hmr
          clear hsn
          go_wp2_with (first | (go_at_call 37; (with_reducible refine (HM.out _ (by repeat' (with_reducible first | exact Later.refl _ | assumption | refine Later.drew ?_ | refine Later.drewN ?_ _ | refine Later.alloc ?_ _ | refine Later.put ?_ (by omega) _ | refine Later.trans ?_ (by assumption)))).mono ?_); rintro e w6 ⟨rfl, hb6⟩; have k0 := hb6.cell d0; have k1 := hb6.cell d1; have k2 := hb6.cell d2; have k3 := hb6.cell d3; have k4 := hb6.cell d4; have k5 := hb6.cell d5; have l0 := hb6.cell e0; have l1 := hb6.cell e1; have l2 := hb6.cell e2; have l3 := hb6.cell e3; have l4 := hb6.cell e4; have hN6 : N < w6.heap.size := World.block_lt_of_cell? _ _ k0; have s6 := hb6.size) | (go_at_call 37; (with_reducible refine (HL.out _ (by repeat' (with_reducible first | exact Later.refl _ | assumption | refine Later.drew ?_ | refine Later.drewN ?_ _ | refine Later.alloc ?_ _ | refine Later.put ?_ (by omega) _ | refine Later.trans ?_ (by assumption)))).mono ?_); rintro e w8 ⟨rfl, hb8⟩) | (go_at_call 35; (with_reducible refine (HT.out _ (by repeat' (with_reducible first | exact Later.refl _ | assumption | refine Later.drew ?_ | refine Later.drewN ?_ _ | refine Later.alloc ?_ _ | refine Later.put ?_ (by omega) _ | refine Later.trans ?_ (by assumption)))).mono ?_); rintro e w7 ⟨rfl, hb7⟩; have m0 := hb7.cell k0; have m1 := hb7.cell k1; have m2 := hb7.cell k2; have m3 := hb7.cell k3; have m4 := hb7.cell k4; have m5 := hb7.cell k5; have hN7 : N < w7.heap.size := World.block_lt_of_cell? _ _ m0; have s7 := hb7.size) | (go_at_call 29; (with_reducible refine (HX.out _).mono ?_); rintro e w9 ⟨rfl, hb9⟩))
          all_goals go_ret
          all_goals exact ⟨rfl, (by repeat' (with_reducible first | exact Later.refl _ | assumption | refine Later.drew ?_ | refine Later.drewN ?_ _ | refine Later.alloc ?_ _ | refine Later.put ?_ (by omega) _ | refine Later.trans ?_ (by assumption)))⟩
        · have hmr : (mr == 0) = false := by simpa using fun h => hfr (hsn.1 h).2
          have hfr' : (fr == 0) = false := by simpa using hfr
          subst hz
          clear hsn
          go_wp2_with (first | (go_at_call 37; (with_reducible refine (HM.out _ (by repeat' (with_reducible first | exact Later.refl _ | assumption | refine Later.drew ?_ | refine Later.drewN ?_ _ | refine Later.alloc ?_ _ | refine Later.put ?_ (by omega) _ | refine Later.trans ?_ (by assumption)))).mono ?_); rintro e w6 ⟨rfl, hb6⟩; have k0 := hb6.cell d0; have k1 := hb6.cell d1; have k2 := hb6.cell d2; have k3 := hb6.cell d3; have k4 := hb6.cell d4; have k5 := hb6.cell d5; have l0 := hb6.cell e0; have l1 := hb6.cell e1; have l2 := hb6.cell e2; have l3 := hb6.cell e3; have l4 := hb6.cell e4; have hN6 : N < w6.heap.size := World.block_lt_of_cell? _ _ k0; have s6 := hb6.size) | (go_at_call 37; (with_reducible refine (HL.out _ (by repeat' (with_reducible first | exact Later.refl _ | assumption | refine Later.drew ?_ | refine Later.drewN ?_ _ | refine Later.alloc ?_ _ | refine Later.put ?_ (by omega) _ | refine Later.trans ?_ (by assumption)))).mono ?_); rintro e w8 ⟨rfl, hb8⟩) | (go_at_call 35; (with_reducible refine (HT.out _ (by repeat' (with_reducible first | exact Later.refl _ | assumption | refine Later.drew ?_ | refine Later.drewN ?_ _ | refine Later.alloc ?_ _ | refine Later.put ?_ (by omega) _ | refine Later.trans ?_ (by assumption)))).mono ?_); rintro e w7 ⟨rfl, hb7⟩; have m0 := hb7.cell k0; have m1 := hb7.cell k1; have m2 := hb7.cell k2; have m3 := hb7.cell k3; have m4 := hb7.cell k4; have m5 := hb7.cell k5; have hN7 : N < w7.heap.size := World.block_lt_of_cell? _ _ m0; have s7 := hb7.size) | (go_at_call 29; (with_reducible refine (HX.out _).mono ?_); rintro e w9 ⟨rfl, hb9⟩))
          all_goals go_ret
          all_goals exact ⟨rfl, (by repeat' (with_reducible first | exact Later.refl _ | assumption | refine Later.drew ?_ | refine Later.drewN ?_ _ | refine Later.alloc ?_ _ | refine Later.put ?_ (by omega) _ | refine Later.trans ?_ (by assumption)))⟩
    · have hmr : (mr == 0) = false := by simpa using fun h => hz (hsn.1 h).1
      have hz' : (ok0 == 0) = false := by simpa using hz
      clear hsn
      go_wp2_with (first | (go_at_call 37; (with_reducible refine (HM.out _ (by repeat' (with_reducible first | exact Later.refl _ | assumption | refine Later.drew ?_ | refine Later.drewN ?_ _ | refine Later.alloc ?_ _ | refine Later.put ?_ (by omega) _ | refine Later.trans ?_ (by assumption)))).mono ?_); rintro e w6 ⟨rfl, hb6⟩; have k0 := hb6.cell d0; have k1 := hb6.cell d1; have k2 := hb6.cell d2; have k3 := hb6.cell d3; have k4 := hb6.cell d4; have k5 := hb6.cell d5; have l0 := hb6.cell e0; have l1 := hb6.cell e1; have l2 := hb6.cell e2; have l3 := hb6.cell e3; have l4 := hb6.cell e4; have hN6 : N < w6.heap.size := World.block_lt_of_cell? _ _ k0) | (go_at_call 35; (with_reducible refine (HT.out _ (by repeat' (with_reducible first | exact Later.refl _ | assumption | refine Later.drew ?_ | refine Later.drewN ?_ _ | refine Later.alloc ?_ _ | refine Later.put ?_ (by omega) _ | refine Later.trans ?_ (by assumption)))).mono ?_); rintro e w7 ⟨rfl, hb7⟩; have m0 := hb7.cell k0; have m1 := hb7.cell k1; have m2 := hb7.cell k2; have m3 := hb7.cell k3; have m4 := hb7.cell k4; have m5 := hb7.cell k5; have hN7 : N < w7.heap.size := World.block_lt_of_cell? _ _ m0) | (go_at_call 29; (with_reducible refine (HX.out _).mono ?_); rintro e w9 ⟨rfl, hb9⟩))
      all_goals go_ret
      all_goals exact ⟨rfl, (by repeat' (with_reducible first | exact Later.refl _ | assumption | refine Later.drew ?_ | refine Later.drewN ?_ _ | refine Later.alloc ?_ _ | refine Later.put ?_ (by omega) _ | refine Later.trans ?_ (by assumption)))⟩

set_option maxHeartbeats 4000000 in
theorem law30_PlaceGrows_few (hex : ∀ W, Calls Try.prog 29 #[] W (Ret (.bool true) W)) (c : Cs) (p : Pu) (w : World) (hc : CsOk w c) (hf : fewCs c = false) :
    Calls Try.prog 13 #[c.agg, p.agg] w (Ret (.bool true) w) := by
  have HX := Lib.hid hex
  have HF := Lib.hid (fun W (hW : Later w W) => law30_few c W (hc.later hW))
  rw [hf] at HF
  unfold Cs.agg at HF ⊢
  unfold Pu.agg
  obtain ⟨⟨bl, bw, rx, ry⟩, sa, sc, sh, pa, pc, pu⟩ := c
  obtain ⟨osh, ofl, oq, ox, oy⟩ := p
  simp only [] at HF ⊢
  clear hex hc hf
  go_enter Try.func13, Try.ntmps13
  go_wp2_with (first | (go_at_call 28; (with_reducible refine (HF.out _ (by repeat' (with_reducible first | exact Later.refl _ | assumption | refine Later.drew ?_ | refine Later.drewN ?_ _ | refine Later.alloc ?_ _ | refine Later.put ?_ (by omega) _ | refine Later.trans ?_ (by assumption)))).mono ?_); rintro e w1 ⟨rfl, hb1⟩) | (go_at_call 29; (with_reducible refine (HX.out _).mono ?_); rintro e w9 ⟨rfl, hb9⟩))
  go_ret
  exact ⟨rfl, (by repeat' (with_reducible first | exact Later.refl _ | assumption | refine Later.drew ?_ | refine Later.drewN ?_ _ | refine Later.alloc ?_ _ | refine Later.put ?_ (by omega) _ | refine Later.trans ?_ (by assumption)))⟩

set_option maxHeartbeats 4000000 in
theorem law30_PlaceGrows_long (hex : ∀ W, Calls Try.prog 29 #[] W (Ret (.bool true) W)) (c : Cs) (p : Pu) (w : World) (hc : CsOk w c) (hf : fewCs c = true) (h7 : 7 < c.pu.length) :
    Calls Try.prog 13 #[c.agg, p.agg] w (Ret (.bool true) w) := by
  have HX := Lib.hid hex
  have HF := Lib.hid (fun W (hW : Later w W) => law30_few c W (hc.later hW))
  rw [hf] at HF
  unfold Cs.agg at HF ⊢
  unfold Pu.agg
  obtain ⟨⟨bl, bw, rx, ry⟩, sa, sc, sh, pa, pc, pu⟩ := c
  obtain ⟨osh, ofl, oq, ox, oy⟩ := p
  simp only [] at HF h7 ⊢
  have d7 : decide ((7 : Int) < (pu.length : Int)) = true := by rw [decide_eq_true_iff]; omega
  clear hex hc hf h7
  go_enter Try.func13, Try.ntmps13
  go_wp2_with (first | (go_at_call 28; (with_reducible refine (HF.out _ (by repeat' (with_reducible first | exact Later.refl _ | assumption | refine Later.drew ?_ | refine Later.drewN ?_ _ | refine Later.alloc ?_ _ | refine Later.put ?_ (by omega) _ | refine Later.trans ?_ (by assumption)))).mono ?_); rintro e w1 ⟨rfl, hb1⟩; have q5 : w1.cell? ⟨w.heap.size, 5, none⟩ = some (.slice pa pu.length pc) := hb1.cell (by simp [go_sem])) | (go_at_call 29; (with_reducible refine (HX.out _).mono ?_); rintro e w9 ⟨rfl, hb9⟩))
  go_ret
  exact ⟨rfl, (by repeat' (with_reducible first | exact Later.refl _ | assumption | refine Later.drew ?_ | refine Later.drewN ?_ _ | refine Later.alloc ?_ _ | refine Later.put ?_ (by omega) _ | refine Later.trans ?_ (by assumption)))⟩

theorem law30_PlaceGrows (hex : ∀ W, Calls Try.prog 29 #[] W (Ret (.bool true) W)) (c : Cs) (p : Pu) (w : World) (hc : CsOk w c) (hpk : PuOk w p) :
    Calls Try.prog 13 #[c.agg, p.agg] w (Ret (.bool true) w) := by
  cases hf : fewCs c with
  | false => exact law30_PlaceGrows_few hex c p w hc hf
  | true =>
    rcases Nat.lt_or_ge 7 c.pu.length with h7 | h7
    · exact law30_PlaceGrows_long hex c p w hc hf h7
    · exact law30_PlaceGrows_in hex c p w hc hpk hf h7

end Go.Proofs.Ytolddfapanabbaa
