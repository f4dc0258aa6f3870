/-
  PlaceParts, walked.
-/
import Derived.Test.YtolddfapanabbaaLawGro
namespace Go.Proofs.Ytolddfapanabbaa
open Go.RowKit
set_option linter.unusedSimpArgs false
set_option linter.unusedVariables false

def PutsPost (l : List Pu) (w : World) (e : Ending) (w' : World) : Prop := ∃ A c, e = .returned (.slice A l.length c) ∧ l.length ≤ c ∧ c ≤ maxLen ∧ Puts w' A l ∧ Later w w'
theorem puts_ok {w : World} {A : Option Addr} {l : List Pu} (h : Puts w A l) : ∀ p ∈ l, PuOk w p := by
  intro a ha
  obtain ⟨k, hk, rfl⟩ := List.getElem_of_mem ha
  obtain ⟨b, o, _, hx⟩ := h (by omega)
  exact (hx k _ (List.getElem?_eq_getElem hk)).2

set_option maxHeartbeats 4000000 in
set_option maxRecDepth 100000 in
theorem law30_without (A : Option Addr) (c k : Nat) (l : List Pu) (w : World) (hp : Puts w A l) (hc : l.length ≤ c) (hl : l.length ≤ 8) (hk : k < l.length) :
    Calls Try.prog 38 #[.slice A l.length c, .int .i64 k] w (PutsPost (l.take k ++ l.drop (k + 1)) w) := by
  obtain ⟨b, o, rfl, hx⟩ := id (hp (by omega))
  have hlk : (l.take k).length = k := by simp; omega
  have hlk2 : (l.drop (k + 1)).length = l.length - (k + 1) := by simp
  have s1 : SrcAt w (some ⟨b, o, none⟩) ((l.take k).flatMap Pu.cells) := SrcAt.list (ok := PuOk) pu_cells (fun hn => ⟨b, o, rfl, fun i a ha => hx i a (by rw [List.getElem?_take] at ha; split at ha; exact ha; cases ha)⟩)
  have s2 : SrcAt w (some ⟨b, o + (k + 1) * 5, none⟩) ((l.drop (k + 1)).flatMap Pu.cells) := SrcAt.list (ok := PuOk) pu_cells (fun hn => ⟨b, o + (k + 1) * 5, rfl, fun i a ha => by
    rw [List.getElem?_drop] at ha
    have := hx _ a ha
    rw [show o + (k + 1 + i) * 5 = o + (k + 1) * 5 + i * 5 by omega] at this
    exact this⟩)
  have s2' : SrcAt w (if c = k + 1 then some ⟨b, o, none⟩ else some ⟨b, o + (k + 1) * 5, none⟩) ((l.drop (k + 1)).flatMap Pu.cells) := by
    split
    · have : l.drop (k + 1) = [] := List.drop_eq_nil_of_le (by omega)
      rw [this]
      intro ad _ j u hu
      simp at hu
    · exact s2
  have S1 := Lib.hid s1
  have S2 := Lib.hid s2'
  clear s1 s2 s2' hx
  have i1 : (0 : Int) ≤ (k : Int) := by omega
  have i2 : (k : Int) ≤ (c : Int) := by omega
  have i3 : (0 : Int) ≤ (k : Int) + 1 := by omega
  have i4 : (k : Int) + 1 ≤ (l.length : Int) := by omega
  have i5 : (l.length : Int) ≤ (c : Int) := by omega
  have i6 : (k : Int).toNat = k := by omega
  have i7 : ((k : Int) + 1).toNat = k + 1 := by omega
  have hwk : IntKind.i64.wrap ((k : Int) + 1) = (k : Int) + 1 := IntWalk.i64_in _ (by omega)
  go_enter Try.func38, Try.ntmps38
  go_wp2
  go_region_held3 (fun w' : World => (∀ a : Addr, (w.cell? a).isSome = true → w'.cell? a = w.cell? a) ∧ Later w w') (first | assumption | exact keep_call (by assumption) (by assumption) | exact keep_call (by assumption) ((Later.refl _).alloc _) | exact keep_init _ | exact ⟨Later.keeps (by assumption), by assumption⟩) ((first
    | (refine step_append_rec (v := .slice (some ⟨w.heap.size, 0, none⟩) 0 0) slt_put pu_cells pu_one rfl (.tmp 5) (.tmp 8) rfl (base := w.heap.size) (l := []) rfl (by repeat' (first | (with_reducible assumption) | (with_reducible refine OwnR.drew ?_) | (refine OwnR.lit [] #[] rfl pu_cells (by simp) (by simp) rfl (by simp); done) | (with_reducible refine OwnR.alloc ?_ _))) (A := some ⟨b, o, none⟩) (c := c) (l.take k) (by rw [hlk]; rfl) (by intro h; cases h) (S1.out.later (by repeat' (with_reducible first | exact Later.refl _ | assumption | refine Later.drew ?_ | refine Later.drewN ?_ _ | refine Later.alloc ?_ _ | refine Later.put ?_ (by omega) _ | refine Later.trans ?_ (by assumption)))) (by simp; omega) (by simp; try omega) ?_
       intro A4 c4' w4 ho4 hg4
       have hl4 : Later w w4 := Later.grown (by repeat' (with_reducible first | exact Later.refl _ | assumption | refine Later.drew ?_ | refine Later.drewN ?_ _ | refine Later.alloc ?_ _ | refine Later.put ?_ (by omega) _ | refine Later.trans ?_ (by assumption))) hg4 (by intro g hg; cases hg; simp))
    | (refine step_append_rec (v := .slice A4 ([] ++ l.take k).length c4') slt_put pu_cells pu_one rfl (.tmp 9) (.tmp 13) rfl (base := w.heap.size) (l := [] ++ l.take k) rfl (by repeat' (first | (with_reducible assumption) | (with_reducible refine OwnR.drew ?_) | (refine OwnR.lit [] #[] rfl pu_cells (by simp) (by simp) rfl (by simp); done) | (with_reducible refine OwnR.alloc ?_ _))) (A := if c = k + 1 then some ⟨b, o, none⟩ else some ⟨b, o + (k + 1) * 5, none⟩) (c := c - (k + 1)) (l.drop (k + 1)) (by rw [hlk2]; rfl) (by intro h; split at h <;> cases h) (S2.out.later (by repeat' (with_reducible first | exact Later.refl _ | assumption | refine Later.drew ?_ | refine Later.drewN ?_ _ | refine Later.alloc ?_ _ | refine Later.put ?_ (by omega) _ | refine Later.trans ?_ (by assumption)))) (by simp; omega) (by have := hl4.size; simp; try omega) ?_
       intro A5 c5' w5 ho5 hg5
       have hl5 : Later w w5 := Later.grown (by repeat' (with_reducible first | exact Later.refl _ | assumption | refine Later.drew ?_ | refine Later.drewN ?_ _ | refine Later.alloc ?_ _ | refine Later.put ?_ (by omega) _ | refine Later.trans ?_ (by assumption))) hg5 (fun g hg => (World.ownsRow.lt ho4 g hg).1))))
  rw [List.nil_append] at ho5
  obtain ⟨_, hcap5, hm5, hP5⟩ := OwnR.list (ok := PuOk) pu_cells ho5 (fun p hp' => puts_ok (hp.later hl5) p (by
    rcases List.mem_append.1 hp' with q | q
    · exact List.mem_of_mem_take q
    · exact List.mem_of_mem_drop q))
  have hlen : (l.take k ++ l.drop (k + 1)).length = k + (l.length - (k + 1)) := by rw [List.length_append, hlk, hlk2]
  by_cases hck : c = k + 1
  · go_wp2
    all_goals go_ret
    all_goals exact ⟨A5, c5', by rw [hlen]; rfl, hcap5, hm5, hP5, hl5⟩
  · go_wp2
    all_goals go_ret
    all_goals exact ⟨A5, c5', by rw [hlen]; rfl, hcap5, hm5, hP5, hl5⟩

set_option maxHeartbeats 4000000 in
set_option maxRecDepth 100000 in
theorem law30_PlaceParts_in (hex : ∀ W, Calls Try.prog 29 #[] W (Ret (.bool true) W)) (c : Cs) (k : Nat) (w : World) (hc : CsOk w c) (hk : k ≤ 255) (hf : fewCs c = true) :
    Calls Try.prog 12 #[c.agg, .int .u8 k] w (Ret (.bool true) w) := by
  have HX := Lib.hid hex
  have HF := Lib.hid (fun W (hW : Later w W) => law30_few c W (hc.later hW))
  rw [hf] at HF
  unfold fewCs at hf
  rw [Bool.and_eq_true] at hf
  obtain ⟨h8, h12⟩ := fewSh_all hf.1
  have hpl8 : c.pu.length ≤ 8 := by have := hf.2; simp at this; omega
  have HC := Lib.hid (fun (b : Bd) (pa : Option Addr) (pc : Nat) (pu : List Pu) W (hW : Later w W) (hp : Puts W pa pu) (hpc : pu.length ≤ pc) => place_Check b c.sa pa c.sc pc c.sh pu W (hc.1.later hW) (by omega) (fun s hs => by have := h12 s hs; omega) hp hpc)
  unfold Cs.agg at HF ⊢
  obtain ⟨⟨bl, bw, rx, ry⟩, sa, sc, sh, pa, pc, pu⟩ := c
  simp only [] at HF HC h8 h12 hpl8 ⊢
  go_enter Try.func12, Try.ntmps12
  go_upto_region 3 with (first | (go_at_call 28; (with_reducible refine (HF.out _ (by repeat' (with_reducible first | exact Later.refl _ | assumption | refine Later.drew ?_ | refine Later.drewN ?_ _ | refine Later.alloc ?_ _ | refine Later.put ?_ (by omega) _ | refine Later.trans ?_ (by assumption)))).mono ?_); rintro e w1 ⟨rfl, hb1⟩; have q5 : w1.cell? ⟨w.heap.size, 5, none⟩ = some (.slice pa pu.length pc) := hb1.cell (by simp [go_sem])))
  have D0 : Blk w1 w.heap.size 72 #[.int .i64 bl, .int .i64 bw, .int .i64 rx, .int .i64 ry, .slice sa sh.length sc, .slice pa pu.length pc] := Blk.later (by repeat' (with_reducible first | assumption | (refine Blk.newAt ?_; simp; done) | refine Blk.alloc ?_ _ | refine Blk.drew ?_ | refine Blk.drewN ?_ _ | refine Blk.later ?_ (by assumption))) hb1
  have hl1 : Later w w1 := (by repeat' (with_reducible first | exact Later.refl _ | assumption | refine Later.drew ?_ | refine Later.drewN ?_ _ | refine Later.alloc ?_ _ | refine Later.put ?_ (by omega) _ | refine Later.trans ?_ (by assumption)))
  clear hb1 q5 HF
  generalize w.heap.size = N at *
  have c0 : w1.cell? ⟨N, 0, none⟩ = some (.int .i64 bl) := D0.cell 0
  have c1 : w1.cell? ⟨N, 1, none⟩ = some (.int .i64 bw) := D0.cell 1
  have c2 : w1.cell? ⟨N, 2, none⟩ = some (.int .i64 rx) := D0.cell 2
  have c3 : w1.cell? ⟨N, 3, none⟩ = some (.int .i64 ry) := D0.cell 3
  have c4 : w1.cell? ⟨N, 4, none⟩ = some (.slice sa sh.length sc) := D0.cell 4
  have c5 : w1.cell? ⟨N, 5, none⟩ = some (.slice pa pu.length pc) := D0.cell 5
  have hN1 : N < w1.heap.size := World.block_lt_of_cell? _ _ c0
  have hP1 : Puts w1 pa pu := hc.2.2.2.1.later hl1
  have hw0 : IntKind.i64.wrap ((pu.length : Int) - 1) = (pu.length : Int) - 1 := IntWalk.i64_in _ (by omega)
  go_wp2
  go_loopw [5, 6] (fun v ii wr => ((∃ k : Nat, k < pu.length ∧ ii = .int .i64 (k : Int) ∧ OwnR wr w1.heap.size 80 5 Pu.cells v (pu.reverse.take (pu.length - 1 - k))) ∨ (ii = .int .i64 (-1) ∧ OwnR wr w1.heap.size 80 5 Pu.cells v pu.reverse)) ∧ Later w1 wr) (fun _ ii _ => (intOf ii + 1).toNat)
  case atStart =>
    refine ⟨?_, Later.refl _⟩
    rcases Nat.eq_zero_or_pos pu.length with h0 | h0
    · right
      refine ⟨by rw [h0]; rfl, ?_⟩
      rw [List.eq_nil_of_length_eq_zero h0]
      exact World.ownsRow_nil _ _ _ _
    · left
      refine ⟨pu.length - 1, by omega, by congr 1; omega, ?_⟩
      rw [Nat.sub_self, List.take_zero]
      exact World.ownsRow_nil _ _ _ _
  case round =>
    obtain ⟨hk2, hb⟩ := hrel
    have r5 := hb.cell c5
    have hNr : N < wr.heap.size := Nat.lt_of_lt_of_le hN1 hb.size
    rcases hk2 with ⟨j, hj, rfl, hown⟩ | ⟨rfl, hown⟩
    · obtain ⟨bb, ob, rfl, e0, e1, e2, e3, e4, hok⟩ := (hP1.later hb).at_ hj
      have hbz : bb < wr.heap.size := World.block_lt_of_cell? _ _ e0
      have htk : pu.reverse.take (pu.length - j) = pu.reverse.take (pu.length - 1 - j) ++ [pu[j]] := by
        rw [show pu.length - j = (pu.length - 1 - j) + 1 by omega, List.take_succ_eq_append_getElem (by simp; omega)]
        congr 1
        rw [List.getElem_reverse]
        congr 1
        congr 1
        omega
      have Ht := Lib.hid htk
      have hll : (pu.reverse.take (pu.length - 1 - j)).length ≤ 8 := by simp; omega
      clear htk
      generalize pu[j] = q at *
      obtain ⟨qs, qf, qq, qx, qy⟩ := q
      simp only [] at e0 e1 e2 e3 e4
      generalize pu.reverse.take (pu.length - 1 - j) = acc at *
      have Ho := Lib.hid hown
      have Hll := Lib.hid hll
      clear hown hll
      have hw1 : IntKind.i64.wrap ((j : Int) - 1) = (j : Int) - 1 := IntWalk.i64_in _ (by omega)
      have i1 : (0 : Int) ≤ (j : Int) := by omega
      have i2 : (j : Int) < (pu.length : Int) := by omega
      go_upto_region 7 with fail
      have hB : Blk (wr.alloc (.cells #[.int .i64 qs, .bool qf, .int .i64 qq, .int .i64 qx, .int .i64 qy] 80)) wr.heap.size 80 #[.int .i64 qs, .bool qf, .int .i64 qq, .int .i64 qx, .int .i64 qy] := (by repeat' (with_reducible first | assumption | (refine Blk.newAt ?_; simp; done) | refine Blk.alloc ?_ _ | refine Blk.drew ?_ | refine Blk.drewN ?_ _ | refine Blk.later ?_ (by assumption)))
      have HS := Lib.hid (SrcAt.blk hB)
      clear hB
      go_wp2_with (at_builtin; refine wpList_append_rec slt_put pu_cells pu_one rfl (.tmp 20) (.tmp 26) rfl (base := w1.heap.size) (l := acc) rfl (OwnR.alloc Ho.out _) [⟨qs, qf, qq, qx, qy⟩] rfl (by intro h; cases h) HS.out (by have := Hll.out; simp; omega) (by have := hb.size; simp; omega) ?_; intro A3 c3' w3 ho3 hg3)
      have hl3 : Later w1 w3 := Later.grown (by repeat' (with_reducible first | exact Later.refl _ | assumption | refine Later.drew ?_ | refine Later.drewN ?_ _ | refine Later.alloc ?_ _ | refine Later.put ?_ (by omega) _ | refine Later.trans ?_ (by assumption))) hg3 (fun g hg => (World.ownsRow.lt Ho.out g hg).1)
      clear hg3
      simp only [List.length_append, List.length_singleton] at ho3
      go_wp2
      go_roundw
      case rel =>
        refine ⟨?_, hl3⟩
        rcases Nat.eq_zero_or_pos j with h0 | h0
        · right
          subst h0
          refine ⟨rfl, ?_⟩
          have hh := Ht.out
          rw [Nat.sub_zero, List.take_of_length_le (by simp)] at hh
          rw [hh]
          exact ho3
        · left
          refine ⟨j - 1, by omega, by congr 1; omega, ?_⟩
          rw [show pu.length - 1 - (j - 1) = pu.length - j by omega, Ht.out]
          exact ho3
      case measure => simp [intOf]
    · obtain ⟨A6, c6, rfl, _⟩ := hown.form pu_cells
      obtain ⟨_, hcap6, _, hP6⟩ := OwnR.list (ok := PuOk) pu_cells hown (fun p hp' => puts_ok (hP1.later hb) p (by simpa using hp'))
      have hlw : Later w wr := hl1.trans hb
      have HC0 := Lib.hid (fun W (hW : Later wr W) => HC.out ⟨bl, bw, rx, ry⟩ pa pc pu W (hlw.trans hW) (hP1.later (hb.trans hW)) hc.2.2.2.2.1)
      have HR := Lib.hid (fun W (hW : Later wr W) => HC.out ⟨bl, bw, rx, ry⟩ A6 c6 pu.reverse W (hlw.trans hW) (Puts.later hP6 hW) hcap6)
      have hrev : pcheckR ⟨bl, bw, rx, ry⟩ sh pu.reverse = 0 ↔ pcheckR ⟨bl, bw, rx, ry⟩ sh pu = 0 := pcheck_reverse (by omega)
      have HS := Lib.hid (fun (qs : List Pu) (hs : qs.Sublist pu) (h : pcheckR ⟨bl, bw, rx, ry⟩ sh pu = 0) => pcheck_sub (b := ⟨bl, bw, rx, ry⟩) (l := sh) (by omega) hs h)
      rw [List.length_reverse] at HR
      unfold Bd.agg at HC0 HR
      simp only [] at HC0 HR
      generalize pcheckR ⟨bl, bw, rx, ry⟩ sh pu = ok0 at HC0 hrev HS
      generalize pcheckR ⟨bl, bw, rx, ry⟩ sh pu.reverse = okr at HR hrev
      have s0 := hb.cell c0
      have s1 := hb.cell c1
      have s2 := hb.cell c2
      have s3 := hb.cell c3
      have s4 := hb.cell c4
      rw [List.length_reverse]
      clear hown hP6 hcap6
      by_cases hz : ok0 = 0
      · have hzr : okr = 0 := hrev.2 hz
        have HS' := Lib.hid (fun (qs : List Pu) (hs : qs.Sublist pu) => HS.out qs hs hz)
        subst hz hzr
        clear hrev HS
        by_cases hpl : 0 < pu.length
        · have dpl : decide ((0 : Int) < (pu.length : Int)) = true := by rw [decide_eq_true_iff]; omega
          have hmod : k % pu.length < pu.length := Nat.mod_lt _ hpl
          have hHW := fun W (hW : Later wr W) => law30_without pa pc (k % pu.length) pu W (hP1.later (hb.trans hW)) hc.2.2.2.2.1 hpl8 hmod
          have hsub : (pu.take (k % pu.length) ++ pu.drop (k % pu.length + 1)).Sublist pu := by
            rw [← List.eraseIdx_eq_take_drop_succ]
            exact List.eraseIdx_sublist ..
          have hpw := HS'.out _ hsub
          generalize pu.take (k % pu.length) ++ pu.drop (k % pu.length + 1) = qs at hHW hpw
          simp only [Int.natCast_emod] at hHW
          have HW := Lib.hid hHW
          have HCw := Lib.hid (fun (A : Option Addr) (c : Nat) W (hW : Later wr W) (hp : Puts W A qs) (hpc : qs.length ≤ c) => HC.out ⟨bl, bw, rx, ry⟩ A c qs W (hlw.trans hW) hp hpc)
          rw [hpw] at HCw
          unfold Bd.agg at HCw
          simp only [] at HCw
          clear hHW hpw hsub
          have hwk : IntKind.i64.wrap (k : Int) = (k : Int) := IntWalk.i64_in _ (by omega)
          have htm : (k : Int).tmod (pu.length : Int) = (k : Int) % (pu.length : Int) := Int.tmod_eq_emod_of_nonneg (by omega)
          have hne : ¬ (pu.length : Int) = 0 := by omega
          have hnil : ¬ pu = [] := by intro h; rw [h] at hpl; simp at hpl
          go_wp2_with (first | (go_at_call 37; (with_reducible refine (HC0.out _ (by repeat' (with_reducible first | exact Later.refl _ | assumption | refine Later.drew ?_ | refine Later.drewN ?_ _ | refine Later.alloc ?_ _ | refine Later.put ?_ (by omega) _ | refine Later.trans ?_ (by assumption)))).mono ?_); rintro e w6 ⟨rfl, hb6⟩; have t0 := hb6.cell s0; have t1 := hb6.cell s1; have t2 := hb6.cell s2; have t3 := hb6.cell s3; have t4 := hb6.cell s4; have t5 := hb6.cell r5) | (go_at_call 37; (with_reducible refine (HR.out _ (by repeat' (with_reducible first | exact Later.refl _ | assumption | refine Later.drew ?_ | refine Later.drewN ?_ _ | refine Later.alloc ?_ _ | refine Later.put ?_ (by omega) _ | refine Later.trans ?_ (by assumption)))).mono ?_); rintro e w7 ⟨rfl, hb7⟩; have u0 := hb7.cell t0; have u1 := hb7.cell t1; have u2 := hb7.cell t2; have u3 := hb7.cell t3; have u4 := hb7.cell t4; have u5 := hb7.cell t5))
          have hlr7 : Later wr w7 := hb6.trans hb7
          have hN7 : N < w7.heap.size := World.block_lt_of_cell? _ _ u0
          go_region_held3 (fun w' : World => (∀ a : Addr, (w7.cell? a).isSome = true → w'.cell? a = w7.cell? a) ∧ Later w7 w') (first | assumption | exact keep_call (by assumption) (by assumption) | exact keep_call (by assumption) ((Later.refl _).alloc _) | exact keep_init _ | exact ⟨Later.keeps (by assumption), by assumption⟩) ((first | (go_at_call 38; (with_reducible refine (HW.out _ (hlr7.trans (by first | exact (Later.refl _).drew | exact (by assumption : _ ∧ Later w7 _).2))).mono ?_); rintro e w8 ⟨A8, c8, rfl, hcap8, hm8, hP8, hb8⟩) | (go_at_call 37; (with_reducible refine (HCw.out _ _ _ (hlr7.trans (by assumption : _ ∧ Later w7 _).2) (Puts.later hP8 (by repeat' (with_reducible first | exact Later.refl _ | assumption | refine Later.drew ?_ | refine Later.drewN ?_ _ | refine Later.alloc ?_ _ | refine Later.put ?_ (by omega) _ | refine Later.trans ?_ (by assumption)))) hcap8).mono ?_); rintro e w9 ⟨rfl, hb9⟩)))
          all_goals
            rename_i hHw
            go_wp2_with (first | (go_at_call 29; (with_reducible refine (HX.out _).mono ?_); rintro e w10 ⟨rfl, hb10⟩))
            go_ret
            exact ⟨rfl, hlw.trans (hlr7.trans (hHw.2.trans hb10))⟩
        · have dpl : decide ((0 : Int) < (pu.length : Int)) = false := by rw [decide_eq_false_iff_not]; omega
          go_wp2_with (first | (go_at_call 37; (with_reducible refine (HC0.out _ (by repeat' (with_reducible first | exact Later.refl _ | assumption | refine Later.drew ?_ | refine Later.drewN ?_ _ | refine Later.alloc ?_ _ | refine Later.put ?_ (by omega) _ | refine Later.trans ?_ (by assumption)))).mono ?_); rintro e w6 ⟨rfl, hb6⟩; have t0 := hb6.cell s0; have t1 := hb6.cell s1; have t2 := hb6.cell s2; have t3 := hb6.cell s3; have t4 := hb6.cell s4; have t5 := hb6.cell r5) | (go_at_call 37; (with_reducible refine (HR.out _ (by repeat' (with_reducible first | exact Later.refl _ | assumption | refine Later.drew ?_ | refine Later.drewN ?_ _ | refine Later.alloc ?_ _ | refine Later.put ?_ (by omega) _ | refine Later.trans ?_ (by assumption)))).mono ?_); rintro e w7 ⟨rfl, hb7⟩; have u0 := hb7.cell t0; have u1 := hb7.cell t1; have u2 := hb7.cell t2; have u3 := hb7.cell t3; have u4 := hb7.cell t4; have u5 := hb7.cell t5))
          have hlr7 : Later wr w7 := hb6.trans hb7
          have hN7 : N < w7.heap.size := World.block_lt_of_cell? _ _ u0
          refine wp_region_held_drew (S := (fun w' : World => (∀ a : Addr, (w7.cell? a).isSome = true → w'.cell? a = w7.cell? a) ∧ Later w7 w')) (by kernel_rfl) (keep_init _) (fun hHeld => ?_)
          refine take_at (i := 0) (d := 45) (v := ?_) rfl rfl (by kernel_rfl) (by kernel_rfl) (by kernel_rfl) (fun _ _ _ h => h) (by rfl) ?_ (by assumption) ?_
          rotate_left
          · (intro w hSw; (try dsimp only at hSw); go_simp; (try with_reducible rfl))
          simp only [Act.put, List.setIfInBounds_toArray, List.set_cons_zero, List.set_cons_succ]
          refine take_at (i := 1) (d := 46) (v := ?_) rfl rfl (by kernel_rfl) (by kernel_rfl) (by kernel_rfl) (fun _ _ _ h => h) (by rfl) ?_ (by assumption) ?_
          rotate_left
          · (intro w hSw; (try dsimp only at hSw); go_simp; (try with_reducible rfl))
          simp only [Act.put, List.setIfInBounds_toArray, List.set_cons_zero, List.set_cons_succ]
          refine take_at (i := 2) (d := 47) (v := ?_) rfl rfl (by kernel_rfl) (by kernel_rfl) (by kernel_rfl) (fun _ _ _ h => h) (by rfl) ?_ (by assumption) ?_
          rotate_left
          · (intro w hSw; (try dsimp only at hSw); go_simp; (try with_reducible rfl))
          simp only [Act.put, List.setIfInBounds_toArray, List.set_cons_zero, List.set_cons_succ]
          refine take_at (i := 3) (d := 48) (v := ?_) rfl rfl (by kernel_rfl) (by kernel_rfl) (by kernel_rfl) (fun _ _ _ h => h) (by rfl) ?_ (by assumption) ?_
          rotate_left
          · (intro w hSw; (try dsimp only at hSw); go_simp; (try with_reducible rfl))
          simp only [Act.put, List.setIfInBounds_toArray, List.set_cons_zero, List.set_cons_succ]
          refine take_at (i := 4) (d := 49) (v := ?_) rfl rfl (by kernel_rfl) (by kernel_rfl) (by kernel_rfl) (fun _ _ _ h => h) (by rfl) ?_ (by assumption) ?_
          rotate_left
          · (intro w hSw; (try dsimp only at hSw); go_simp; (try with_reducible rfl))
          simp only [Act.put, List.setIfInBounds_toArray, List.set_cons_zero, List.set_cons_succ]
          refine take_at (i := 5) (d := 50) (v := ?_) rfl rfl (by kernel_rfl) (by kernel_rfl) (by kernel_rfl) (fun _ _ _ h => h) (by rfl) ?_ (by assumption) ?_
          rotate_left
          · (intro w hSw; (try dsimp only at hSw); go_simp; (try with_reducible rfl))
          simp only [Act.put, List.setIfInBounds_toArray, List.set_cons_zero, List.set_cons_succ]
          refine take_at (i := 6) (d := 51) (v := ?_) rfl rfl (by kernel_rfl) (by kernel_rfl) (by kernel_rfl) (fun _ _ _ h => h) (by rfl) ?_ (by assumption) ?_
          rotate_left
          · (intro w hSw; (try dsimp only at hSw); go_simp; (try with_reducible rfl))
          simp only [Act.put, List.setIfInBounds_toArray, List.set_cons_zero, List.set_cons_succ]
          refine take_at (i := 7) (d := 52) (v := ?_) rfl rfl (by kernel_rfl) (by kernel_rfl) (by kernel_rfl) (fun _ _ _ h => h) (by rfl) ?_ (by assumption) ?_
          rotate_left
          · (intro w hSw; (try dsimp only at hSw); go_simp; (try with_reducible rfl))
          simp only [Act.put, List.setIfInBounds_toArray, List.set_cons_zero, List.set_cons_succ]
          refine skip_at (i := 8) (d := 53) rfl rfl (by kernel_rfl) (by kernel_rfl) (by kernel_rfl) (fun _ _ _ h => h) (by rfl) (by assumption) ?_
          simp only [Act.put, List.setIfInBounds_toArray, List.set_cons_zero, List.set_cons_succ]
          refine skip_at (i := 9) (d := 54) rfl rfl (by kernel_rfl) (by kernel_rfl) (by kernel_rfl) (fun _ _ _ h => h) (by rfl) (by assumption) ?_
          simp only [Act.put, List.setIfInBounds_toArray, List.set_cons_zero, List.set_cons_succ]
          refine skip_at (i := 10) (d := 55) rfl rfl (by kernel_rfl) (by kernel_rfl) (by kernel_rfl) (fun _ _ _ h => h) (by rfl) (by assumption) ?_
          simp only [Act.put, List.setIfInBounds_toArray, List.set_cons_zero, List.set_cons_succ]
          refine skip_at (i := 11) (d := 56) rfl rfl (by kernel_rfl) (by kernel_rfl) (by kernel_rfl) (fun _ _ _ h => h) (by rfl) (by assumption) ?_
          simp only [Act.put, List.setIfInBounds_toArray, List.set_cons_zero, List.set_cons_succ]
          refine skip_at (i := 12) (d := 57) rfl rfl (by kernel_rfl) (by kernel_rfl) (by kernel_rfl) (fun _ _ _ h => h) (by rfl) (by assumption) ?_
          simp only [Act.put, List.setIfInBounds_toArray, List.set_cons_zero, List.set_cons_succ]
          refine skip_at (i := 13) (d := 58) rfl rfl (by kernel_rfl) (by kernel_rfl) (by kernel_rfl) (fun _ _ _ h => h) (by rfl) (by assumption) ?_
          simp only [Act.put, List.setIfInBounds_toArray, List.set_cons_zero, List.set_cons_succ]
          refine skip_at (i := 14) (d := 59) rfl rfl (by kernel_rfl) (by kernel_rfl) (by kernel_rfl) (fun _ _ _ h => h) (by rfl) (by assumption) ?_
          simp only [Act.put, List.setIfInBounds_toArray, List.set_cons_zero, List.set_cons_succ]
          refine skip_at (i := 15) (d := 60) rfl rfl (by kernel_rfl) (by kernel_rfl) (by kernel_rfl) (fun _ _ _ h => h) (by rfl) (by assumption) ?_
          simp only [Act.put, List.setIfInBounds_toArray, List.set_cons_zero, List.set_cons_succ]
          refine skip_at (i := 16) (d := 61) rfl rfl (by kernel_rfl) (by kernel_rfl) (by kernel_rfl) (fun _ _ _ h => h) (by rfl) (by assumption) ?_
          simp only [Act.put, List.setIfInBounds_toArray, List.set_cons_zero, List.set_cons_succ]
          refine skip_at (i := 17) (d := 62) rfl rfl (by kernel_rfl) (by kernel_rfl) (by kernel_rfl) (fun _ _ _ h => h) (by rfl) (by assumption) ?_
          simp only [Act.put, List.setIfInBounds_toArray, List.set_cons_zero, List.set_cons_succ]
          refine skip_at (i := 18) (d := 63) rfl rfl (by kernel_rfl) (by kernel_rfl) (by kernel_rfl) (fun _ _ _ h => h) (by rfl) (by assumption) ?_
          simp only [Act.put, List.setIfInBounds_toArray, List.set_cons_zero, List.set_cons_succ]
          refine skip_at (i := 19) (d := 64) rfl rfl (by kernel_rfl) (by kernel_rfl) (by kernel_rfl) (fun _ _ _ h => h) (by rfl) (by assumption) ?_
          simp only [Act.put, List.setIfInBounds_toArray, List.set_cons_zero, List.set_cons_succ]
          refine skip_at (i := 20) (d := 65) rfl rfl (by kernel_rfl) (by kernel_rfl) (by kernel_rfl) (fun _ _ _ h => h) (by rfl) (by assumption) ?_
          simp only [Act.put, List.setIfInBounds_toArray, List.set_cons_zero, List.set_cons_succ]
          refine skip_at (i := 21) (d := 66) rfl rfl (by kernel_rfl) (by kernel_rfl) (by kernel_rfl) (fun _ _ _ h => h) (by rfl) (by assumption) ?_
          simp only [Act.put, List.setIfInBounds_toArray, List.set_cons_zero, List.set_cons_succ]
          refine skip_at (i := 22) (d := 67) rfl rfl (by kernel_rfl) (by kernel_rfl) (by kernel_rfl) (fun _ _ _ h => h) (by rfl) (by assumption) ?_
          simp only [Act.put, List.setIfInBounds_toArray, List.set_cons_zero, List.set_cons_succ]
          refine take_at (i := 23) (d := 68) (v := ?_) rfl rfl (by kernel_rfl) (by kernel_rfl) (by kernel_rfl) (fun _ _ _ h => h) (by rfl) ?_ (by assumption) ?_
          rotate_left
          · (intro w hSw; (try dsimp only at hSw); go_simp; (try with_reducible rfl))
          simp only [Act.put, List.setIfInBounds_toArray, List.set_cons_zero, List.set_cons_succ]
          refine wpAnyH_done (by kernel_rfl) ?_ _
          go_wp2_with (first | (go_at_call 29; (with_reducible refine (HX.out _).mono ?_); rintro e w10 ⟨rfl, hb10⟩))
          go_ret
          exact ⟨rfl, hlw.trans (hlr7.trans ((Later.refl _).drew.trans hb10))⟩
      · have hzr : (okr == 0) = false := by simpa using fun h => hz (hrev.1 h)
        have hz' : (ok0 == 0) = false := by simpa using hz
        clear hrev HS
        go_wp2_with (first | (go_at_call 37; (with_reducible refine (HC0.out _ (by repeat' (with_reducible first | exact Later.refl _ | assumption | refine Later.drew ?_ | refine Later.drewN ?_ _ | refine Later.alloc ?_ _ | refine Later.put ?_ (by omega) _ | refine Later.trans ?_ (by assumption)))).mono ?_); rintro e w6 ⟨rfl, hb6⟩; have t0 := hb6.cell s0; have t1 := hb6.cell s1; have t2 := hb6.cell s2; have t3 := hb6.cell s3; have t4 := hb6.cell s4; have t5 := hb6.cell r5) | (go_at_call 37; (with_reducible refine (HR.out _ (by repeat' (with_reducible first | exact Later.refl _ | assumption | refine Later.drew ?_ | refine Later.drewN ?_ _ | refine Later.alloc ?_ _ | refine Later.put ?_ (by omega) _ | refine Later.trans ?_ (by assumption)))).mono ?_); rintro e w7 ⟨rfl, hb7⟩; have u0 := hb7.cell t0; have u1 := hb7.cell t1; have u2 := hb7.cell t2; have u3 := hb7.cell t3; have u4 := hb7.cell t4; have u5 := hb7.cell t5))
        have hlr7 : Later wr w7 := hb6.trans hb7
        have hN7 : N < w7.heap.size := World.block_lt_of_cell? _ _ u0
        refine wp_region_held_drew (S := (fun w' : World => (∀ a : Addr, (w7.cell? a).isSome = true → w'.cell? a = w7.cell? a) ∧ Later w7 w')) (by kernel_rfl) (keep_init _) (fun hHeld => ?_)
        refine take_at (i := 0) (d := 45) (v := ?_) rfl rfl (by kernel_rfl) (by kernel_rfl) (by kernel_rfl) (fun _ _ _ h => h) (by rfl) ?_ (by assumption) ?_
        rotate_left
        · (intro w hSw; (try dsimp only at hSw); go_simp; (try with_reducible rfl))
        simp only [Act.put, List.setIfInBounds_toArray, List.set_cons_zero, List.set_cons_succ]
        refine take_at (i := 1) (d := 46) (v := ?_) rfl rfl (by kernel_rfl) (by kernel_rfl) (by kernel_rfl) (fun _ _ _ h => h) (by rfl) ?_ (by assumption) ?_
        rotate_left
        · (intro w hSw; (try dsimp only at hSw); go_simp; (try with_reducible rfl))
        simp only [Act.put, List.setIfInBounds_toArray, List.set_cons_zero, List.set_cons_succ]
        refine skip_at (i := 2) (d := 47) rfl rfl (by kernel_rfl) (by kernel_rfl) (by kernel_rfl) (fun _ _ _ h => h) (by rfl) (by assumption) ?_
        simp only [Act.put, List.setIfInBounds_toArray, List.set_cons_zero, List.set_cons_succ]
        refine skip_at (i := 3) (d := 48) rfl rfl (by kernel_rfl) (by kernel_rfl) (by kernel_rfl) (fun _ _ _ h => h) (by rfl) (by assumption) ?_
        simp only [Act.put, List.setIfInBounds_toArray, List.set_cons_zero, List.set_cons_succ]
        refine skip_at (i := 4) (d := 49) rfl rfl (by kernel_rfl) (by kernel_rfl) (by kernel_rfl) (fun _ _ _ h => h) (by rfl) (by assumption) ?_
        simp only [Act.put, List.setIfInBounds_toArray, List.set_cons_zero, List.set_cons_succ]
        refine skip_at (i := 5) (d := 50) rfl rfl (by kernel_rfl) (by kernel_rfl) (by kernel_rfl) (fun _ _ _ h => h) (by rfl) (by assumption) ?_
        simp only [Act.put, List.setIfInBounds_toArray, List.set_cons_zero, List.set_cons_succ]
        refine take_at (i := 6) (d := 51) (v := ?_) rfl rfl (by kernel_rfl) (by kernel_rfl) (by kernel_rfl) (fun _ _ _ h => h) (by rfl) ?_ (by assumption) ?_
        rotate_left
        · (intro w hSw; (try dsimp only at hSw); go_simp; (try with_reducible rfl))
        simp only [Act.put, List.setIfInBounds_toArray, List.set_cons_zero, List.set_cons_succ]
        refine take_at (i := 7) (d := 52) (v := ?_) rfl rfl (by kernel_rfl) (by kernel_rfl) (by kernel_rfl) (fun _ _ _ h => h) (by rfl) ?_ (by assumption) ?_
        rotate_left
        · (intro w hSw; (try dsimp only at hSw); go_simp; (try with_reducible rfl))
        simp only [Act.put, List.setIfInBounds_toArray, List.set_cons_zero, List.set_cons_succ]
        refine skip_at (i := 8) (d := 53) rfl rfl (by kernel_rfl) (by kernel_rfl) (by kernel_rfl) (fun _ _ _ h => h) (by rfl) (by assumption) ?_
        simp only [Act.put, List.setIfInBounds_toArray, List.set_cons_zero, List.set_cons_succ]
        refine skip_at (i := 9) (d := 54) rfl rfl (by kernel_rfl) (by kernel_rfl) (by kernel_rfl) (fun _ _ _ h => h) (by rfl) (by assumption) ?_
        simp only [Act.put, List.setIfInBounds_toArray, List.set_cons_zero, List.set_cons_succ]
        refine skip_at (i := 10) (d := 55) rfl rfl (by kernel_rfl) (by kernel_rfl) (by kernel_rfl) (fun _ _ _ h => h) (by rfl) (by assumption) ?_
        simp only [Act.put, List.setIfInBounds_toArray, List.set_cons_zero, List.set_cons_succ]
        refine skip_at (i := 11) (d := 56) rfl rfl (by kernel_rfl) (by kernel_rfl) (by kernel_rfl) (fun _ _ _ h => h) (by rfl) (by assumption) ?_
        simp only [Act.put, List.setIfInBounds_toArray, List.set_cons_zero, List.set_cons_succ]
        refine skip_at (i := 12) (d := 57) rfl rfl (by kernel_rfl) (by kernel_rfl) (by kernel_rfl) (fun _ _ _ h => h) (by rfl) (by assumption) ?_
        simp only [Act.put, List.setIfInBounds_toArray, List.set_cons_zero, List.set_cons_succ]
        refine skip_at (i := 13) (d := 58) rfl rfl (by kernel_rfl) (by kernel_rfl) (by kernel_rfl) (fun _ _ _ h => h) (by rfl) (by assumption) ?_
        simp only [Act.put, List.setIfInBounds_toArray, List.set_cons_zero, List.set_cons_succ]
        refine skip_at (i := 14) (d := 59) rfl rfl (by kernel_rfl) (by kernel_rfl) (by kernel_rfl) (fun _ _ _ h => h) (by rfl) (by assumption) ?_
        simp only [Act.put, List.setIfInBounds_toArray, List.set_cons_zero, List.set_cons_succ]
        refine skip_at (i := 15) (d := 60) rfl rfl (by kernel_rfl) (by kernel_rfl) (by kernel_rfl) (fun _ _ _ h => h) (by rfl) (by assumption) ?_
        simp only [Act.put, List.setIfInBounds_toArray, List.set_cons_zero, List.set_cons_succ]
        refine skip_at (i := 16) (d := 61) rfl rfl (by kernel_rfl) (by kernel_rfl) (by kernel_rfl) (fun _ _ _ h => h) (by rfl) (by assumption) ?_
        simp only [Act.put, List.setIfInBounds_toArray, List.set_cons_zero, List.set_cons_succ]
        refine skip_at (i := 17) (d := 62) rfl rfl (by kernel_rfl) (by kernel_rfl) (by kernel_rfl) (fun _ _ _ h => h) (by rfl) (by assumption) ?_
        simp only [Act.put, List.setIfInBounds_toArray, List.set_cons_zero, List.set_cons_succ]
        refine skip_at (i := 18) (d := 63) rfl rfl (by kernel_rfl) (by kernel_rfl) (by kernel_rfl) (fun _ _ _ h => h) (by rfl) (by assumption) ?_
        simp only [Act.put, List.setIfInBounds_toArray, List.set_cons_zero, List.set_cons_succ]
        refine skip_at (i := 19) (d := 64) rfl rfl (by kernel_rfl) (by kernel_rfl) (by kernel_rfl) (fun _ _ _ h => h) (by rfl) (by assumption) ?_
        simp only [Act.put, List.setIfInBounds_toArray, List.set_cons_zero, List.set_cons_succ]
        refine skip_at (i := 20) (d := 65) rfl rfl (by kernel_rfl) (by kernel_rfl) (by kernel_rfl) (fun _ _ _ h => h) (by rfl) (by assumption) ?_
        simp only [Act.put, List.setIfInBounds_toArray, List.set_cons_zero, List.set_cons_succ]
        refine skip_at (i := 21) (d := 66) rfl rfl (by kernel_rfl) (by kernel_rfl) (by kernel_rfl) (fun _ _ _ h => h) (by rfl) (by assumption) ?_
        simp only [Act.put, List.setIfInBounds_toArray, List.set_cons_zero, List.set_cons_succ]
        refine skip_at (i := 22) (d := 67) rfl rfl (by kernel_rfl) (by kernel_rfl) (by kernel_rfl) (fun _ _ _ h => h) (by rfl) (by assumption) ?_
        simp only [Act.put, List.setIfInBounds_toArray, List.set_cons_zero, List.set_cons_succ]
        refine take_at (i := 23) (d := 68) (v := ?_) rfl rfl (by kernel_rfl) (by kernel_rfl) (by kernel_rfl) (fun _ _ _ h => h) (by rfl) ?_ (by assumption) ?_
        rotate_left
        · (intro w hSw; (try dsimp only at hSw); go_simp; (try with_reducible rfl))
        simp only [Act.put, List.setIfInBounds_toArray, List.set_cons_zero, List.set_cons_succ]
        refine wpAnyH_done (by kernel_rfl) ?_ _
        go_wp2_with (first | (go_at_call 29; (with_reducible refine (HX.out _).mono ?_); rintro e w10 ⟨rfl, hb10⟩))
        go_ret
        exact ⟨rfl, hlw.trans (hlr7.trans ((Later.refl _).drew.trans hb10))⟩

set_option maxHeartbeats 4000000 in
theorem law30_PlaceParts_few (hex : ∀ W, Calls Try.prog 29 #[] W (Ret (.bool true) W)) (c : Cs) (k : Nat) (w : World) (hc : CsOk w c) (hf : fewCs c = false) :
    Calls Try.prog 12 #[c.agg, .int .u8 k] w (Ret (.bool true) w) := by
  have HX := Lib.hid hex
  have HF := Lib.hid (fun W (hW : Later w W) => law30_few c W (hc.later hW))
  rw [hf] at HF
  unfold Cs.agg at HF ⊢
  obtain ⟨⟨bl, bw, rx, ry⟩, sa, sc, sh, pa, pc, pu⟩ := c
  simp only [] at HF ⊢
  clear hex hc hf
  go_enter Try.func12, Try.ntmps12
  go_wp2_with (first | (go_at_call 28; (with_reducible refine (HF.out _ (by repeat' (with_reducible first | exact Later.refl _ | assumption | refine Later.drew ?_ | refine Later.drewN ?_ _ | refine Later.alloc ?_ _ | refine Later.put ?_ (by omega) _ | refine Later.trans ?_ (by assumption)))).mono ?_); rintro e w1 ⟨rfl, hb1⟩) | (go_at_call 29; (with_reducible refine (HX.out _).mono ?_); rintro e w9 ⟨rfl, hb9⟩))
  go_ret
  exact ⟨rfl, (by repeat' (with_reducible first | exact Later.refl _ | assumption | refine Later.drew ?_ | refine Later.drewN ?_ _ | refine Later.alloc ?_ _ | refine Later.put ?_ (by omega) _ | refine Later.trans ?_ (by assumption)))⟩

theorem law30_PlaceParts (hex : ∀ W, Calls Try.prog 29 #[] W (Ret (.bool true) W)) (c : Cs) (k : Nat) (w : World) (hc : CsOk w c) (hk : k ≤ 255) :
    Calls Try.prog 12 #[c.agg, .int .u8 k] w (Ret (.bool true) w) := by
  cases hf : fewCs c with
  | false => exact law30_PlaceParts_few hex c k w hc hf
  | true => exact law30_PlaceParts_in hex c k w hc hk hf

end Go.Proofs.Ytolddfapanabbaa
