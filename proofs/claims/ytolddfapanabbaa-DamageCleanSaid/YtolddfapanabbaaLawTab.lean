/-
  DamageTables, walked: Table returns the specified table or error.
-/
import Derived.Test.YtolddfapanabbaaOpenL
import Derived.Test.YtolddfapanabbaaRTab
namespace Go.Proofs.Ytolddfapanabbaa
open Go.RowKit
set_option linter.unusedSimpArgs false
set_option linter.unusedVariables false

theorem tab_nil (W : World) (A : Option Addr) : Tab W A [] := fun h => by simp at h
theorem tabRows_len (rs : List Rl) (polys : List (List Pt)) (ys : List Py) : (tabRows rs polys ys).length = ys.length := by simp [tabRows]
theorem tabRows_row (rs : List Rl) (polys : List (List Pt)) (ys : List Py) (k : Nat) : ((tabRows rs polys ys).getD k []).length ≤ polys.length := by
  rw [List.getD_eq_getElem?_getD, tabRows, List.getElem?_map]
  cases ys[k]? <;> simp

set_option maxHeartbeats 4000000 in
set_option maxRecDepth 100000 in
theorem law39_DamageTables_in (hex : ∀ W, Calls Try.prog 15 #[] W (Ret (.bool true) W)) (y : Ly) (C Q : Option Addr) (cc qc : Nat) (rs : List Rl) (ps : List (List Pt)) (w : World)
    (hy : LyOk w y) (hr : Rolls w C rs) (hp : Polys w Q ps) :
    Calls Try.prog 5 #[y.agg, .slice C rs.length cc, .slice Q ps.length qc] w (Ret (.bool true) w) := by
  have HX := Lib.hid hex
  clear hex
  have HF := Lib.hid (fun W (hW : Later w W) => law39_few y C Q cc qc rs ps W (hy.later hW) (hr.later hW) (hp.later hW))
  rcases hfw : fewB y.ys rs ps with _ | _
  · rw [hfw] at HF
    clear hfw
    unfold Ly.agg at HF ⊢
    obtain ⟨l0, l1, l2, l3, s1, n1, c1, s2, n2, c2, pa, pc, ys⟩ := y
    simp only [] at HF ⊢
    go_enter Try.func5, Try.ntmps5
    go_wp2_with (first | (go_at_call 20; (with_reducible refine (HF.out _ (by repeat' (with_reducible first | exact Later.refl _ | assumption | refine Later.drew ?_ | refine Later.drewN ?_ _ | refine Later.alloc ?_ _ | refine Later.put ?_ (by omega) _ | refine Later.trans ?_ (by assumption)))).mono ?_); rintro e w1 ⟨rfl, hb1⟩) | (go_at_call 15; refine (HX.out _).mono ?_; rintro e w2 ⟨rfl, hb2⟩))
    go_ret
    exact ⟨rfl, (by repeat' (with_reducible first | exact Later.refl _ | assumption | refine Later.drew ?_ | refine Later.drewN ?_ _ | refine Later.alloc ?_ _ | refine Later.put ?_ (by omega) _ | refine Later.trans ?_ (by assumption)))⟩
  · rw [hfw] at HF
    obtain ⟨⟨h12, h6, h6'⟩, h1, _, h2⟩ := few_all hfw
    clear hfw
    have hparts : ∀ p ∈ y.ys, p.parts.length ≤ 65536 := fun p hp => by have := h1 p hp; omega
    have hpl : PtsOk ps := fun p hp => by have := h2 p hp; omega
    have HA := Lib.hid (fun W (hW : Later w W) => damage_Table_ok y.pa C Q y.s1 y.s2 y.pc cc qc y.n1 y.c1 y.n2 y.c2 y.l y.w y.rx y.ry y.ys rs ps W (hy.later hW).1 (hr.later hW) (hp.later hW) (by omega) hparts hpl (by omega) (by omega))
    have HB := Lib.hid (fun W (hW : Later w W) => ref39_Table_ok y.pa C Q y.s1 y.s2 y.pc cc qc y.n1 y.c1 y.n2 y.c2 y.l y.w y.rx y.ry y.ys rs ps W (hy.later hW).1 (hr.later hW) (hp.later hW) (by omega) hparts hpl (by omega) (by omega))
    have hrl := tabRows_len rs ps y.ys
    have hrr := tabRows_row rs ps y.ys
    generalize tabRows rs ps y.ys = rows at *
    generalize tabErr rs ps y.ys = te at *
    unfold Ly.agg at HF ⊢
    obtain ⟨l0, l1, l2, l3, s1, n1, c1, s2, n2, c2, pa, pc, ys⟩ := y
    simp only [] at HF HA HB hrl h12 ⊢
    rcases Classical.em (te = 0) with h0 | h0
    · subst h0
      have HS := Lib.hid (fun A B ca cb W (hA : Tab W A rows) (hB : Tab W B rows) => ref39_Same A B ca cb rows rows W hA hB (by omega) (by omega) (fun k => by have := hrr k; omega))
      rw [sameB_refl] at HS
      clear hrl hrr
      go_enter Try.func5, Try.ntmps5
      go_wp2_with (first
        | (go_at_call 20; (with_reducible refine (HF.out _ (by repeat' (with_reducible first | exact Later.refl _ | assumption | refine Later.drew ?_ | refine Later.drewN ?_ _ | refine Later.alloc ?_ _ | refine Later.put ?_ (by omega) _ | refine Later.trans ?_ (by assumption)))).mono ?_); rintro e w1 ⟨rfl, hb1⟩; have D0 : Blk w1 w.heap.size 45 #[.int .i64 l0, .int .i64 l1, .int .i64 l2, .int .i64 l3, .slice s1 n1 c1, .slice s2 n2 c2, .slice pa ys.length pc] := Blk.later (by repeat' (with_reducible first | assumption | (refine Blk.newAt ?_; simp; done) | refine Blk.alloc ?_ _ | refine Blk.drew ?_ | refine Blk.drewN ?_ _ | refine Blk.later ?_ (by assumption))) hb1; have hl1 : Later w w1 := (by repeat' (with_reducible first | exact Later.refl _ | assumption | refine Later.drew ?_ | refine Later.drewN ?_ _ | refine Later.alloc ?_ _ | refine Later.put ?_ (by omega) _ | refine Later.trans ?_ (by assumption))); have r0 := D0.cell 0; have r1 := D0.cell 1; have r2 := D0.cell 2; have r3 := D0.cell 3; have r4 := D0.cell 4; have r5 := D0.cell 5; have r6 := D0.cell 6)
        | (go_at_call 21; (with_reducible refine (HA.out _ hl1).mono ?_); rintro e w2 (⟨_, A2, c2', rfl, z1, z2, hb2⟩ | ⟨h, _⟩); rotate_left; exact absurd rfl h; have D1 := D0.later hb2; have hl2 := hl1.trans hb2; have q0 := D1.cell 0; have q1 := D1.cell 1; have q2 := D1.cell 2; have q3 := D1.cell 3; have q4 := D1.cell 4; have q5 := D1.cell 5; have q6 := D1.cell 6)
        | (go_at_call 22; (with_reducible refine (HB.out _ hl2).mono ?_); rintro e w3 (⟨_, A3, c3', rfl, y1, y2, hb3⟩ | ⟨h, _⟩); rotate_left; exact absurd rfl h; have hl3 := hl2.trans hb3)
        | (go_at_call 23; (with_reducible refine (HS.out _ _ _ _ _ (z2.later hb3) y2).mono ?_); rintro e w4 ⟨rfl, hb4⟩)
        | (go_at_call 15; refine (HX.out _).mono ?_; rintro e w5 ⟨rfl, hb5⟩))
      go_ret
      exact ⟨rfl, (by repeat' (with_reducible first | exact Later.refl _ | assumption | refine Later.drew ?_ | refine Later.drewN ?_ _ | refine Later.alloc ?_ _ | refine Later.put ?_ (by omega) _ | refine Later.trans ?_ (by assumption)))⟩
    · have HS := Lib.hid (fun W => ref39_Same none none 0 0 [] [] W (tab_nil W none) (tab_nil W none) (by simp) (by simp) (fun k => by simp))
      rw [sameB_refl] at HS
      simp only [List.length_nil] at HS
      have Hne := Lib.hid h0
      clear h0
      go_enter Try.func5, Try.ntmps5
      go_wp2_with (first
        | (go_at_call 20; (with_reducible refine (HF.out _ (by repeat' (with_reducible first | exact Later.refl _ | assumption | refine Later.drew ?_ | refine Later.drewN ?_ _ | refine Later.alloc ?_ _ | refine Later.put ?_ (by omega) _ | refine Later.trans ?_ (by assumption)))).mono ?_); rintro e w1 ⟨rfl, hb1⟩; have D0 : Blk w1 w.heap.size 45 #[.int .i64 l0, .int .i64 l1, .int .i64 l2, .int .i64 l3, .slice s1 n1 c1, .slice s2 n2 c2, .slice pa ys.length pc] := Blk.later (by repeat' (with_reducible first | assumption | (refine Blk.newAt ?_; simp; done) | refine Blk.alloc ?_ _ | refine Blk.drew ?_ | refine Blk.drewN ?_ _ | refine Blk.later ?_ (by assumption))) hb1; have hl1 : Later w w1 := (by repeat' (with_reducible first | exact Later.refl _ | assumption | refine Later.drew ?_ | refine Later.drewN ?_ _ | refine Later.alloc ?_ _ | refine Later.put ?_ (by omega) _ | refine Later.trans ?_ (by assumption))); have r0 := D0.cell 0; have r1 := D0.cell 1; have r2 := D0.cell 2; have r3 := D0.cell 3; have r4 := D0.cell 4; have r5 := D0.cell 5; have r6 := D0.cell 6)
        | (go_at_call 21; (with_reducible refine (HA.out _ hl1).mono ?_); rintro e w2 (⟨h, _⟩ | ⟨_, rfl, hb2⟩); exact absurd h Hne.out; have D1 := D0.later hb2; have hl2 := hl1.trans hb2; have q0 := D1.cell 0; have q1 := D1.cell 1; have q2 := D1.cell 2; have q3 := D1.cell 3; have q4 := D1.cell 4; have q5 := D1.cell 5; have q6 := D1.cell 6)
        | (go_at_call 22; (with_reducible refine (HB.out _ hl2).mono ?_); rintro e w3 (⟨h, _⟩ | ⟨_, rfl, hb3⟩); exact absurd h Hne.out; have hl3 := hl2.trans hb3)
        | (go_at_call 23; (with_reducible refine (HS.out _).mono ?_); rintro e w4 ⟨rfl, hb4⟩)
        | (go_at_call 15; refine (HX.out _).mono ?_; rintro e w5 ⟨rfl, hb5⟩))
      go_ret
      exact ⟨rfl, (by repeat' (with_reducible first | exact Later.refl _ | assumption | refine Later.drew ?_ | refine Later.drewN ?_ _ | refine Later.alloc ?_ _ | refine Later.put ?_ (by omega) _ | refine Later.trans ?_ (by assumption)))⟩

theorem law39_DamageTables (hex : ∀ W, Calls Try.prog 15 #[] W (Ret (.bool true) W)) (y : Ly) (C : Option Addr) (cc : Nat) (rs : List Rl) (Q : Option Addr) (qc : Nat) (ps : List (List Pt)) (w : World)
    (hy : LyOk w y) (hr : rs.length ≤ cc ∧ cc ≤ maxLen ∧ Rolls w C rs) (hp : ps.length ≤ qc ∧ qc ≤ maxLen ∧ Polys w Q ps ∧ ∀ l ∈ ps, ∀ p ∈ l, I64 p.x ∧ I64 p.y) :
    Calls Try.prog 5 #[y.agg, .slice C rs.length cc, .slice Q ps.length qc] w (Ret (.bool true) w) := law39_DamageTables_in hex y C Q cc qc rs ps w hy hr.2.2 hp.2.2.1

end Go.Proofs.Ytolddfapanabbaa
