/-
  The walks of garmentref30.Few and garmentlaw30.few.
-/
import Derived.Test.YtolddfapanabbaaEx30A
namespace Go.Proofs.Ytolddfapanabbaa
open Go.RowKit
set_option linter.unusedSimpArgs false
set_option linter.unusedVariables false

def fewShGo : List Sh → Nat → Bool
  | [], _ => true
  | s :: r, i => if ¬ i < 9 then true else if 12 < s.ps.length then false else fewShGo r (i + 1)
def fewSh (l : List Sh) : Bool := fewShGo l 0 && decide ((l.length : Int) ≤ 8)
theorem fewsh_no {s : Sh} {r : List Sh} {i : Nat} (h : i < 9) (h1 : 12 < s.ps.length) : fewShGo (s :: r) i = false := by rw [fewShGo, if_neg (by omega), if_pos h1]
theorem fewsh_go {s : Sh} {r : List Sh} {i : Nat} (h : i < 9) (h1 : ¬ 12 < s.ps.length) : fewShGo (s :: r) i = fewShGo r (i + 1) := by rw [fewShGo, if_neg (by omega), if_neg h1]
theorem fewsh_end {l : List Sh} {i : Nat} (h : ¬ i < 9) : fewShGo l i = true := by
  cases l with
  | nil => rfl
  | cons s r => rw [fewShGo, if_pos h]
theorem fewSh_all {l : List Sh} (h : fewSh l = true) : l.length ≤ 8 ∧ ∀ s ∈ l, s.ps.length ≤ 12 := by
  unfold fewSh at h
  rw [Bool.and_eq_true, decide_eq_true_eq] at h
  have h8 : l.length ≤ 8 := by omega
  refine ⟨h8, ?_⟩
  have key : ∀ (l : List Sh) (i : Nat), i + l.length ≤ 9 → fewShGo l i = true → ∀ s ∈ l, s.ps.length ≤ 12 := by
    intro l
    induction l with
    | nil => intro i _ _ s hs; cases hs
    | cons t r ih =>
      intro i hi hg s hs
      rw [List.length_cons] at hi
      rw [fewShGo, if_neg (by omega)] at hg
      split at hg
      · cases hg
      · rcases List.mem_cons.1 hs with rfl | hs
        · omega
        · exact ih (i + 1) (by omega) hg s hs
  exact key l 0 (by omega) h.1

set_option maxHeartbeats 2000000 in
theorem ref30_Few (C : Option Addr) (cc : Nat) (l : List Sh) (w : World) (hs : Shapes w C l) (hl : l.length ≤ maxLen) :
    Calls Try.prog 50 #[.slice C l.length cc] w (Ret (.bool (fewSh l)) w) := by
  unfold maxLen at hl
  go_enter Try.func50, Try.ntmps50
  go_wp2
  go_loop [2, 3] (fun _ iv => ∃ k : Nat, k ≤ l.length ∧ k ≤ 9 ∧ iv = .int .i64 k ∧ fewShGo l 0 = fewShGo (l.drop k) k) (fun _ iv => l.length - (intOf iv).toNat)
  case atStart => exact ⟨0, by omega, by omega, rfl, rfl⟩
  case round =>
    obtain ⟨k, hk, hk9, rfl, he⟩ := hrel
    have He := Lib.hid he
    clear he
    by_cases hlt : k < l.length
    · have d1 : decide (k < l.length) = true := by simpa using hlt
      by_cases h9 : k < 9
      · have d2 : decide ((k : Int) < 9) = true := by simp; omega
        obtain ⟨b, o, rfl, e0, _, _, _, _, _⟩ := hs.at_ hlt
        have Hd := Lib.hid (drop_cons' l k hlt)
        generalize l[k] = s at *
        obtain ⟨pa, pc, ps, gr, mt, ax, ay⟩ := s
        simp only [] at e0
        have hk0 : (0 : Int) ≤ (k : Int) := by omega
        have hk1 : (k : Int) < (l.length : Int) := by omega
        by_cases h12 : 12 < ps.length
        · go_wp2
          go_ret
          exact ⟨ret_bool (by unfold fewSh; rw [He.out, Hd.out, fewsh_no h9 h12]; rfl), (by repeat' (with_reducible first | exact Later.refl _ | assumption | refine Later.drew ?_ | refine Later.drewN ?_ _ | refine Later.alloc ?_ _ | refine Later.put ?_ (by omega) _ | refine Later.trans ?_ (by assumption)))⟩
        · go_wp2
          go_round
          case rel => exact ⟨k + 1, by omega, by omega, by go_num, by rw [He.out, Hd.out]; exact fewsh_go h9 h12⟩
          case measure => simp [intOf]; omega
      · have d2 : decide ((k : Int) < 9) = false := by simp; omega
        have Ht := Lib.hid (show fewShGo l 0 = true by rw [He.out]; exact fewsh_end h9)
        go_wp2
        go_ret
        exact ⟨ret_bool (by unfold fewSh; rw [Ht.out, Bool.true_and]), (by repeat' (with_reducible first | exact Later.refl _ | assumption | refine Later.drew ?_ | refine Later.drewN ?_ _ | refine Later.alloc ?_ _ | refine Later.put ?_ (by omega) _ | refine Later.trans ?_ (by assumption)))⟩
    · have d1 : decide (k < l.length) = false := by simpa using hlt
      have Ht := Lib.hid (show fewShGo l 0 = true by rw [He.out, List.drop_eq_nil_of_le (by omega)]; rfl)
      go_wp2
      go_ret
      exact ⟨ret_bool (by unfold fewSh; rw [Ht.out, Bool.true_and]), (by repeat' (with_reducible first | exact Later.refl _ | assumption | refine Later.drew ?_ | refine Later.drewN ?_ _ | refine Later.alloc ?_ _ | refine Later.put ?_ (by omega) _ | refine Later.trans ?_ (by assumption)))⟩

/-- A case of the laws of layer 30. -/
structure Cs where
  b : Bd
  sa : Option Addr
  sc : Nat
  sh : List Sh
  pa : Option Addr
  pc : Nat
  pu : List Pu
def Cs.cells (c : Cs) : List Value := [.int .i64 c.b.l, .int .i64 c.b.w, .int .i64 c.b.rx, .int .i64 c.b.ry, .slice c.sa c.sh.length c.sc, .slice c.pa c.pu.length c.pc]
def Cs.agg (c : Cs) : Value := .agg #[.int .i64 c.b.l, .int .i64 c.b.w, .int .i64 c.b.rx, .int .i64 c.b.ry, .slice c.sa c.sh.length c.sc, .slice c.pa c.pu.length c.pc]
def CsOk (w : World) (c : Cs) : Prop := Shapes w c.sa c.sh ∧ c.sh.length ≤ c.sc ∧ c.sc ≤ maxLen ∧ Puts w c.pa c.pu ∧ c.pu.length ≤ c.pc ∧ c.pc ≤ maxLen ∧ I64 c.b.l ∧ I64 c.b.w ∧ I64 c.b.rx ∧ I64 c.b.ry
theorem CsOk.later {w w' : World} {c : Cs} (h : CsOk w c) (k : Later w w') : CsOk w' c := ⟨h.1.later k, h.2.1, h.2.2.1, h.2.2.2.1.later k, h.2.2.2.2⟩
def fewCs (c : Cs) : Bool := fewSh c.sh && decide ((c.pu.length : Int) ≤ 8)

set_option maxHeartbeats 1000000 in
theorem law30_few (c : Cs) (w : World) (hc : CsOk w c) : Calls Try.prog 28 #[c.agg] w (Ret (.bool (fewCs c)) w) := by
  have HF := Lib.hid (fun W (hW : Later w W) => ref30_Few c.sa c.sc c.sh W (hc.1.later hW) (by have := hc.2.1; have := hc.2.2.1; omega))
  unfold Cs.agg fewCs
  obtain ⟨⟨bl, bw, rx, ry⟩, sa, sc, sh, pa, pc, pu⟩ := c
  simp only [] at HF ⊢
  generalize fewSh sh = fv at *
  cases fv
  · go_enter Try.func28, Try.ntmps28
    go_wp2_with (first | (go_at_call 50; (with_reducible refine (HF.out _ (by repeat' (with_reducible first | exact Later.refl _ | assumption | refine Later.drew ?_ | refine Later.drewN ?_ _ | refine Later.alloc ?_ _ | refine Later.put ?_ (by omega) _ | refine Later.trans ?_ (by assumption)))).mono ?_); rintro e w1 ⟨rfl, hb1⟩))
    go_ret
    exact ⟨rfl, (by repeat' (with_reducible first | exact Later.refl _ | assumption | refine Later.drew ?_ | refine Later.drewN ?_ _ | refine Later.alloc ?_ _ | refine Later.put ?_ (by omega) _ | refine Later.trans ?_ (by assumption)))⟩
  · go_enter Try.func28, Try.ntmps28
    go_wp2_with (first | (go_at_call 50; (with_reducible refine (HF.out _ (by repeat' (with_reducible first | exact Later.refl _ | assumption | refine Later.drew ?_ | refine Later.drewN ?_ _ | refine Later.alloc ?_ _ | refine Later.put ?_ (by omega) _ | refine Later.trans ?_ (by assumption)))).mono ?_); rintro e w1 ⟨rfl, hb1⟩; have q5 : w1.cell? ⟨w.heap.size, 5, none⟩ = some (.slice pa pu.length pc) := hb1.cell (by simp [go_sem])))
    go_ret
    exact ⟨ret_bool (by rw [Bool.true_and]), (by repeat' (with_reducible first | exact Later.refl _ | assumption | refine Later.drew ?_ | refine Later.drewN ?_ _ | refine Later.alloc ?_ _ | refine Later.put ?_ (by omega) _ | refine Later.trans ?_ (by assumption)))⟩

end Go.Proofs.Ytolddfapanabbaa
