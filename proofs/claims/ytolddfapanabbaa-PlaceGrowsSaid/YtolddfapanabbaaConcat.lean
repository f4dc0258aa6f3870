/-
  The walks of slices.Grow at nil and slices.Concat of two lists of points.
-/
import Derived.Test.YtolddfapanabbaaOwn
import Derived.Lib.AppendZeros
namespace Go.Proofs.Ytolddfapanabbaa
open Go.RowKit
set_option linter.unusedSimpArgs false
set_option linter.unusedVariables false

theorem info_spot : (Try.prog.info? 78).map (fun i => (i.zero, i.size, i.bytes)) = some (some (.agg #[.int .i64 0, .int .i64 0]), 2, 16) := by kernel_rfl

/-- A row of the call's own without an element, with room for n. -/
def Room (n : Nat) (w : World) (e : Ending) (w' : World) : Prop := ∃ g cap, e = .returned (.slice (some ⟨g, 0, none⟩) 0 cap) ∧ n ≤ cap ∧ Own w' w.heap.size (.slice (some ⟨g, 0, none⟩) 0 cap) [] ∧ Later w w'

set_option maxHeartbeats 1000000 in
set_option maxRecDepth 100000 in
theorem slices_Grow (n : Nat) (w : World) (h0 : 0 < n) (hn : n ≤ 65536) :
    Calls Try.prog 131 #[.slice none 0 0, .int .i64 n] w (Room n w) := by
  obtain ⟨i0, hi, hz0, hz1, hz2⟩ := info_parts info_spot
  have hap := fun W : World => Lib.run_append_nil_zeros (P := Try.prog) W 25 3 25 78 i0 _ .i64 .i64 Try.underlying25 Try.underlying3 hi hz0 n h0 (by omega) (by omega) (by rw [hz2]; omega)
  have hcap := grownCap_ge w n 0 78
  have hcm := grownCap_le_maxLen w n 0 78 (by unfold maxLen; omega)
  have hap := hap w
  generalize grownCap w n 0 78 = cap at *
  have hsz : (Builtin.zeroCells (Value.agg #[Value.int IntKind.i64 0, Value.int IntKind.i64 0]).cells n ++ Builtin.zeroCells (Value.agg #[Value.int IntKind.i64 0, Value.int IntKind.i64 0]).cells (cap - n)).size = cap * 2 := by
    rw [Array.size_append, size_zeroCells, size_zeroCells, show (Value.agg #[Value.int IntKind.i64 0, Value.int IntKind.i64 0]).cells.size = 2 from rfl]
    omega
  generalize (Builtin.zeroCells (Value.agg #[Value.int IntKind.i64 0, Value.int IntKind.i64 0]).cells n ++ Builtin.zeroCells (Value.agg #[Value.int IntKind.i64 0, Value.int IntKind.i64 0]).cells (cap - n)) = cur at *
  have hown : Own (w.alloc (.cells cur 78)).drew w.heap.size (.slice (some ⟨w.heap.size, 0, none⟩) 0 cap) [] := ⟨rfl, .inr ⟨w.heap.size, cap, cur, rfl, Nat.le_refl _, heap_alloc_new w _, Nat.zero_le _, hcm, hsz, by simp [flat]⟩⟩
  have Hap := Lib.hid hap
  have Hown := Lib.hid hown
  clear hap hown hsz
  go_enter Try.func131, Try.ntmps131
  go_wp2_with (at_builtin; refine Lib.wpList_append_run _ rfl (.tmp 20) (.tmp 21) 25 3 rfl _ _ rfl rfl _ _ Hap.out ?_)
  go_ret
  exact ⟨_, _, rfl, hcap, Hown.out, ((Later.refl _).alloc _).drew⟩

/-- The result is a slice that reads as ps. -/
def RetPts (ps : List Pt) (w : World) (e : Ending) (w' : World) : Prop := ∃ A c, e = .returned (.slice A ps.length c) ∧ ps.length ≤ c ∧ c ≤ maxLen ∧ Pts w' A ps ∧ Later w w'

theorem src_cells {w : World} {A : Option Addr} {l : List Pt} (h : Pts w A l) : ∀ ad, A = some ad → ∀ j u, (flat l)[j]? = some u → w.cell? (ad.add j) = some u := by
  intro ad had j u hu
  have hj : j < (flat l).length := by
    rcases Nat.lt_or_ge j (flat l).length with hh | hh
    · exact hh
    · rw [List.getElem?_eq_none hh] at hu; cases hu
  rw [flat_length] at hj
  obtain ⟨b, o, e, hc⟩ := h (by omega)
  rw [e] at had
  cases had
  have hk : j / 2 < l.length := by omega
  obtain ⟨c1, c2⟩ := hc (j / 2) _ (List.getElem?_eq_getElem hk)
  obtain ⟨f1, f2⟩ := flat_get (List.getElem?_eq_getElem hk)
  rcases Nat.mod_two_eq_zero_or_one j with h0 | h0
  · rw [show j / 2 * 2 = j by omega] at c1 f1
    rw [f1] at hu
    cases hu
    have : (⟨b, o, none⟩ : Addr).add j = ⟨b, o + j, none⟩ := by unfold Addr.add; split <;> simp_all
    rw [this]; exact c1
  · rw [show j / 2 * 2 + 1 = j by omega] at f2
    rw [show o + j / 2 * 2 + 1 = o + j by omega] at c2
    rw [f2] at hu
    cases hu
    have : (⟨b, o, none⟩ : Addr).add j = ⟨b, o + j, none⟩ := by unfold Addr.add; split <;> simp_all
    rw [this]; exact c2

set_option maxHeartbeats 2000000 in
set_option maxRecDepth 100000 in
theorem slices_Concat (g c : Nat) (A1 A2 : Option Addr) (c1 c2 : Nat) (l1 l2 : List Pt) (w : World) (hs : l1.length + l2.length ≤ 65536) (h0 : 0 < l1.length + l2.length)
    (x1 : w.cell? ⟨g, 0, none⟩ = some (.slice A1 l1.length c1)) (x2 : w.cell? ⟨g, 1, none⟩ = some (.slice A2 l2.length c2)) (p1 : Pts w A1 l1) (p2 : Pts w A2 l2)
    (q1 : A1 = none → l1.length = 0 ∧ c1 = 0) (q2 : A2 = none → l2.length = 0 ∧ c2 = 0) :
    Calls Try.prog 113 #[.slice (some ⟨g, 0, none⟩) 2 c] w (RetPts (l1 ++ l2) w) := by
  obtain ⟨i0, hi, hz0, hz1, hz2⟩ := info_parts info_spot
  have Q1 := Lib.hid q1
  have Q2 := Lib.hid q2
  clear q1 q2
  have hg := slices_Grow (l1.length + l2.length) w h0 hs
  rw [show ((l1.length + l2.length : Nat) : Int) = (l1.length : Int) + (l2.length : Int) by omega] at hg
  have HG := Lib.hid hg
  clear hg
  go_enter Try.func113, Try.ntmps113
  go_wp2
  go_loop [3, 11] (fun sv kv => (kv = .int .i64 0 ∧ sv = .int .i64 0) ∨ (kv = .int .i64 1 ∧ sv = .int .i64 l1.length) ∨ (kv = .int .i64 2 ∧ sv = .int .i64 ((l1.length : Int) + (l2.length : Int)))) (fun _ kv => 2 - (intOf kv).toNat)
  case atStart => exact .inl ⟨rfl, rfl⟩
  case round =>
    rcases hrel with ⟨rfl, rfl⟩ | ⟨rfl, rfl⟩ | ⟨rfl, rfl⟩
    · go_wp2
      go_round
      case rel => exact .inr (.inl ⟨rfl, rfl⟩)
      case measure => simp [intOf]
    · go_wp2
      go_round
      case rel => exact .inr (.inr ⟨rfl, rfl⟩)
      case measure => simp [intOf]
    · go_wp2_with (first | (go_at_call 131; refine HG.out.mono ?_; rintro e w1 ⟨G, cap, rfl, hcap, hown, hl⟩))
      have hG : w.heap.size ≤ G := (World.ownsRow.lt hown G rfl).1
      go_loopw [6, 27] (fun sv kv wq => ∃ l : List Pt, sv = .slice (some ⟨G, 0, none⟩) l.length cap ∧ Own wq w.heap.size (.slice (some ⟨G, 0, none⟩) l.length cap) l ∧ Later w wq ∧ ((kv = .int .i64 0 ∧ l = []) ∨ (kv = .int .i64 1 ∧ l = l1) ∨ (kv = .int .i64 2 ∧ l = l1 ++ l2))) (fun _ kv _ => 2 - (intOf kv).toNat)
      case atStart => exact ⟨[], rfl, hown, hl, .inl ⟨rfl, rfl⟩⟩
      case round =>
        clear hown hl
        obtain ⟨l, rfl, hown, hl, h3⟩ := hrel
        have y1 := hl.cell x1
        have y2 := hl.cell x2
        rcases h3 with ⟨rfl, rfl⟩ | ⟨rfl, rfl⟩ | ⟨rfl, rfl⟩
        · have s1 := src_cells (p1.later hl)
          have S1 := Lib.hid s1
          have Ho := Lib.hid hown
          clear s1 hown
          go_wp2_with (at_builtin; refine wpList_append_fits_any _ rfl (.tmp 31) (.tmp 32) 25 rfl w.heap.size 78 i0 2 Try.underlying25 hi hz1 G 0 cap (flat []) rfl Ho.out A1 l1.length c1 (flat l1) rfl (flat_length _) Q1.out S1.out (flat_one _) (by omega) ?_; intro w2 ho2 hg2)
          have ho3 : Own w2 w.heap.size (.slice (some ⟨G, 0, none⟩) l1.length cap) l1 := by
            have := ho2; simp only [Nat.zero_add] at this; exact this
          have hl2 : Later w w2 := Below.grown hl hg2 hl.size (by intro k hk; cases hk; exact hG)
          clear ho2 hg2
          go_roundw
          case rel => exact ⟨l1, by simp, ho3, hl2, .inr (.inl ⟨rfl, rfl⟩)⟩
          case measure => simp [intOf]
        · have s2 := src_cells (p2.later hl)
          have S2 := Lib.hid s2
          have Ho := Lib.hid hown
          clear s2 hown
          go_wp2_with (at_builtin; refine wpList_append_fits_any _ rfl (.tmp 31) (.tmp 32) 25 rfl w.heap.size 78 i0 2 Try.underlying25 hi hz1 G l.length cap (flat l) rfl Ho.out A2 l2.length c2 (flat l2) rfl (flat_length _) Q2.out S2.out (flat_one _) (by omega) ?_; intro w2 ho2 hg2)
          have ho3 : Own w2 w.heap.size (.slice (some ⟨G, 0, none⟩) (l ++ l2).length cap) (l ++ l2) := by
            unfold Own; rw [flat_append, List.length_append]; exact ho2
          have hl2 : Later w w2 := Below.grown hl hg2 hl.size (by intro k hk; cases hk; exact hG)
          clear ho2 hg2
          go_roundw
          case rel => exact ⟨l ++ l2, by simp, ho3, hl2, .inr (.inr ⟨rfl, rfl⟩)⟩
          case measure => simp [intOf]
        · go_wp2
          go_ret
          obtain ⟨A, c', e, hc1, hc2, hP, _⟩ := hown.form
          exact ⟨A, c', by rw [← e]; rfl, hc1, hc2, hP, hl⟩

end Go.Proofs.Ytolddfapanabbaa
