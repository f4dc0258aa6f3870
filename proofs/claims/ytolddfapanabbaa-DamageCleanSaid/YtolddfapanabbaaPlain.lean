/-
  The walk of garmentlaw39.plain: the rolls without their flaws, in new memory.
-/
import Derived.Test.YtolddfapanabbaaAppR
import Derived.Test.YtolddfapanabbaaDam
namespace Go.Proofs.Ytolddfapanabbaa
open Go.RowKit
set_option linter.unusedSimpArgs false
set_option linter.unusedVariables false

def bare (r : Rl) : Rl := ⟨r.id, r.wd, r.ln, r.tl, r.ta, r.tb, none, 0, []⟩
theorem rl_cells (r : Rl) : r.cells.length = 7 := rfl
def PlainPost (rs : List Rl) (w : World) (e : Ending) (w' : World) : Prop := ∃ v, e = .returned v ∧ OwnR w' w.heap.size 56 7 Rl.cells v (rs.map bare) ∧ Later w w'
theorem info_roll : (Try.prog.info? 56).map (fun i => (i.zero, i.size, i.bytes)) = some (some (.agg #[.string ⟨#[]⟩, .int .i64 0, .int .i64 0, .int .i64 0, .int .i64 0, .int .i64 0, .slice none 0 0]), 7, 80) := by kernel_rfl
theorem new_seven (w : World) (a b c d e f g : Value) (t : TypeId) : ∀ j u, ([a, b, c, d, e, f, g] : List Value)[j]? = some u → (w.alloc (.cells #[a, b, c, d, e, f, g] t)).cell? ((⟨w.heap.size, 0, none⟩ : Addr).add j) = some u := by
  intro j u hu
  have h := Blk.new w t #[a, b, c, d, e, f, g]
  have ha : (⟨w.heap.size, 0, none⟩ : Addr).add j = ⟨w.heap.size, j, none⟩ := by
    unfold Addr.add
    split
    · rename_i h; rw [h]
    · simp
  rw [ha, h.cell j, ← hu, ← List.getElem?_toArray]
theorem bare_one (r : Rl) : ∀ u ∈ (bare r).cells, u.oneCell' = true := by
  intro u hu
  simp only [bare, Rl.cells, List.mem_cons, List.not_mem_nil, or_false] at hu
  rcases hu with rfl | rfl | rfl | rfl | rfl | rfl | rfl <;> rfl

set_option maxHeartbeats 2000000 in
theorem law39_plain (C : Option Addr) (cc : Nat) (rs : List Rl) (w : World) (hrs : Rolls w C rs) (hrl : rs.length ≤ 65536) :
    Calls Try.prog 24 #[.slice C rs.length cc] w (PlainPost rs w) := by
  obtain ⟨i0, hi, hz0, hz1, hz2⟩ := info_parts info_roll
  go_enter Try.func24, Try.ntmps24
  go_wp2
  go_loopw [3, 8] (fun v ii wr => ∃ k : Nat, k ≤ rs.length ∧ ii = .int .i64 k ∧ OwnR wr w.heap.size 56 7 Rl.cells v ((rs.take k).map bare) ∧ Later w wr) (fun _ ii _ => rs.length - (intOf ii).toNat)
  case atStart => exact ⟨0, by omega, rfl, World.ownsRow_nil _ _ _ _, Later.refl _⟩
  case round =>
    obtain ⟨k, hk, rfl, hown, hb⟩ := hrel
    have Ho := Lib.hid hown
    clear hown
    by_cases hlt : k < rs.length
    · obtain ⟨bb, ob, rfl, e0, e1, e2, e3, e4, e5, e6, hok⟩ := (hrs.later hb).at_ hlt
      have hbz : bb < wr.heap.size := World.block_lt_of_cell? _ _ e0
      have Ht := Lib.hid (List.take_succ_eq_append_getElem hlt)
      have hll : ((rs.take k).map bare).length = k := by simp; omega
      generalize rs[k] = r at *
      obtain ⟨rid, rwd, rln, rtl, rta, rtb, fa, fc, fl⟩ := r
      simp only [] at e0 e1 e2 e3 e4 e5 e6
      generalize hacc : (rs.take k).map bare = acc at *
      have Hacc := Lib.hid hacc
      clear hacc
      have Hll := Lib.hid hll
      go_upto_region 6 with fail
      have a63 : acc.length + 1 ≤ maxLen := by rw [Hll.out]; unfold maxLen; omega
      have a47 : (acc.length + 1) * 80 ≤ 140737488355328 := by rw [Hll.out]; omega
      have hnw := new_seven (wr.alloc (.cells #[.string rid, .int .i64 rwd, .int .i64 rln, .int .i64 rtl, .int .i64 rta, .int .i64 rtb, .slice none 0 0] 56)) (.string rid) (.int .i64 rwd) (.int .i64 rln) (.int .i64 rtl) (.int .i64 rta) (.int .i64 rtb) (.slice none 0 0) 56
      rw [World.size_alloc] at hnw
      have Hnw := Lib.hid hnw
      have hl2 : Later w ((wr.alloc (.cells #[.string rid, .int .i64 rwd, .int .i64 rln, .int .i64 rtl, .int .i64 rta, .int .i64 rtb, .slice none 0 0] 56)).alloc (.cells #[.string rid, .int .i64 rwd, .int .i64 rln, .int .i64 rtl, .int .i64 rta, .int .i64 rtb, .slice none 0 0] 56)) := (by repeat' (with_reducible first | exact Later.refl _ | assumption | refine Later.drew ?_ | refine Later.drewN ?_ _ | refine Later.alloc ?_ _ | refine Later.put ?_ (by omega) _ | refine Later.trans ?_ (by assumption)))
      clear hnw hll
      go_wp2_with (at_builtin; refine wpList_append_own _ rfl (.tmp 13) (.tmp 15) 34 rfl w.heap.size 56 i0 (.agg #[.string ⟨#[]⟩, .int .i64 0, .int .i64 0, .int .i64 0, .int .i64 0, .int .i64 0, .slice none 0 0]) 7 80 Try.underlying34 hi hz0 hz1 hz2 rfl (by decide) _ acc.length (acc.flatMap Rl.cells) rfl (World.ownsRow.alloc (World.ownsRow.alloc Ho.out _) _) ⟨wr.heap.size + 1, 0, none⟩ 1 1 [.string rid, .int .i64 rwd, .int .i64 rln, .int .i64 rtl, .int .i64 rta, .int .i64 rtb, .slice none 0 0] rfl rfl Hnw.out (bare_one ⟨rid, rwd, rln, rtl, rta, rtb, fa, fc, fl⟩) a63 a47 hl2.size ?_; intro v' w3 hown' hgrow _)
      have hlt2 := World.ownsRow.lt Ho.out
      have hl3 : Later w w3 := Below.grown hl2 hgrow hl2.size (fun g hg => (hlt2 g hg).1)
      have hown2 : OwnR w3 w.heap.size 56 7 Rl.cells v' (acc ++ [bare ⟨rid, rwd, rln, rtl, rta, rtb, fa, fc, fl⟩]) := by
        unfold OwnR
        rw [List.flatMap_append, List.length_append]
        exact hown'
      have Ho2 := Lib.hid hown2
      clear hown' hown2 hgrow hlt2
      go_wp2
      go_roundw
      case rel => exact ⟨k + 1, by omega, by go_num, by rw [Ht.out, List.map_append, Hacc.out]; exact Ho2.out, hl3⟩
      case measure => simp [intOf]; omega
    · go_wp2
      go_ret
      exact ⟨_, rfl, by rw [List.take_of_length_le (by omega)] at Ho; exact Ho.out, hb⟩

end Go.Proofs.Ytolddfapanabbaa
