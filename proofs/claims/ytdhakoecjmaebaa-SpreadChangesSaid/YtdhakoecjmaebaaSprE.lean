/-
  The walks of spread.checkPlies, slices.Clone (numbers), spread.remnants.
-/
import Derived.Test.YtdhakoecjmaebaaSprD
namespace Go.Proofs.Ytdhakoecjmaebaa
open Go.RowKit
set_option linter.unusedSimpArgs false
set_option linter.unusedVariables false

theorem lots_hit {n : Int} {l : List Int} (h : n < 0) : lotsBad (n :: l) = true := by rw [lotsBad, if_pos h]
theorem lots_miss {n : Int} {l : List Int} (h : ¬ n < 0) : lotsBad (n :: l) = lotsBad l := by rw [lotsBad, if_neg h]
theorem plies_hit {s n : Int} {l : List Int} (h : n < 0 ∨ 40 - s < n) : pliesGo s (n :: l) = 3 := by rw [pliesGo, if_pos h]
theorem plies_miss {s n : Int} {l : List Int} (h : ¬ (n < 0 ∨ 40 - s < n)) : pliesGo s (n :: l) = pliesGo (s + n) l := by rw [pliesGo, if_neg h]

set_option maxHeartbeats 4000000 in
theorem spread_checkPlies (L A : Option Addr) (lc ac : Nat) (lots plies : List Int) (w : World) (hL : Ints w L lots) (hA : Ints w A plies) (hl : lots.length ≤ 65536) (ha : plies.length ≤ 65536) :
    Calls Try.prog 15 #[.slice L lots.length lc, .slice A plies.length ac] w (Ret (.int .i64 (chkPliesR lots plies)) w) := by
  have H1 := Lib.hid (show lotsBad lots = true → chkPliesR lots plies = 3 by intro h; unfold chkPliesR; rw [if_pos h])
  have H2 := Lib.hid (show lotsBad lots = false → chkPliesR lots plies = pliesGo 0 plies by intro h; unfold chkPliesR; rw [h, if_neg (by simp)])
  generalize chkPliesR lots plies = R at *
  go_enter Try.func15, Try.ntmps15
  go_wp2
  go_loop [12] (fun iv => ∃ k : Nat, k ≤ lots.length ∧ iv = .int .i64 k ∧ lotsBad lots = lotsBad (lots.drop k)) (fun iv => lots.length - (intOf iv).toNat)
  case atStart => exact ⟨0, by omega, rfl, rfl⟩
  case round =>
    obtain ⟨k, hk, rfl, he⟩ := hrel
    have He := Lib.hid he
    clear he
    by_cases hlt : k < lots.length
    · obtain ⟨b, o, rfl, e1⟩ := hL.at_ hlt
      have Hd := Lib.hid (drop_cons' lots k hlt)
      generalize lots[k] = n at *
      by_cases hn : n < 0
      · have HR := Lib.hid (H1.out (by rw [He.out, Hd.out]; exact lots_hit hn))
        go_wp2
        go_ret
        exact ⟨ret_int HR.out.symm, (by repeat' (with_reducible first | exact Later.refl _ | assumption | refine Later.drew ?_ | refine Later.drewN ?_ _ | refine Later.alloc ?_ _ | refine Later.put ?_ (by omega) _ | refine Later.trans ?_ (by assumption)))⟩
      · go_wp2
        go_round
        case rel => exact ⟨k + 1, by omega, by go_num, by rw [He.out, Hd.out]; exact lots_miss hn⟩
        case measure => simp [intOf]; omega
    · have HR := Lib.hid (H2.out (by rw [He.out, List.drop_eq_nil_of_le (by omega)]; rfl))
      clear He H1 H2
      go_wp2
      go_loop [7, 21] (fun sv iv => ∃ (k : Nat) (s : Int), k ≤ plies.length ∧ iv = .int .i64 k ∧ sv = .int .i64 s ∧ pliesGo 0 plies = pliesGo s (plies.drop k) ∧ 0 ≤ s ∧ s ≤ 40) (fun _ iv => plies.length - (intOf iv).toNat)
      case atStart => exact ⟨0, 0, by omega, rfl, rfl, rfl, by omega, by omega⟩
      case round =>
        obtain ⟨k, s, hk, rfl, rfl, he, hs0, hs1⟩ := hrel
        have He := Lib.hid he
        clear he
        by_cases hlt : k < plies.length
        · obtain ⟨b, o, rfl, e1⟩ := hA.at_ hlt
          have Hd := Lib.hid (drop_cons' plies k hlt)
          generalize plies[k] = n at *
          by_cases hn : n < 0
          · have dn : decide (n < 0) = true := by simpa using hn
            have HV := Lib.hid (show R = 3 by rw [HR.out, He.out, Hd.out]; exact plies_hit (.inl hn))
            go_wp2
            go_ret
            exact ⟨ret_int HV.out.symm, (by repeat' (with_reducible first | exact Later.refl _ | assumption | refine Later.drew ?_ | refine Later.drewN ?_ _ | refine Later.alloc ?_ _ | refine Later.put ?_ (by omega) _ | refine Later.trans ?_ (by assumption)))⟩
          · have dn : decide (n < 0) = false := by simpa using hn
            by_cases hm : 40 - s < n
            · have dm : decide (40 - s < n) = true := by simpa using hm
              have HV := Lib.hid (show R = 3 by rw [HR.out, He.out, Hd.out]; exact plies_hit (.inr hm))
              go_wp2
              go_ret
              exact ⟨ret_int HV.out.symm, (by repeat' (with_reducible first | exact Later.refl _ | assumption | refine Later.drew ?_ | refine Later.drewN ?_ _ | refine Later.alloc ?_ _ | refine Later.put ?_ (by omega) _ | refine Later.trans ?_ (by assumption)))⟩
            · have dm : decide (40 - s < n) = false := by simpa using hm
              go_wp2
              go_round
              case rel => exact ⟨k + 1, s + n, by omega, by go_num, rfl, by rw [He.out, Hd.out]; exact plies_miss (by omega), by omega, by omega⟩
              case measure => simp [intOf]; omega
        · have HV := Lib.hid (show R = 0 by rw [HR.out, He.out, List.drop_eq_nil_of_le (by omega)]; rfl)
          go_wp2
          go_ret
          exact ⟨ret_int HV.out.symm, (by repeat' (with_reducible first | exact Later.refl _ | assumption | refine Later.drew ?_ | refine Later.drewN ?_ _ | refine Later.alloc ?_ _ | refine Later.put ?_ (by omega) _ | refine Later.trans ?_ (by assumption)))⟩

def qd4 (q : Qd) : List Value := [.int .i64 q.a, .int .i64 q.b, .int .i64 q.c, .int .i64 q.d]
theorem qd4_len (q : Qd) : (qd4 q).length = 4 := rfl
theorem qd4_one (q : Qd) : ∀ u ∈ qd4 q, u.oneCell' = true := by
  intro u hu
  simp only [qd4, List.mem_cons, List.not_mem_nil, or_false] at hu
  rcases hu with rfl | rfl | rfl | rfl <;> rfl
theorem slt_rem : SlT Try.prog 71 89 4 := SlT.mk (z := .agg #[.int .i64 0, .int .i64 0, .int .i64 0, .int .i64 0]) (by_ := 32) Try.underlying71 (by kernel_rfl) (by omega) rfl (by omega)
theorem slt_part : SlT Try.prog 49 58 4 := SlT.mk (z := .agg #[.int .i64 0, .int .i64 0, .int .i64 0, .int .i64 0]) (by_ := 32) Try.underlying49 (by kernel_rfl) (by omega) rfl (by omega)
theorem slt_rest : SlT Try.prog 40 61 4 := SlT.mk (z := .agg #[.int .i64 0, .int .i64 0, .int .i64 0, .int .i64 0]) (by_ := 32) Try.underlying40 (by kernel_rfl) (by omega) rfl (by omega)
theorem OwnR.qds {w : World} {base : Nat} {E : TypeId} {v : Value} {l : List Qd} (h : OwnR w base E 4 qd4 v l) : ∃ A c, v = .slice A l.length c ∧ l.length ≤ c ∧ c ≤ maxLen ∧ Qds w A l := by
  obtain ⟨A, c, e, h1, h2, h3⟩ := h.form qd4_len
  refine ⟨A, c, e, h1, h2, fun hn => ?_⟩
  obtain ⟨g, rfl, _, _, _, hx⟩ := h3 hn
  exact ⟨g, 0, rfl, fun i p hp => ⟨hx i p hp 0 _ rfl, hx i p hp 1 _ rfl, hx i p hp 2 _ rfl, hx i p hp 3 _ rfl⟩⟩
theorem rem_hit {lot wd : Int} {r : Rl} {rs : List Rl} {t : Int} {ts : List Int} {i : Nat} (h : t = lot ∧ wd ≤ r.wd) : remGo lot wd (r :: rs) (t :: ts) i = ⟨(i : Int), lot, 0, r.ln⟩ :: remGo lot wd rs ts (i + 1) := by rw [remGo, if_pos h]
theorem rem_miss {lot wd : Int} {r : Rl} {rs : List Rl} {t : Int} {ts : List Int} {i : Nat} (h : ¬ (t = lot ∧ wd ≤ r.wd)) : remGo lot wd (r :: rs) (t :: ts) i = remGo lot wd rs ts (i + 1) := by rw [remGo, if_neg h]
def RemPost (l : List Qd) (w : World) (e : Ending) (w' : World) : Prop := ∃ v, e = .returned v ∧ OwnR w' w.heap.size 89 4 qd4 v l ∧ Later w w'

set_option maxHeartbeats 4000000 in
set_option maxRecDepth 100000 in
theorem spread_remnants (C L : Option Addr) (cc lc : Nat) (lot wd : Int) (rs : List Rl) (lots : List Int) (w : World) (hr : Rolls w C rs) (hL : Ints w L lots) (hll : lots.length = rs.length) (hrl : rs.length ≤ 20) :
    Calls Try.prog 18 #[.slice C rs.length cc, .slice L lots.length lc, .int .i64 lot, .int .i64 wd] w (RemPost (remR rs lots lot wd) w) := by
  have Hll := Lib.hid hll
  clear hll
  go_enter Try.func18, Try.ntmps18
  go_wp2
  go_loopw [9, 14] (fun v iv wr => ∃ (k : Nat) (acc : List Qd), k ≤ rs.length ∧ iv = .int .i64 k ∧ acc.length ≤ k ∧ remR rs lots lot wd = acc ++ remGo lot wd (rs.drop k) (lots.drop k) k ∧ OwnR wr w.heap.size 89 4 qd4 v acc ∧ Later w wr) (fun _ iv _ => rs.length - (intOf iv).toNat)
  case atStart => exact ⟨0, [], by omega, rfl, by simp, rfl, World.ownsRow_nil _ _ _ _, Later.refl _⟩
  case round =>
    obtain ⟨k, acc, hk, rfl, hal, he, ho, hb⟩ := hrel
    have He := Lib.hid he
    have Ho := Lib.hid ho
    have Hal := Lib.hid hal
    clear he ho hal
    by_cases hlt : k < rs.length
    · obtain ⟨bb, ob, rfl, z0, z1, z2, z3, z4, z5, z6, _⟩ := (hr.later hb).at_ hlt
      have hkl : k < lots.length := by rw [Hll.out]; exact hlt
      obtain ⟨bl, ol, rfl, y0⟩ := (hL.later hb).at_ hkl
      have hbz : bb < wr.heap.size := World.block_lt_of_cell? _ _ z0
      have hlz : bl < wr.heap.size := World.block_lt_of_cell? _ _ y0
      have Hd := Lib.hid (drop_cons' rs k hlt)
      have Hdl := Lib.hid (drop_cons' lots k hkl)
      generalize rs[k] = r at *
      generalize lots[k] = t at *
      obtain ⟨rid, rwd, rln, rtl, rta, rtb, fa, fc, fl⟩ := r
      simp only [] at z0 z1 z2 z3 z4 z5 z6
      have hk0 : (0 : Int) ≤ (k : Int) := by omega
      have hk1 : (k : Int) < (rs.length : Int) := by omega
      have hk2 : (k : Int) < (lots.length : Int) := by omega
      by_cases h1 : t = lot
      · have d1 : (t == lot) = true := by simpa using h1
        have H1 := Lib.hid h1
        clear h1
        by_cases h2 : wd ≤ rwd
        · have d2 : decide (wd ≤ rwd) = true := by simpa using h2
          have Hh := Lib.hid (show remR rs lots lot wd = (acc ++ [⟨(k : Int), lot, 0, rln⟩]) ++ remGo lot wd (rs.drop (k + 1)) (lots.drop (k + 1)) (k + 1) by rw [He.out, Hd.out, Hdl.out, rem_hit ⟨H1.out, h2⟩, List.append_assoc]; rfl)
          go_upto_region 6 with fail
          refine name_world (fun W9 hW9 => ?_)
          have hl9 : Later wr W9 := by rw [hW9]; exact (by repeat' (with_reducible first | exact Later.refl _ | assumption | refine Later.drew ?_ | refine Later.drewN ?_ _ | refine Later.alloc ?_ _ | refine Later.put ?_ (by omega) _ | refine Later.trans ?_ (by assumption)))
          have c2 : W9.cell? ⟨wr.heap.size, 2, none⟩ = some (.int .i64 rln) := by rw [hW9]; simp [go_sem]
          have zc : wr.heap.size < W9.heap.size := World.block_lt_of_cell? _ _ c2
          clear hW9
          generalize hg : wr.heap.size = g9 at c2 zc ⊢
          clear hg
          have HS := Lib.hid (SrcAt.blk (Blk.new W9 89 #[.int .i64 k, .int .i64 lot, .int .i64 0, .int .i64 rln]))
          go_wp2_with (at_builtin; refine wpList_append_rec slt_rem qd4_len qd4_one rfl (.tmp 31) (.tmp 38) rfl (base := w.heap.size) (l := acc) rfl (OwnR.alloc (Ho.out.later hl9) _) (A := some ⟨W9.heap.size, 0, none⟩) (c := 1) [⟨(k : Int), lot, 0, rln⟩] rfl (by intro h; cases h) HS.out (by have := Hal.out; simp; omega) (by have := hb.size; have := hl9.size; simp; omega) ?_; intro A3 c3' w3 ho3 hg3)
          have hl3 : Later w w3 := Later.grown ((hb.trans hl9).alloc _) hg3 (fun g hg => (World.ownsRow.lt Ho.out g hg).1)
          clear hg3
          have Ho3 := Lib.hid ho3
          clear ho3
          simp only [List.length_append, List.length_singleton] at Ho3
          go_roundw
          case rel => exact ⟨k + 1, _, by omega, by go_num, by have := Hal.out; simp; omega, Hh.out, Ho3.out, hl3⟩
          case measure => simp [intOf]; omega
        · have d2 : decide (wd ≤ rwd) = false := by simpa using h2
          have Hh := Lib.hid (show remR rs lots lot wd = acc ++ remGo lot wd (rs.drop (k + 1)) (lots.drop (k + 1)) (k + 1) by rw [He.out, Hd.out, Hdl.out, rem_miss (fun h => h2 h.2)])
          go_wp2
          go_roundw
          case rel => exact ⟨k + 1, acc, by omega, by go_num, by have := Hal.out; omega, Hh.out, Ho.out.later (by repeat' (with_reducible first | exact Later.refl _ | assumption | refine Later.drew ?_ | refine Later.drewN ?_ _ | refine Later.alloc ?_ _ | refine Later.put ?_ (by omega) _ | refine Later.trans ?_ (by assumption))), (by repeat' (with_reducible first | exact Later.refl _ | assumption | refine Later.drew ?_ | refine Later.drewN ?_ _ | refine Later.alloc ?_ _ | refine Later.put ?_ (by omega) _ | refine Later.trans ?_ (by assumption)))⟩
          case measure => simp [intOf]; omega
      · have d1 : (t == lot) = false := by simpa using h1
        have Hh := Lib.hid (show remR rs lots lot wd = acc ++ remGo lot wd (rs.drop (k + 1)) (lots.drop (k + 1)) (k + 1) by rw [He.out, Hd.out, Hdl.out, rem_miss (fun h => h1 h.1)])
        go_wp2
        go_roundw
        case rel => exact ⟨k + 1, acc, by omega, by go_num, by have := Hal.out; omega, Hh.out, Ho.out.later (by repeat' (with_reducible first | exact Later.refl _ | assumption | refine Later.drew ?_ | refine Later.drewN ?_ _ | refine Later.alloc ?_ _ | refine Later.put ?_ (by omega) _ | refine Later.trans ?_ (by assumption))), (by repeat' (with_reducible first | exact Later.refl _ | assumption | refine Later.drew ?_ | refine Later.drewN ?_ _ | refine Later.alloc ?_ _ | refine Later.put ?_ (by omega) _ | refine Later.trans ?_ (by assumption)))⟩
        case measure => simp [intOf]; omega
    · have H0 := Lib.hid (show remR rs lots lot wd = acc by rw [He.out, List.drop_eq_nil_of_le (by omega)]; simp [remGo])
      go_wp2
      go_ret
      exact ⟨_, rfl, by rw [H0.out]; exact Ho.out, hb⟩

end Go.Proofs.Ytdhakoecjmaebaa
