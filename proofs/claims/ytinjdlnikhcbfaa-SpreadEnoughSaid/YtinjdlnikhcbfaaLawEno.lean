/-
  SpreadEnough, walked.
-/
import Derived.Test.YtinjdlnikhcbfaaLaidB
namespace Go.Proofs.Ytinjdlnikhcbfaa
open Go.RowKit
set_option linter.unusedSimpArgs false
set_option linter.unusedVariables false
attribute [local go_sem] ite_min ite_max

theorem enough_snoc {len wd : Int} {r : Rl} {t : Int} : ∀ {rs : List Rl} {ts : List Int}, ts.length = rs.length → enoughN len wd (rs ++ [r]) (ts ++ [t]) = enoughN len wd rs ts + if t = 0 ∧ wd ≤ r.wd then r.ln / len else 0 := by
  intro rs
  induction rs with
  | nil => intro ts h; rw [List.eq_nil_of_length_eq_zero h]; simp [enoughN]
  | cons a rs ih =>
    intro ts h
    cases ts with
    | nil => simp at h
    | cons b ts =>
      rw [List.cons_append, List.cons_append, enoughN, enoughN, ih (by simpa using h)]
      omega
theorem enough_bd {len wd : Int} (hl : 1 ≤ len) : ∀ {rs : List Rl} {ts : List Int}, (∀ r ∈ rs, 1 ≤ r.ln ∧ r.ln ≤ 1048576) → 0 ≤ enoughN len wd rs ts ∧ enoughN len wd rs ts ≤ 1048576 * rs.length := by
  intro rs
  induction rs with
  | nil => intro ts _; cases ts <;> simp [enoughN]
  | cons a rs ih =>
    intro ts h
    cases ts with
    | nil => simp only [enoughN, List.length_cons]; omega
    | cons b ts =>
      have := ih (ts := ts) (fun r hr => h r (List.mem_cons_of_mem _ hr))
      have ha := h a (List.mem_cons_self ..)
      have h1 : 0 ≤ a.ln / len := Int.ediv_nonneg (by omega) (by omega)
      have h2 : a.ln / len ≤ a.ln := Int.ediv_le_self _ (by omega)
      rw [enoughN, List.length_cons]
      split <;> omega

set_option maxHeartbeats 8000000 in
set_option maxRecDepth 100000 in
theorem law38_SpreadEnough (hex : ∀ W, Calls Try.prog 16 #[] W (Ret (.bool true) W)) (c : C8) (w : World) (hc : C8Ok w c) :
    Calls Try.prog 9 #[c.agg] w (Ret (.bool true) w) := by
  have HX := Lib.hid hex
  have HF := Lib.hid (fun W (hW : Later w W) => law38_few c W (hc.later hW))
  rcases hfew : few8 c with _ | _
  · rw [hfew] at HF
    unfold C8.agg at HF ⊢
    clear hfew
    obtain ⟨len, wd, rx, ry, s1, c1, sz, s2, c2, pl, qa, qc, ps, ra, rc, rs, la, lc, lots, aa, ac, plies⟩ := c
    simp only [] at HF ⊢
    go_enter Try.func9, Try.ntmps9
    go_wp2_with (first | (go_at_call 15; (with_reducible refine (HF.out _ (by repeat' (with_reducible first | exact Later.refl _ | assumption | refine Later.drew ?_ | refine Later.drewN ?_ _ | refine Later.alloc ?_ _ | refine Later.put ?_ (by omega) _ | refine Later.trans ?_ (by assumption)))).mono ?_); rintro e w2 ⟨rfl, hb2⟩) | (go_at_call 16; (with_reducible refine (HX.out _).mono ?_); rintro e w10 ⟨rfl, hb10⟩))
    go_ret
    exact ⟨rfl, (by repeat' (with_reducible first | exact Later.refl _ | assumption | refine Later.drew ?_ | refine Later.drewN ?_ _ | refine Later.alloc ?_ _ | refine Later.put ?_ (by omega) _ | refine Later.trans ?_ (by assumption)))⟩
  rw [hfew] at HF
  have Hcs := Lib.hid hc
  obtain ⟨a1, a2, a3, a4, a5, a6, a7⟩ := few8_all hfew
  have hf0 : ∀ (A : Option Addr) (k : Nat) (l : List Int), l.length ≤ 6 → few8 { c with aa := A, ac := k, plies := l } = true := by
    intro A k l hl
    unfold few8 at hfew ⊢
    rw [Bool.and_eq_true] at hfew ⊢
    exact ⟨by rw [decide_eq_true_iff]; simp only []; omega, hfew.2⟩
  have hck : ∀ (A : Option Addr) (k : Nat) (l : List Int) (W : World), Later w W → Ints W A l → l.length ≤ k → k ≤ maxLen → (∀ n ∈ l, I64 n) → C8Ok W { c with aa := A, ac := k, plies := l } := fun A k l W hW h1 h2 h3 h4 =>
    ⟨hc.sz.later hW, hc.pl.later hW, hc.ps.later hW, hc.rs.later hW, hc.lots.later hW, h1, hc.szc, hc.plc, hc.psc, hc.rsc, hc.ltc, ⟨h2, h3⟩, hc.i1, hc.i2, hc.i3, hc.i4, hc.il, h4⟩
  have Hck := Lib.hid hck
  have Hf0 := Lib.hid hf0
  have hc0 : ∀ W, Later w W → C8Ok W { c with aa := none, ac := 0, plies := [] } := fun W hW => hck none 0 [] W hW (fun h => absurd h (by simp)) (by simp) (by simp) (fun n hn => by cases hn)
  have hfz := hf0 none 0 [] (by simp)
  clear hck hf0 hfew
  by_cases hz : (spR { c with aa := none, ac := 0, plies := [] }).2.2 = 0
  · have HL0 := Lib.hid (fun W (hW : Later w W) => law38_laid_yes _ W (hc0 W hW) hfz hz)
    have hsz : (spreadR c.len c.wd c.ps c.rs c.lots []).2.2 = 0 := hz
    have hLk := (laid_ok hz).1
    have hl1 : 1 ≤ c.len ∧ c.len ≤ 1048576 := hLk.len1
    obtain ⟨_, r2, r3⟩ := chkRolls_zero (show chkRollsR c.rs c.lots.length = 0 from hLk.rolls)
    have hln : ∀ r ∈ c.rs, 1 ≤ r.ln ∧ r.ln ≤ 1048576 := fun r hr => (roll_ok (r2 r hr)).2.2.2.1
    have HE := Lib.hid (fun (m : Int) (h0 : 0 ≤ m) (h1 : m ≤ 40) (hm : m ≤ enoughN c.len c.wd c.rs c.lots) (A : Option Addr) (k : Nat) => show (spR { c with aa := A, ac := k, plies := [m] }).2.2 = 0 ∧ ((spR { c with aa := A, ac := k, plies := [m] }).1.length : Int) = m from spread_enough hsz h0 h1 hm)
    have HL1 := Lib.hid (fun (m : Int) (h0 : 0 ≤ m) (h1 : m ≤ 40) (hm : m ≤ enoughN c.len c.wd c.rs c.lots) (A : Option Addr) (W : World) (hW : Later w W) (hA : Ints W A [m]) =>
      (law38_laid_yes _ W (Hck.out A 1 [m] W hW hA (by simp) (by decide) (fun n hn => by rw [List.mem_singleton.1 hn]; unfold I64; omega)) (Hf0.out A 1 [m] (by simp)) (HE.out m h0 h1 hm A 1).1).mono (R' := fun e w' => ∃ S1 d1 S2 d2 P pc X nx xc n, e = .returned (.tuple #[.agg #[.int .i64 c.len, .int .i64 c.wd, .int .i64 c.rx, .int .i64 c.ry, .slice S1 c.sz.length d1, .slice S2 c.pl.length d2, .slice P n pc], .slice X nx xc, .bool true]) ∧ (n : Int) = m ∧ Later W w') (fun e w' hp => by
        obtain ⟨S1, d1, S2, d2, P, pc, X, xc, ys, h1', hys, h40, _, _, _, _, _, _, h9⟩ := hp
        refine ⟨S1, d1, S2, d2, P, pc, X, _, xc, ys.length, h1', ?_, h9⟩
        have := (HE.out m h0 h1 hm A 1).2
        rw [← hys, List.length_map] at this
        exact this))
    unfold C8.agg LaidYes at HL0
    unfold C8.agg at HL1 HF ⊢
    have Hr3 := Lib.hid r3
    have hrs := hc.rs
    have hlots := hc.lots
    clear HE Hck Hf0 hc0 hfz hsz hLk r2 hz hc Hcs
    obtain ⟨len, wd, rx, ry, s1, c1, sz, s2, c2, pl, qa, qc, ps, ra, rc, rs, la, lc, lots, aa, ac, plies⟩ := c
    simp only [List.length_nil, List.length_singleton] at HL0 HL1 HF hl1 hln Hr3 a3 a4 r3 hrs hlots ⊢
    clear r3
    have dlr : ((lots.length : Int) != (rs.length : Int)) = false := by rw [Hr3.out]; simp
    have dl1 : decide (len < 1) = false := by simp; omega
    go_enter Try.func9, Try.ntmps9
    go_upto_region 4 with (first | (go_at_call 15; (with_reducible refine (HF.out _ (by repeat' (with_reducible first | exact Later.refl _ | assumption | refine Later.drew ?_ | refine Later.drewN ?_ _ | refine Later.alloc ?_ _ | refine Later.put ?_ (by omega) _ | refine Later.trans ?_ (by assumption)))).mono ?_); rintro e w2 ⟨rfl, hb2⟩; have D2 : Blk w2 w.heap.size 31 #[.int .i64 len, .int .i64 wd, .int .i64 rx, .int .i64 ry, .slice s1 sz.length c1, .slice s2 pl.length c2, .slice qa ps.length qc, .slice ra rs.length rc, .slice la lots.length lc, .slice aa plies.length ac] := Blk.later (by repeat' (with_reducible first | assumption | (refine Blk.newAt ?_; simp; done) | refine Blk.alloc ?_ _ | refine Blk.drew ?_ | refine Blk.drewN ?_ _ | refine Blk.later ?_ (by assumption))) hb2; have k9 : w2.frozen? ⟨w.heap.size, 9, none⟩ = false := D2.frozen 9; have zk9 := D2.lt; have k99 : w2.cell? ⟨w.heap.size, 9, none⟩ = some (.slice aa plies.length ac) := D2.cell 9))
    refine name_world (fun W3 hW3 => ?_)
    have D3 : Blk W3 w.heap.size 31 #[.int .i64 len, .int .i64 wd, .int .i64 rx, .int .i64 ry, .slice s1 sz.length c1, .slice s2 pl.length c2, .slice qa ps.length qc, .slice ra rs.length rc, .slice la lots.length lc, .slice none 0 0] := by rw [hW3]; exact D2.set_ 9 _
    have hl3 : Later w W3 := by
      rw [hW3]
      have : Later w w2 := (by repeat' (with_reducible first | exact Later.refl _ | assumption | refine Later.drew ?_ | refine Later.drewN ?_ _ | refine Later.alloc ?_ _ | refine Later.put ?_ (by omega) _ | refine Later.trans ?_ (by assumption)))
      exact this.put (Nat.le_refl _) _
    clear hW3 k9 zk9 k99 D2
    have k0 : W3.cell? ⟨w.heap.size, 0, none⟩ = some (.int .i64 len) := D3.cell 0
    have k1 : W3.cell? ⟨w.heap.size, 1, none⟩ = some (.int .i64 wd) := D3.cell 1
    have k2 : W3.cell? ⟨w.heap.size, 2, none⟩ = some (.int .i64 rx) := D3.cell 2
    have k3 : W3.cell? ⟨w.heap.size, 3, none⟩ = some (.int .i64 ry) := D3.cell 3
    have k4 : W3.cell? ⟨w.heap.size, 4, none⟩ = some (.slice s1 sz.length c1) := D3.cell 4
    have k5 : W3.cell? ⟨w.heap.size, 5, none⟩ = some (.slice s2 pl.length c2) := D3.cell 5
    have k6 : W3.cell? ⟨w.heap.size, 6, none⟩ = some (.slice qa ps.length qc) := D3.cell 6
    have k7 : W3.cell? ⟨w.heap.size, 7, none⟩ = some (.slice ra rs.length rc) := D3.cell 7
    have k8 : W3.cell? ⟨w.heap.size, 8, none⟩ = some (.slice la lots.length lc) := D3.cell 8
    have k9 : W3.cell? ⟨w.heap.size, 9, none⟩ = some (.slice none 0 0) := D3.cell 9
    have zk := D3.lt
    go_upto_region 5 with (first | (go_at_call 27; (with_reducible refine (HL0.out _ hl3).mono ?_); rintro e w4 ⟨S1, d1, S2, d2, P, pc, X, xc, ys, rfl, hys, h40, hpc, hpm, hxc, hxm, hP, hX, hb4⟩))
    refine name_world (fun W5 hW5 => ?_)
    have hl35 : Later W3 W5 := by
      rw [hW5]
      exact (by repeat' (with_reducible first | exact Later.refl _ | assumption | refine Later.drew ?_ | refine Later.drewN ?_ _ | refine Later.alloc ?_ _ | refine Later.put ?_ (by omega) _ | refine Later.trans ?_ (by assumption)))
    have D5 := D3.later hl35
    clear hW5 k0 k1 k2 k3 k4 k5 k6 k7 k8 k9 zk hys hpc hpm hxc hxm hP hX h40
    have k0 : W5.cell? ⟨w.heap.size, 0, none⟩ = some (.int .i64 len) := D5.cell 0
    have k1 : W5.cell? ⟨w.heap.size, 1, none⟩ = some (.int .i64 wd) := D5.cell 1
    have k2 : W5.cell? ⟨w.heap.size, 2, none⟩ = some (.int .i64 rx) := D5.cell 2
    have k3 : W5.cell? ⟨w.heap.size, 3, none⟩ = some (.int .i64 ry) := D5.cell 3
    have k4 : W5.cell? ⟨w.heap.size, 4, none⟩ = some (.slice s1 sz.length c1) := D5.cell 4
    have k5 : W5.cell? ⟨w.heap.size, 5, none⟩ = some (.slice s2 pl.length c2) := D5.cell 5
    have k6 : W5.cell? ⟨w.heap.size, 6, none⟩ = some (.slice qa ps.length qc) := D5.cell 6
    have k7 : W5.cell? ⟨w.heap.size, 7, none⟩ = some (.slice ra rs.length rc) := D5.cell 7
    have k8 : W5.cell? ⟨w.heap.size, 8, none⟩ = some (.slice la lots.length lc) := D5.cell 8
    have k9 : W5.cell? ⟨w.heap.size, 9, none⟩ = some (.slice none 0 0) := D5.cell 9
    have zk := D5.lt
    go_upto_region 9 with fail
    go_loopw [6, 7] (fun nv iv wr => ∃ (k : Nat) (n : Int), k ≤ rs.length ∧ iv = .int .i64 k ∧ nv = .int .i64 n ∧ n = enoughN len wd (rs.take k) (lots.take k) ∧ Later W5 wr) (fun _ iv _ => rs.length - (intOf iv).toNat)
    case atStart => exact ⟨0, 0, by omega, rfl, rfl, by simp [enoughN], Later.refl _⟩
    case round =>
      obtain ⟨k, n, hk, rfl, rfl, hn, hb⟩ := hrel
      have hbd := enough_bd (wd := wd) hl1.1 (rs := rs.take k) (ts := lots.take k) (fun r hr => hln r (List.mem_of_mem_take hr))
      rw [← hn, List.length_take] at hbd
      have hbd' : 0 ≤ n ∧ n ≤ 6291456 := by omega
      clear hbd
      have Hn := Lib.hid hn
      clear hn
      have D6 := D5.later hb
      clear k0 k1 k2 k3 k4 k5 k6 k7 k8 k9 zk
      have k0 : wr.cell? ⟨w.heap.size, 0, none⟩ = some (.int .i64 len) := D6.cell 0
      have k1 : wr.cell? ⟨w.heap.size, 1, none⟩ = some (.int .i64 wd) := D6.cell 1
      have k2 : wr.cell? ⟨w.heap.size, 2, none⟩ = some (.int .i64 rx) := D6.cell 2
      have k3 : wr.cell? ⟨w.heap.size, 3, none⟩ = some (.int .i64 ry) := D6.cell 3
      have k4 : wr.cell? ⟨w.heap.size, 4, none⟩ = some (.slice s1 sz.length c1) := D6.cell 4
      have k5 : wr.cell? ⟨w.heap.size, 5, none⟩ = some (.slice s2 pl.length c2) := D6.cell 5
      have k6 : wr.cell? ⟨w.heap.size, 6, none⟩ = some (.slice qa ps.length qc) := D6.cell 6
      have k7 : wr.cell? ⟨w.heap.size, 7, none⟩ = some (.slice ra rs.length rc) := D6.cell 7
      have k8 : wr.cell? ⟨w.heap.size, 8, none⟩ = some (.slice la lots.length lc) := D6.cell 8
      have k9 : wr.cell? ⟨w.heap.size, 9, none⟩ = some (.slice none 0 0) := D6.cell 9
      have zk := D6.lt
      by_cases hlt : k < rs.length
      · have hlt2 : k < lots.length := by rw [Hr3.out]; exact hlt
        obtain ⟨bl, ol, rfl, l0⟩ := ((hlots.later hl3).later (hl35.trans hb)).at_ hlt2
        obtain ⟨br, or_, rfl, r0, r1, r2, _⟩ := ((hrs.later hl3).later (hl35.trans hb)).at_ hlt
        have zl := World.block_lt_of_cell? _ _ l0
        have zr := World.block_lt_of_cell? _ _ r1
        obtain ⟨n1, n2⟩ := hln _ (List.getElem_mem hlt)
        have Hst := Lib.hid (show enoughN len wd (rs.take (k + 1)) (lots.take (k + 1)) = n + if lots[k] = 0 ∧ wd ≤ (rs[k]).wd then (rs[k]).ln / len else 0 by
          rw [List.take_succ_eq_append_getElem hlt, List.take_succ_eq_append_getElem hlt2, enough_snoc (by rw [List.length_take, List.length_take, Hr3.out]), ← Hn.out])
        have hk0 : (0 : Int) ≤ (k : Int) := by omega
        have hk1 : (k : Int) < (rs.length : Int) := by omega
        have hk2 : (k : Int) < (lots.length : Int) := by omega
        generalize lots[k] = lt at *
        generalize rs[k] = r at *
        obtain ⟨rid, rwd, rln, rtl, rta, rtb, fa, fc, fl⟩ := r
        simp only [] at r1 r2 n1 n2 Hst
        have q1 : 0 ≤ rln / len := Int.ediv_nonneg (by omega) (by omega)
        have q2 : rln / len ≤ rln := Int.ediv_le_self _ (by omega)
        have q3 : Int.tdiv rln len = rln / len := Int.tdiv_eq_ediv_of_nonneg (by omega)
        generalize hqq : rln / len = qq at *
        have v1 : IntKind.i64.wrap qq = qq := IntWalk.i64_in _ (by omega)
        have v2 : IntKind.i64.wrap (n + qq) = n + qq := IntWalk.i64_in _ (by omega)
        have dz : (len == 0) = false := by rw [beq_eq_false_iff_ne]; omega
        by_cases h0 : lt = 0
        · by_cases h1 : wd ≤ rwd
          · have e0 : (lt == 0) = true := by simpa using h0
            have e1 : decide (wd ≤ rwd) = true := by simpa using h1
            have e1' : decide (rwd ≥ wd) = true := by simpa using h1
            have Hs2 := Lib.hid (Hst.out.trans (by rw [if_pos ⟨h0, h1⟩]))
            clear h0
            go_upto_region 11 with fail
            go_quiet (fail)
            go_upto_region 12 with fail
            go_quiet (fail)
            go_wp2
            go_roundw
            case rel => exact ⟨k + 1, n + qq, by omega, by go_num, by rfl, Hs2.out.symm, hb.trans (by repeat' (with_reducible first | exact Later.refl _ | assumption | refine Later.drew ?_ | refine Later.drewN ?_ _ | refine Later.alloc ?_ _ | refine Later.put ?_ (by omega) _ | refine Later.trans ?_ (by assumption)))⟩
            case measure => simp [intOf]; omega
          · have e0 : (lt == 0) = true := by simpa using h0
            have e1 : decide (wd ≤ rwd) = false := by simpa using h1
            have e1' : decide (rwd ≥ wd) = false := by simpa using h1
            have Hs2 := Lib.hid (Hst.out.trans (by rw [if_neg (by omega), Int.add_zero]))
            clear h0
            go_upto_region 11 with fail
            go_quiet (fail)
            go_wp2
            go_roundw
            case rel => exact ⟨k + 1, n, by omega, by go_num, by rfl, Hs2.out.symm, hb.trans (by repeat' (with_reducible first | exact Later.refl _ | assumption | refine Later.drew ?_ | refine Later.drewN ?_ _ | refine Later.alloc ?_ _ | refine Later.put ?_ (by omega) _ | refine Later.trans ?_ (by assumption)))⟩
            case measure => simp [intOf]; omega
        · have e0 : (lt == 0) = false := by simpa using h0
          have Hs2 := Lib.hid (Hst.out.trans (by rw [if_neg (by omega), Int.add_zero]))
          clear h0
          go_upto_region 11 with fail
          go_quiet (fail)
          go_wp2
          go_roundw
          case rel => exact ⟨k + 1, n, by omega, by go_num, by rfl, Hs2.out.symm, hb.trans (by repeat' (with_reducible first | exact Later.refl _ | assumption | refine Later.drew ?_ | refine Later.drewN ?_ _ | refine Later.alloc ?_ _ | refine Later.put ?_ (by omega) _ | refine Later.trans ?_ (by assumption)))⟩
          case measure => simp [intOf]; omega
      · rw [List.take_of_length_le (by omega), List.take_of_length_le (by rw [Hr3.out]; omega)] at Hn
        have HLm := Lib.hid (fun A W hW hA => HL1.out (min n 40) (by omega) (by omega) (by rw [← Hn.out]; omega) A W hW hA)
        have kf9 := D6.frozen 9
        go_upto_region 14 with fail
        refine name_world (fun W7 hW7 => ?_)
        have hne : wr.heap.size ≠ w.heap.size := by omega
        have D7 : Blk W7 w.heap.size 31 #[.int .i64 len, .int .i64 wd, .int .i64 rx, .int .i64 ry, .slice s1 sz.length c1, .slice s2 pl.length c2, .slice qa ps.length qc, .slice ra rs.length rc, .slice la lots.length lc, .slice (some ⟨wr.heap.size, 0, none⟩) 1 1] := by rw [hW7]; exact Blk.alloc (D6.set_ 9 _) _
        have D8 : Blk W7 wr.heap.size 3 #[.int .i64 (min n 40)] := by rw [hW7]; exact Blk.newAt (by simp)
        have hl7 : Later w W7 := by
          rw [hW7]
          exact (((hl3.trans (hl35.trans hb)).put (Nat.le_refl _) _).alloc _)
        clear hW7 kf9 k0 k1 k2 k3 k4 k5 k6 k7 k8 k9 zk D3 D5 D6
        have k0 : W7.cell? ⟨w.heap.size, 0, none⟩ = some (.int .i64 len) := D7.cell 0
        have k1 : W7.cell? ⟨w.heap.size, 1, none⟩ = some (.int .i64 wd) := D7.cell 1
        have k2 : W7.cell? ⟨w.heap.size, 2, none⟩ = some (.int .i64 rx) := D7.cell 2
        have k3 : W7.cell? ⟨w.heap.size, 3, none⟩ = some (.int .i64 ry) := D7.cell 3
        have k4 : W7.cell? ⟨w.heap.size, 4, none⟩ = some (.slice s1 sz.length c1) := D7.cell 4
        have k5 : W7.cell? ⟨w.heap.size, 5, none⟩ = some (.slice s2 pl.length c2) := D7.cell 5
        have k6 : W7.cell? ⟨w.heap.size, 6, none⟩ = some (.slice qa ps.length qc) := D7.cell 6
        have k7 : W7.cell? ⟨w.heap.size, 7, none⟩ = some (.slice ra rs.length rc) := D7.cell 7
        have k8 : W7.cell? ⟨w.heap.size, 8, none⟩ = some (.slice la lots.length lc) := D7.cell 8
        have k9 : W7.cell? ⟨w.heap.size, 9, none⟩ = some (.slice (some ⟨wr.heap.size, 0, none⟩) 1 1) := D7.cell 9
        have zk := D7.lt
        have hA : Ints W7 (some ⟨wr.heap.size, 0, none⟩) [min n 40] := fun _ => ⟨_, 0, rfl, fun i x hx => by
          rcases i with _ | i
          · cases hx; exact D8.cell 0
          · simp at hx⟩
        go_upto_region 15 with (first | (go_at_call 27; (with_reducible refine (HLm.out _ _ hl7 hA).mono ?_); rintro e w9 ⟨T1, e1, T2, e2, P9, p9, X9, nx, x9, nn, rfl, hnn, hb9⟩))
        refine name_world (fun W10 hW10 => ?_)
        have hl10 : Later w9 W10 := by rw [hW10]; exact (by repeat' (with_reducible first | exact Later.refl _ | assumption | refine Later.drew ?_ | refine Later.drewN ?_ _ | refine Later.alloc ?_ _ | refine Later.put ?_ (by omega) _ | refine Later.trans ?_ (by assumption)))
        have D10 : Blk W10 w9.heap.size 36 #[.int .i64 len, .int .i64 wd, .int .i64 rx, .int .i64 ry, .slice T1 sz.length e1, .slice T2 pl.length e2, .slice P9 nn p9] := by rw [hW10]; exact (by repeat' (with_reducible first | assumption | (refine Blk.newAt ?_; simp; done) | refine Blk.alloc ?_ _ | refine Blk.drew ?_ | refine Blk.drewN ?_ _ | refine Blk.later ?_ (by assumption)))
        clear hW10
        have l6 : W10.cell? ⟨w9.heap.size, 6, none⟩ = some (.slice P9 nn p9) := D10.cell 6
        have zl := D10.lt
        have dm : ((nn : Int) == min n 40) = true := by rw [hnn]; simp
        clear hnn
        go_wp2_with (first | (go_at_call 16; (with_reducible refine (HX.out _).mono ?_); rintro e w11 ⟨rfl, hb11⟩))
        go_ret
        exact ⟨rfl, (hl7.trans (hb9.trans (hl10.trans hb11)))⟩
  · have HL0 := Lib.hid (fun W (hW : Later w W) => law38_laid_no _ W (hc0 W hW) (fun h => hz h.2))
    unfold C8.agg at HL0 HF ⊢
    clear Hck Hf0 hc0 hfz hz hc Hcs
    obtain ⟨len, wd, rx, ry, s1, c1, sz, s2, c2, pl, qa, qc, ps, ra, rc, rs, la, lc, lots, aa, ac, plies⟩ := c
    simp only [List.length_nil] at HL0 HF ⊢
    go_enter Try.func9, Try.ntmps9
    go_upto_region 4 with (first | (go_at_call 15; (with_reducible refine (HF.out _ (by repeat' (with_reducible first | exact Later.refl _ | assumption | refine Later.drew ?_ | refine Later.drewN ?_ _ | refine Later.alloc ?_ _ | refine Later.put ?_ (by omega) _ | refine Later.trans ?_ (by assumption)))).mono ?_); rintro e w2 ⟨rfl, hb2⟩; have D2 : Blk w2 w.heap.size 31 #[.int .i64 len, .int .i64 wd, .int .i64 rx, .int .i64 ry, .slice s1 sz.length c1, .slice s2 pl.length c2, .slice qa ps.length qc, .slice ra rs.length rc, .slice la lots.length lc, .slice aa plies.length ac] := Blk.later (by repeat' (with_reducible first | assumption | (refine Blk.newAt ?_; simp; done) | refine Blk.alloc ?_ _ | refine Blk.drew ?_ | refine Blk.drewN ?_ _ | refine Blk.later ?_ (by assumption))) hb2; have k9 : w2.frozen? ⟨w.heap.size, 9, none⟩ = false := D2.frozen 9; have zk9 := D2.lt; have k99 : w2.cell? ⟨w.heap.size, 9, none⟩ = some (.slice aa plies.length ac) := D2.cell 9))
    refine name_world (fun W3 hW3 => ?_)
    have D3 : Blk W3 w.heap.size 31 #[.int .i64 len, .int .i64 wd, .int .i64 rx, .int .i64 ry, .slice s1 sz.length c1, .slice s2 pl.length c2, .slice qa ps.length qc, .slice ra rs.length rc, .slice la lots.length lc, .slice none 0 0] := by rw [hW3]; exact D2.set_ 9 _
    have hl3 : Later w W3 := by
      rw [hW3]
      have : Later w w2 := (by repeat' (with_reducible first | exact Later.refl _ | assumption | refine Later.drew ?_ | refine Later.drewN ?_ _ | refine Later.alloc ?_ _ | refine Later.put ?_ (by omega) _ | refine Later.trans ?_ (by assumption)))
      exact this.put (Nat.le_refl _) _
    clear hW3 k9 zk9 k99 D2
    have k0 : W3.cell? ⟨w.heap.size, 0, none⟩ = some (.int .i64 len) := D3.cell 0
    have k1 : W3.cell? ⟨w.heap.size, 1, none⟩ = some (.int .i64 wd) := D3.cell 1
    have k2 : W3.cell? ⟨w.heap.size, 2, none⟩ = some (.int .i64 rx) := D3.cell 2
    have k3 : W3.cell? ⟨w.heap.size, 3, none⟩ = some (.int .i64 ry) := D3.cell 3
    have k4 : W3.cell? ⟨w.heap.size, 4, none⟩ = some (.slice s1 sz.length c1) := D3.cell 4
    have k5 : W3.cell? ⟨w.heap.size, 5, none⟩ = some (.slice s2 pl.length c2) := D3.cell 5
    have k6 : W3.cell? ⟨w.heap.size, 6, none⟩ = some (.slice qa ps.length qc) := D3.cell 6
    have k7 : W3.cell? ⟨w.heap.size, 7, none⟩ = some (.slice ra rs.length rc) := D3.cell 7
    have k8 : W3.cell? ⟨w.heap.size, 8, none⟩ = some (.slice la lots.length lc) := D3.cell 8
    have k9 : W3.cell? ⟨w.heap.size, 9, none⟩ = some (.slice none 0 0) := D3.cell 9
    have zk := D3.lt
    go_wp2_with (first | (go_at_call 27; (with_reducible refine (HL0.out _ hl3).mono ?_); rintro e w4 ⟨rfl, hb4⟩) | (go_at_call 16; (with_reducible refine (HX.out _).mono ?_); rintro e w10 ⟨rfl, hb10⟩))
    go_ret
    exact ⟨rfl, (by repeat' (with_reducible first | exact Later.refl _ | assumption | refine Later.drew ?_ | refine Later.drewN ?_ _ | refine Later.alloc ?_ _ | refine Later.put ?_ (by omega) _ | refine Later.trans ?_ (by assumption)))⟩

end Go.Proofs.Ytinjdlnikhcbfaa
