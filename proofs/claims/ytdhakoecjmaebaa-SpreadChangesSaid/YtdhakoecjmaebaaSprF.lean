/-
  The walks of spread's remnants: size, take, layPly.
-/
import Derived.Test.YtdhakoecjmaebaaSprE
namespace Go.Proofs.Ytdhakoecjmaebaa
open Go.RowKit
set_option linter.unusedSimpArgs false
set_option linter.unusedVariables false

set_option maxHeartbeats 2000000 in
theorem rem_size (g o : Nat) (r : Qd) (w : World) (c2 : w.cell? ⟨g, o + 2, none⟩ = some (.int .i64 r.c)) (c3 : w.cell? ⟨g, o + 3, none⟩ = some (.int .i64 r.d)) (hb : 0 ≤ r.c ∧ r.c ≤ r.d ∧ r.d ≤ 1048576) :
    Calls Try.prog 28 #[.pointer (some ⟨g, o, none⟩)] w (Ret (.int .i64 (r.d - r.c)) w) := by
  have zg : g < w.heap.size := World.block_lt_of_cell? _ _ c2
  go_enter Try.func28, Try.ntmps28
  go_wp2
  go_quiet (fail)
  go_wp2
  go_ret
  exact ⟨rfl, (by repeat' (with_reducible first | exact Later.refl _ | assumption | refine Later.drew ?_ | refine Later.drewN ?_ _ | refine Later.alloc ?_ _ | refine Later.put ?_ (by omega) _ | refine Later.trans ?_ (by assumption)))⟩

theorem set_congr {w1 w2 : World} {g j : Nat} {u : Value} (h : w1.heap[g]? = w2.heap[g]?) : (w1.setCell ⟨g, j, none⟩ u).heap[g]? = (w2.setCell ⟨g, j, none⟩ u).heap[g]? := by
  rw [Go.Sort.setCell_eq, Go.Sort.setCell_eq]
  unfold Go.Sort.mapBlock
  simp only [Array.getElem?_modify, if_true, h]
theorem grown_later {w w' : World} {row : Option Nat} (h : Later w w') : w.grownBy w' row := ⟨h.os, h.tape, h.output, h.size, fun k hk _ => h.block k hk⟩
theorem grown_put {w w' : World} {g b j : Nat} {u : Value} (h : w.grownBy w' (some g)) (hb : b = g ∨ w.heap.size ≤ b) : w.grownBy (w'.setCell ⟨b, j, none⟩ u) (some g) := by
  refine ⟨h.os, h.tape, h.output, by rw [World.size_setCell]; exact h.size, fun k hk hne => ?_⟩
  have hkb : k ≠ b := by
    rcases hb with e | e
    · intro q; exact hne (by rw [q, e])
    · omega
  rw [Below.heap_setCell w' ⟨b, j, none⟩ u k hkb]
  exact h.block k hk hne
theorem grown_trans {w w1 w2 : World} {g : Nat} (h : w.grownBy w1 (some g)) (k : w1.grownBy w2 (some g)) : w.grownBy w2 (some g) :=
  ⟨k.os.trans h.os, k.tape.trans h.tape, k.output.trans h.output, Nat.le_trans h.size k.size, fun b hb hne => (k.block b (Nat.lt_of_lt_of_le hb h.size) hne).trans (h.block b hb hne)⟩
/-- What take leaves: the part, and the remnant's beginning moved on. -/
def TakePost (g o : Nat) (r : Qd) (n at_ : Int) (w : World) (e : Ending) (w' : World) : Prop :=
  e = .returned (.agg #[.int .i64 r.a, .int .i64 r.c, .int .i64 (r.c + n), .int .i64 at_]) ∧ w.grownBy w' (some g) ∧ w'.heap[g]? = (w.setCell ⟨g, o + 2, none⟩ (.int .i64 (r.c + n))).heap[g]?

set_option maxHeartbeats 4000000 in
set_option maxRecDepth 100000 in
theorem rem_take (g o : Nat) (r : Qd) (n at_ : Int) (w : World) (hB : ∃ t cs, Blk w g t cs) (c0 : w.cell? ⟨g, o, none⟩ = some (.int .i64 r.a)) (c2 : w.cell? ⟨g, o + 2, none⟩ = some (.int .i64 r.c)) (hb : 0 ≤ r.c ∧ r.c ≤ 1048576) (hn : 0 ≤ n ∧ n ≤ 1048576) :
    Calls Try.prog 29 #[.pointer (some ⟨g, o, none⟩), .int .i64 n, .int .i64 at_] w (TakePost g o r n at_ w) := by
  obtain ⟨bt, bcs, hB⟩ := hB
  obtain ⟨ra, rb, rc, rd⟩ := r
  simp only [] at c0 c2 hb
  have zg : g < w.heap.size := World.block_lt_of_cell? _ _ c0
  unfold TakePost
  simp only []
  go_enter Try.func29, Try.ntmps29
  go_upto_region 1 with fail
  refine name_world (fun W1 hW1 => ?_)
  have hl1 : Later w W1 := by rw [hW1]; exact (by repeat' (with_reducible first | exact Later.refl _ | assumption | refine Later.drew ?_ | refine Later.drewN ?_ _ | refine Later.alloc ?_ _ | refine Later.put ?_ (by omega) _ | refine Later.trans ?_ (by assumption)))
  have D6 : Blk W1 w.heap.size 58 #[.int .i64 0, .int .i64 0, .int .i64 0, .int .i64 0] := by rw [hW1]; exact (by repeat' (with_reducible first | assumption | (refine Blk.newAt ?_; simp; done) | refine Blk.alloc ?_ _ | refine Blk.drew ?_ | refine Blk.drewN ?_ _ | refine Blk.later ?_ (by assumption)))
  clear hW1
  have c0' := hl1.cell c0
  have c2' := hl1.cell c2
  have zg1 : g < W1.heap.size := World.block_lt_of_cell? _ _ c0'
  have vw : IntKind.i64.wrap (rc + n) = rc + n := IntWalk.i64_in _ (by omega)
  go_region_held3 (fun w' : World => (∀ a : Addr, (W1.cell? a).isSome = true → w'.cell? a = W1.cell? a) ∧ Later W1 w') (first | assumption | exact keep_call (by assumption) (by assumption) | exact keep_call (by assumption) ((Later.refl _).alloc _) | exact keep_init _ | exact ⟨Later.keeps (by assumption), by assumption⟩ | exact ⟨Later.keeps (by repeat' (with_reducible first | exact Later.refl _ | assumption | refine Later.drew ?_ | refine Later.drewN ?_ _ | refine Later.alloc ?_ _ | refine Later.put ?_ (by omega) _ | refine Later.trans ?_ (by assumption))), (by repeat' (with_reducible first | exact Later.refl _ | assumption | refine Later.drew ?_ | refine Later.drewN ?_ _ | refine Later.alloc ?_ _ | refine Later.put ?_ (by omega) _ | refine Later.trans ?_ (by assumption)))⟩) (fail)
  go_upto_region 2 with fail
  refine name_world (fun W2 hW2 => ?_)
  have hl2 : Later W1 W2 := by rw [hW2]; exact (by repeat' (with_reducible first | exact Later.refl _ | assumption | refine Later.drew ?_ | refine Later.drewN ?_ _ | refine Later.alloc ?_ _ | refine Later.put ?_ (by omega) _ | refine Later.trans ?_ (by assumption)))
  have D7 : Blk W2 W1.heap.size 58 #[.int .i64 ra, .int .i64 rc, .int .i64 (rc + n), .int .i64 at_] := by rw [hW2]; exact (by repeat' (with_reducible first | assumption | (refine Blk.newAt ?_; simp; done) | refine Blk.alloc ?_ _ | refine Blk.drew ?_ | refine Blk.drewN ?_ _ | refine Blk.later ?_ (by assumption)))
  clear hW2
  have D6' := D6.later hl2
  have hBg : Blk W2 g bt bcs := (hB.later hl1).later hl2
  have c2'' := hl2.cell c2'
  have fg : W2.frozen? ⟨g, o + 2, none⟩ = false := hBg.frozen _
  have zg2 : g < W2.heap.size := hBg.lt
  have z6 : w.heap.size < W2.heap.size := D6'.lt
  have z7 : W1.heap.size < W2.heap.size := D7.lt
  have s0 : W2.cell? ⟨W1.heap.size, 0, none⟩ = some (.int .i64 ra) := D7.cell 0
  have s1 : W2.cell? ⟨W1.heap.size, 1, none⟩ = some (.int .i64 rc) := D7.cell 1
  have s2 : W2.cell? ⟨W1.heap.size, 2, none⟩ = some (.int .i64 (rc + n)) := D7.cell 2
  have s3 : W2.cell? ⟨W1.heap.size, 3, none⟩ = some (.int .i64 at_) := D7.cell 3
  have t0 : W2.cell? ⟨w.heap.size, 0, none⟩ = some (.int .i64 0) := D6'.cell 0
  have t1 : W2.cell? ⟨w.heap.size, 1, none⟩ = some (.int .i64 0) := D6'.cell 1
  have t2 : W2.cell? ⟨w.heap.size, 2, none⟩ = some (.int .i64 0) := D6'.cell 2
  have t3 : W2.cell? ⟨w.heap.size, 3, none⟩ = some (.int .i64 0) := D6'.cell 3
  have u0 := D6'.frozen 0
  have u1 := D6'.frozen 1
  have u2 := D6'.frozen 2
  have u3 := D6'.frozen 3
  have n1 : ¬ g = w.heap.size := by omega
  have n2 : ¬ g = W1.heap.size := by omega
  have n3 : ¬ W1.heap.size = w.heap.size := by have := D6.lt; omega
  have hlw : Later w W2 := hl1.trans hl2
  have hsz : w.heap.size < W1.heap.size := D6.lt
  generalize hg6 : w.heap.size = g6 at *
  generalize W1.heap.size = g7 at *
  go_wp2
  refine bodyPost_ret (v := .agg #[.int .i64 ra, .int .i64 rc, .int .i64 (rc + n), .int .i64 at_]) (by simp [results, Try.results29, go_sem, s0, s1, s2, s3, t0, t1, t2, t3, n1, n2, n3]) rfl ⟨rfl, ?_, ?_⟩
  · exact grown_put (grown_put (grown_put (grown_put (grown_put (grown_later hlw) (.inl rfl)) (.inr (by omega))) (.inr (by omega))) (.inr (by omega))) (.inr (by omega))
  · rw [Below.heap_setCell _ ⟨g6, 3, none⟩ _ g n1, Below.heap_setCell _ ⟨g6, 2, none⟩ _ g n1, Below.heap_setCell _ ⟨g6, 1, none⟩ _ g n1, Below.heap_setCell _ ⟨g6, 0, none⟩ _ g n1]
    exact set_congr (hlw.block g (by omega))

theorem grown_new {w w1 w2 : World} {g : Nat} {row : Option Nat} (h : w.grownBy w1 (some g)) (k : w1.grownBy w2 row) (hr : ∀ b, row = some b → w.heap.size ≤ b) : w.grownBy w2 (some g) :=
  ⟨k.os.trans h.os, k.tape.trans h.tape, k.output.trans h.output, Nat.le_trans h.size k.size, fun b hb hne => (k.block b (Nat.lt_of_lt_of_le hb h.size) (fun e => by have := hr b e.symm; omega)).trans (h.block b hb hne)⟩
theorem QdsAt.block {w w' : World} {g o : Nat} {l : List Qd} (h : QdsAt w g o l) (he : w'.heap[g]? = w.heap[g]?) : QdsAt w' g o l := fun i p hp => by
  have hc : ∀ j, w'.cell? ⟨g, j, none⟩ = w.cell? ⟨g, j, none⟩ := fun j => World.cell?_of_block (a := ⟨g, j, Option.none⟩) he
  rw [hc, hc, hc, hc]
  exact h i p hp
/-- A list of remnants in block g. -/
def LeftAt (w : World) (g : Nat) (A : Option Addr) (l : List Qd) : Prop := 0 < l.length → ∃ o, A = some ⟨g, o, none⟩ ∧ QdsAt w g o l
theorem LeftAt.later {w w' : World} {g : Nat} {A : Option Addr} {l : List Qd} (h : LeftAt w g A l) (k : Later w w') : LeftAt w' g A l := fun hn => let ⟨o, e, hx⟩ := h hn; ⟨o, e, hx.later k⟩
/-- What layPly returns. -/
def LayPost (bt : TypeId) (g : Nat) (R : Option (List Qd × List Qd)) (w : World) (e : Ending) (w' : World) : Prop :=
  w.grownBy w' (some g) ∧ match R with
    | none => e = .returned (.tuple #[.slice none 0 0, .slice none 0 0, .bool false])
    | some x => ∃ P pc A c, e = .returned (.tuple #[.slice P x.1.length pc, .slice A x.2.length c, .bool true]) ∧ OwnR w' w.heap.size 58 4 qd4 (.slice P x.1.length pc) x.1 ∧ LeftAt w' g A x.2 ∧ x.2.length ≤ c ∧ ∃ cs, Blk w' g bt cs
def sliceLen : Value → Nat
  | .slice _ n _ => n
  | _ => 0
theorem lay_fin {len at_ : Int} {polys : List (List Pt)} {r : Qd} {l : List Qd} (h : len - at_ ≤ r.d - r.c) : layR len polys (r :: l) at_ = some ([⟨r.a, r.c, r.c + (len - at_), at_⟩], ⟨r.a, r.b, r.c + (len - at_), r.d⟩ :: l) := by rw [layR, if_pos h]
theorem lay_cut {len at_ : Int} {polys : List (List Pt)} {r : Qd} {l : List Qd} (h : ¬ len - at_ ≤ r.d - r.c) (h1 : 0 < r.d - r.c) (h2 : (BestR len polys at_ (at_ + (r.d - r.c))).2 = 0) :
    layR len polys (r :: l) at_ = (layR len polys l (BestR len polys at_ (at_ + (r.d - r.c))).1.x).map fun x => (⟨r.a, r.c, r.c + ((BestR len polys at_ (at_ + (r.d - r.c))).1.y - at_), at_⟩ :: x.1, x.2) := by rw [layR, if_neg h, if_pos ⟨h1, h2⟩]
theorem lay_skip {len at_ : Int} {polys : List (List Pt)} {r : Qd} {l : List Qd} (h : ¬ len - at_ ≤ r.d - r.c) (h1 : ¬ (0 < r.d - r.c ∧ (BestR len polys at_ (at_ + (r.d - r.c))).2 = 0)) : layR len polys (r :: l) at_ = layR len polys l at_ := by rw [layR, if_neg h, if_neg h1]
/-- The rest of a list behind its first element. -/
theorem QdsAt.tail {w : World} {b o : Nat} {r : Qd} {l : List Qd} (h : QdsAt w b o (r :: l)) : QdsAt w b (o + 4) l := fun i p hp => by
  have := h (i + 1) p (by simpa using hp)
  rw [show o + (i + 1) * 4 = o + 4 + i * 4 by omega] at this
  exact this
theorem LeftAt.tail {w : World} {g o c : Nat} {r : Qd} {l : List Qd} (h : QdsAt w g o (r :: l)) (hc : (r :: l).length ≤ c) : LeftAt w g (if c = 1 then some ⟨g, o, none⟩ else some ⟨g, o + 4, none⟩) l := by
  intro hn
  rw [List.length_cons] at hc
  rw [if_neg (by omega)]
  exact ⟨o + 4, rfl, h.tail⟩
/-- Behind take. -/
theorem QdsAt.taken {w w' : World} {g o : Nat} {r : Qd} {l : List Qd} {n : Int} (h : QdsAt w g o (r :: l)) (he : w'.heap[g]? = (w.setCell ⟨g, o + 2, none⟩ (.int .i64 (r.c + n))).heap[g]?) : QdsAt w' g o (⟨r.a, r.b, r.c + n, r.d⟩ :: l) := by
  have hc : ∀ j, w'.cell? ⟨g, j, none⟩ = (w.setCell ⟨g, o + 2, none⟩ (.int .i64 (r.c + n))).cell? ⟨g, j, none⟩ := fun j => World.cell?_of_block (a := ⟨g, j, Option.none⟩) he
  have ho : ∀ j v, j ≠ o + 2 → w.cell? ⟨g, j, none⟩ = some v → w'.cell? ⟨g, j, none⟩ = some v := by
    intro j v hj hv
    rw [hc, World.cell?_setCell_other _ _ _ _ (by intro e; injection e; omega)]
    exact hv
  have hs := (h 0 r rfl)
  rw [Nat.zero_mul, Nat.add_zero] at hs
  intro i p hp
  cases i with
  | zero =>
    cases hp
    rw [Nat.zero_mul, Nat.add_zero]
    refine ⟨ho _ _ (by omega) hs.1, ho _ _ (by omega) hs.2.1, ?_, ho _ _ (by omega) hs.2.2.2⟩
    rw [hc]
    exact World.cell?_setCell_same _ _ _ hs.2.2.1
  | succ i =>
    have := h (i + 1) p (by simpa using hp)
    exact ⟨ho _ _ (by omega) this.1, ho _ _ (by omega) this.2.1, ho _ _ (by omega) this.2.2.1, ho _ _ (by omega) this.2.2.2⟩
theorem blk_taken {bt : TypeId} {w w' : World} {g j : Nat} {u : Value} (h : ∃ cs, Blk w g bt cs) (he : w'.heap[g]? = (w.setCell ⟨g, j, none⟩ u).heap[g]?) : ∃ cs, Blk w' g bt cs := by
  obtain ⟨cs, hb⟩ := h
  exact ⟨_, he.trans (hb.set_ j u)⟩

set_option maxHeartbeats 8000000 in
set_option maxRecDepth 100000 in
theorem spread_layPly (bt : TypeId) (Q A : Option Addr) (qc c g : Nat) (len : Int) (polys : List (List Pt)) (l0 : List Qd) (wb w : World) (hwb : Later wb w) (hg : wb.heap.size ≤ g) (hps : Polys wb Q polys) (hpl : ∀ p ∈ polys, p.length ≤ 1099511627776) (hlen : 1 ≤ len ∧ len ≤ 1048576)
    (hA : LeftAt w g A l0) (hc : l0.length ≤ c) (hB : ∃ cs, Blk w g bt cs) (hbd : ∀ r ∈ l0, 0 ≤ r.c ∧ r.c ≤ r.d ∧ r.d ≤ 1048576) (hl20 : l0.length ≤ 20) :
    Calls Try.prog 19 #[.int .i64 len, .slice Q polys.length qc, .slice A l0.length c] w (LayPost bt g (layR len polys l0 0) w) := by
  have hgw : g < w.heap.size := by obtain ⟨_, h⟩ := hB; exact h.lt
  generalize hR : layR len polys l0 0 = R
  have HR := Lib.hid hR
  clear hR
  go_enter Try.func19, Try.ntmps19
  go_wp2
  go_loopw [2, 9, 10] (fun v2 v9 v10 wr => ∃ (l acc : List Qd) (at_ : Int) (A' : Option Addr) (c' : Nat), v2 = .slice A' l.length c' ∧ l.length ≤ c' ∧ LeftAt wr g A' l ∧ OwnR wr w.heap.size 58 4 qd4 v9 acc ∧ v10 = .int .i64 at_ ∧ R = (layR len polys l at_).map (fun x => (acc ++ x.1, x.2)) ∧ 0 ≤ at_ ∧ at_ < len ∧ (∀ r ∈ l, 0 ≤ r.c ∧ r.c ≤ r.d ∧ r.d ≤ 1048576) ∧ acc.length + l.length ≤ 20 ∧ (∃ cs, Blk wr g bt cs) ∧ w.grownBy wr (some g)) (fun v2 _ _ _ => sliceLen v2)
  case atStart => exact ⟨l0, [], 0, A, c, rfl, hc, hA, World.ownsRow_nil _ _ _ _, rfl, by rw [← HR.out]; simp, by omega, by omega, hbd, by simpa using hl20, hB, grown_later (Later.refl _)⟩
  case round =>
    clear hA hc hB hbd
    obtain ⟨l, acc, at_, A', c', rfl, hc', hL, ho, rfl, he, ha0, ha1, hbd, hal, hB, hgr⟩ := hrel
    have He := Lib.hid he
    have Ho := Lib.hid ho
    have Hal := Lib.hid hal
    have HB := Lib.hid hB
    have Hgr := Lib.hid hgr
    have hlb : Later wb wr := Later.grown hwb hgr (fun k e => by cases e; exact hg)
    clear he ho hal hB hgr
    cases l with
    | nil =>
      have HRv := Lib.hid (show R = none by rw [He.out]; rfl)
      go_wp2
      refine bodyPost_ret (v := .tuple #[.slice none 0 0, .slice none 0 0, .bool false]) (by simp [results, Try.results19, go_sem]) rfl ⟨Hgr.out, by rw [HRv.out]⟩
    | cons r l =>
      obtain ⟨o, rfl, hat⟩ := hL (by simp)
      obtain ⟨q0, q1, q2, q3⟩ := hat 0 r rfl
      rw [Nat.zero_mul, Nat.add_zero] at q0 q1 q2 q3
      have hb := hbd r (List.mem_cons_self ..)
      have HZ := Lib.hid (fun W (hW : Later wr W) => rem_size g o r W (hW.cell q2) (hW.cell q3) hb)
      have HT := Lib.hid (fun n at_ (hn : 0 ≤ n ∧ n ≤ 1048576) W (hW : Later wr W) => rem_take g o r n at_ W (by obtain ⟨cs, h⟩ := HB.out; exact ⟨bt, cs, h.later hW⟩) (hW.cell q0) (hW.cell q2) ⟨hb.1, by omega⟩ hn)
      have HBe := Lib.hid (fun lo hi W (hW : Later wr W) => splice_Best Q qc len lo hi polys W (hps.later (hlb.trans hW)) hpl)
      have zg : g < wr.heap.size := World.block_lt_of_cell? _ _ q0
      have hrow : ∀ k, u9.ownBlock = some k → w.heap.size ≤ k ∧ k < wr.heap.size := fun k e => World.ownsRow.lt Ho.out k e
      have Hrow := Lib.hid hrow
      clear hrow
      have Hat := Lib.hid hat
      clear hL hat
      obtain ⟨ra, rb, rc, rd⟩ := r
      simp only [] at q0 q1 q2 q3 hb HZ HT
      by_cases hfin : len - at_ ≤ rd - rc
      · have dfin : decide (len - at_ ≤ rd - rc) = true := by simpa using hfin
        have HRv := Lib.hid (show R = some (acc ++ [⟨ra, rc, rc + (len - at_), at_⟩], ⟨ra, rb, rc + (len - at_), rd⟩ :: l) by rw [He.out, lay_fin hfin]; rfl)
        go_wp2_with (first
          | (go_at_call 28; (with_reducible refine (HZ.out _ (Later.refl _)).mono ?_); rintro e w1 ⟨rfl, hb1⟩)
          | (go_at_call 29; (with_reducible refine (HT.out _ _ ⟨by omega, by omega⟩ _ hb1).mono ?_); rintro e w2 ⟨rfl, hg2, hh2⟩; have Ho2 := Lib.hid (OwnR.ofBlock (Ho.out.later hb1) (fun k hk => hg2.block k (Nat.lt_of_lt_of_le (Hrow.out k hk).2 hb1.size) (fun e => by have := (Hrow.out k hk).1; injection e; omega))); have HS := Lib.hid (SrcAt.blk (Blk.new w2 58 #[.int .i64 ra, .int .i64 rc, .int .i64 (rc + (len - at_)), .int .i64 at_])))
          | (at_builtin; refine wpList_append_rec slt_part qd4_len qd4_one rfl (.tmp 25) (.tmp 32) rfl (base := w.heap.size) (l := acc) rfl (OwnR.alloc Ho2.out _) (A := some ⟨w2.heap.size, 0, none⟩) (c := 1) [⟨ra, rc, rc + (len - at_), at_⟩] rfl (by intro h; cases h) HS.out (by have := Hal.out; simp at this; simp; omega) (by have := Hgr.out.size; have := hb1.size; have := hg2.size; simp; omega) ?_; intro A3 c3' w3 ho3 hg3))
        have hgz2 : g < w2.heap.size := Nat.lt_of_lt_of_le zg (Nat.le_trans hb1.size hg2.size)
        have e3 : w3.heap[g]? = w2.heap[g]? := (hg3.block g (by simp; omega) (fun e => by have := (Hrow.out g e.symm).1; omega)).trans (Below.heap_alloc w2 _ g hgz2)
        have hq3 := ((Hat.out.later hb1).taken hh2).block e3
        have hB3 : ∃ cs, Blk w3 g bt cs := by
          obtain ⟨cs, h⟩ := blk_taken (by obtain ⟨cs, h⟩ := HB.out; exact ⟨cs, h.later hb1⟩) hh2
          exact ⟨cs, e3.trans h⟩
        have hgr3 : w.grownBy w3 (some g) := grown_new (grown_trans (grown_trans (grown_trans Hgr.out (grown_later hb1)) hg2) (grown_later ((Later.refl _).alloc _))) hg3 (fun b e => (Hrow.out b e).1)
        have Ho3 := Lib.hid ho3
        clear ho3 hg3
        refine bodyPost_ret (v := .tuple #[.slice A3 (acc.length + 1) c3', .slice (some ⟨g, o, none⟩) (l.length + 1) c', .bool true]) (by simp [results, Try.results19, go_sem]) rfl ⟨hgr3, ?_⟩
        rw [HRv.out]
        exact ⟨A3, c3', some ⟨g, o, none⟩, c', by simp, Ho3.out, (fun _ => ⟨o, rfl, hq3⟩), hc', hB3⟩
      · have dfin : decide (len - at_ ≤ rd - rc) = false := by simpa using hfin
        by_cases hpos : 0 < rd - rc
        · have dpos : decide (0 < rd - rc) = true := by simpa using hpos
          have Hbz := Lib.hid (best_zero (len := len) (polys := polys) (lo := at_) (hi := at_ + (rd - rc)))
          have Hcut := Lib.hid (lay_cut (len := len) (polys := polys) (r := ⟨ra, rb, rc, rd⟩) (l := l) (at_ := at_) hfin hpos)
          have Hskip := Lib.hid (fun h => lay_skip (len := len) (polys := polys) (r := ⟨ra, rb, rc, rd⟩) (l := l) (at_ := at_) hfin h)
          have HBe := Lib.hid (HBe.out at_ (at_ + (rd - rc)))
          simp only [] at Hcut Hskip
          generalize hBR : BestR len polys at_ (at_ + (rd - rc)) = BR at *
          clear hBR
          obtain ⟨⟨zx, zy⟩, be⟩ := BR
          simp only [] at Hbz Hcut Hskip HBe
          rcases Classical.em (be = 0) with h0 | h0
          · subst h0
            obtain ⟨_, _, _, _, z5, z6, z7⟩ := Hbz.out (by first | trivial | rfl)
            have z8 := back_le (extentsR len polys).1 zy
            rw [← z6] at z8
            have Hct := Lib.hid (Hcut.out (by first | trivial | rfl))
            clear z6 Hbz Hcut Hskip
            go_upto_region 10 with (first | (go_at_call 28; (with_reducible refine (HZ.out _ (by repeat' (with_reducible first | exact Later.refl _ | assumption | refine Later.drew ?_ | refine Later.drewN ?_ _ | refine Later.alloc ?_ _ | refine Later.put ?_ (by omega) _ | refine Later.trans ?_ (by assumption)))).mono ?_); rintro e w1 ⟨rfl, hb1⟩) | (go_at_call 30; (with_reducible refine (HBe.out _ (by repeat' (with_reducible first | exact Later.refl _ | assumption | refine Later.drew ?_ | refine Later.drewN ?_ _ | refine Later.alloc ?_ _ | refine Later.put ?_ (by omega) _ | refine Later.trans ?_ (by assumption)))).mono ?_); rintro e w4 ⟨rfl, hb4⟩))
            refine name_world (fun W5 hW5 => ?_)
            have hl5 : Later wr W5 := by rw [hW5]; exact (by repeat' (with_reducible first | exact Later.refl _ | assumption | refine Later.drew ?_ | refine Later.drewN ?_ _ | refine Later.alloc ?_ _ | refine Later.put ?_ (by omega) _ | refine Later.trans ?_ (by assumption)))
            have D5 : Blk W5 w4.heap.size 94 #[.int .i64 zx, .int .i64 zy] := by rw [hW5]; exact (by repeat' (with_reducible first | assumption | (refine Blk.newAt ?_; simp; done) | refine Blk.alloc ?_ _ | refine Blk.drew ?_ | refine Blk.drewN ?_ _ | refine Blk.later ?_ (by assumption)))
            have hgz : wr.heap.size ≤ w4.heap.size := by have : Later wr w4 := (by repeat' (with_reducible first | exact Later.refl _ | assumption | refine Later.drew ?_ | refine Later.drewN ?_ _ | refine Later.alloc ?_ _ | refine Later.put ?_ (by omega) _ | refine Later.trans ?_ (by assumption))); exact this.size
            clear hW5
            generalize w4.heap.size = gz at *
            have y0 : W5.cell? ⟨gz, 0, none⟩ = some (.int .i64 zx) := D5.cell 0
            have y1 : W5.cell? ⟨gz, 1, none⟩ = some (.int .i64 zy) := D5.cell 1
            have zz5 := D5.lt
            have vv : IntKind.i64.wrap (zy - at_) = zy - at_ := IntWalk.i64_in _ (by omega)
            by_cases hc1 : c' = 1
            · subst hc1
              go_wp2_with (first
                | (go_at_call 29; (with_reducible refine (HT.out _ _ ⟨by omega, by omega⟩ _ hl5).mono ?_); rintro e w2 ⟨rfl, hg2, hh2⟩; have Ho2 := Lib.hid (OwnR.ofBlock (Ho.out.later hl5) (fun k hk => hg2.block k (Nat.lt_of_lt_of_le (Hrow.out k hk).2 hl5.size) (fun e => by have := (Hrow.out k hk).1; injection e; omega))); have HS := Lib.hid (SrcAt.blk (Blk.new w2 58 #[.int .i64 ra, .int .i64 rc, .int .i64 (rc + (zy - at_)), .int .i64 at_])); have D2 : Blk w2 gz 94 #[.int .i64 zx, .int .i64 zy] := (hg2.block gz D5.lt (fun e => by injection e; omega)).trans D5)
                | (at_builtin; refine wpList_append_rec slt_part qd4_len qd4_one rfl (.tmp 51) (.tmp 59) rfl (base := w.heap.size) (l := acc) rfl (OwnR.alloc Ho2.out _) (A := some ⟨w2.heap.size, 0, none⟩) (c := 1) [⟨ra, rc, rc + (zy - at_), at_⟩] rfl (by intro h; cases h) HS.out (by have := Hal.out; simp at this; simp; omega) (by have := Hgr.out.size; have := hl5.size; have := hg2.size; simp; omega) ?_; intro A3 c3' w3 ho3 hg3; have D3 : Blk w3 gz 94 #[.int .i64 zx, .int .i64 zy] := Blk.grown (D2.alloc _) hg3 (fun e => by have := (Hrow.out gz e.symm).2; omega); have zc3 : w3.cell? ⟨gz, 0, none⟩ = some (.int .i64 zx) := D3.cell 0; have zz3 := D3.lt))
              have hgz2 : g < w2.heap.size := Nat.lt_of_lt_of_le zg (Nat.le_trans hl5.size hg2.size)
              have e3 : w3.heap[g]? = w2.heap[g]? := (hg3.block g (by simp; omega) (fun e => by have := (Hrow.out g e.symm).1; omega)).trans (Below.heap_alloc w2 _ g hgz2)
              have hq3 := ((Hat.out.later hl5).taken hh2).block e3
              have hB3 : ∃ cs, Blk w3 g bt cs := by
                obtain ⟨cs, h⟩ := blk_taken (by obtain ⟨cs, h⟩ := HB.out; exact ⟨cs, h.later hl5⟩) hh2
                exact ⟨cs, e3.trans h⟩
              have hgr3 : w.grownBy w3 (some g) := grown_new (grown_trans (grown_trans (grown_trans Hgr.out (grown_later hl5)) hg2) (grown_later ((Later.refl _).alloc _))) hg3 (fun b e => (Hrow.out b e).1)
              have Ho3 := Lib.hid ho3
              clear ho3 hg3
              simp only [List.length_append, List.length_singleton] at Ho3
              go_roundw
              case rel =>
                refine ⟨l, acc ++ [⟨ra, rc, rc + (zy - at_), at_⟩], zx, _, 1 - 1, rfl, by have := hc'; rw [List.length_cons] at this; omega, ?_, Ho3.out, rfl, ?_, by omega, by omega, (fun q hq => hbd q (List.mem_cons_of_mem _ hq)), by have := Hal.out; simp at this; simp; omega, hB3, hgr3⟩
                · have := LeftAt.tail hq3 hc'
                  rw [if_pos rfl] at this
                  exact this
                · rw [He.out, Hct.out, Option.map_map]
                  congr 1
                  funext x
                  simp
              case measure => simp [sliceLen]
            · have dc1 : (c' == 1) = false := by simpa using hc1
              go_wp2_with (first
                | (go_at_call 29; (with_reducible refine (HT.out _ _ ⟨by omega, by omega⟩ _ hl5).mono ?_); rintro e w2 ⟨rfl, hg2, hh2⟩; have Ho2 := Lib.hid (OwnR.ofBlock (Ho.out.later hl5) (fun k hk => hg2.block k (Nat.lt_of_lt_of_le (Hrow.out k hk).2 hl5.size) (fun e => by have := (Hrow.out k hk).1; injection e; omega))); have HS := Lib.hid (SrcAt.blk (Blk.new w2 58 #[.int .i64 ra, .int .i64 rc, .int .i64 (rc + (zy - at_)), .int .i64 at_])); have D2 : Blk w2 gz 94 #[.int .i64 zx, .int .i64 zy] := (hg2.block gz D5.lt (fun e => by injection e; omega)).trans D5)
                | (at_builtin; refine wpList_append_rec slt_part qd4_len qd4_one rfl (.tmp 51) (.tmp 59) rfl (base := w.heap.size) (l := acc) rfl (OwnR.alloc Ho2.out _) (A := some ⟨w2.heap.size, 0, none⟩) (c := 1) [⟨ra, rc, rc + (zy - at_), at_⟩] rfl (by intro h; cases h) HS.out (by have := Hal.out; simp at this; simp; omega) (by have := Hgr.out.size; have := hl5.size; have := hg2.size; simp; omega) ?_; intro A3 c3' w3 ho3 hg3; have D3 : Blk w3 gz 94 #[.int .i64 zx, .int .i64 zy] := Blk.grown (D2.alloc _) hg3 (fun e => by have := (Hrow.out gz e.symm).2; omega); have zc3 : w3.cell? ⟨gz, 0, none⟩ = some (.int .i64 zx) := D3.cell 0; have zz3 := D3.lt))
              have hgz2 : g < w2.heap.size := Nat.lt_of_lt_of_le zg (Nat.le_trans hl5.size hg2.size)
              have e3 : w3.heap[g]? = w2.heap[g]? := (hg3.block g (by simp; omega) (fun e => by have := (Hrow.out g e.symm).1; omega)).trans (Below.heap_alloc w2 _ g hgz2)
              have hq3 := ((Hat.out.later hl5).taken hh2).block e3
              have hB3 : ∃ cs, Blk w3 g bt cs := by
                obtain ⟨cs, h⟩ := blk_taken (by obtain ⟨cs, h⟩ := HB.out; exact ⟨cs, h.later hl5⟩) hh2
                exact ⟨cs, e3.trans h⟩
              have hgr3 : w.grownBy w3 (some g) := grown_new (grown_trans (grown_trans (grown_trans Hgr.out (grown_later hl5)) hg2) (grown_later ((Later.refl _).alloc _))) hg3 (fun b e => (Hrow.out b e).1)
              have Ho3 := Lib.hid ho3
              clear ho3 hg3
              simp only [List.length_append, List.length_singleton] at Ho3
              go_roundw
              case rel =>
                refine ⟨l, acc ++ [⟨ra, rc, rc + (zy - at_), at_⟩], zx, _, c' - 1, rfl, by have := hc'; rw [List.length_cons] at this; omega, ?_, Ho3.out, rfl, ?_, by omega, by omega, (fun q hq => hbd q (List.mem_cons_of_mem _ hq)), by have := Hal.out; simp at this; simp; omega, hB3, hgr3⟩
                · have := LeftAt.tail hq3 hc'
                  rw [if_neg hc1] at this
                  exact this
                · rw [He.out, Hct.out, Option.map_map]
                  congr 1
                  funext x
                  simp
              case measure => simp [sliceLen]
          · have dbe : (be == 0) = false := by simpa using h0
            have Hsk := Lib.hid (Hskip.out (fun h => h0 h.2))
            by_cases hc1 : c' = 1
            · subst hc1
              go_wp2_with (first | (go_at_call 28; (with_reducible refine (HZ.out _ (by repeat' (with_reducible first | exact Later.refl _ | assumption | refine Later.drew ?_ | refine Later.drewN ?_ _ | refine Later.alloc ?_ _ | refine Later.put ?_ (by omega) _ | refine Later.trans ?_ (by assumption)))).mono ?_); rintro e w1 ⟨rfl, hb1⟩) | (go_at_call 30; (with_reducible refine (HBe.out _ (by repeat' (with_reducible first | exact Later.refl _ | assumption | refine Later.drew ?_ | refine Later.drewN ?_ _ | refine Later.alloc ?_ _ | refine Later.put ?_ (by omega) _ | refine Later.trans ?_ (by assumption)))).mono ?_); rintro e w4 ⟨rfl, hb4⟩))
              go_roundw
              case rel =>
                have hlL : Later wr (w4.alloc (.cells #[.int .i64 zx, .int .i64 zy] 94)) := (by repeat' (with_reducible first | exact Later.refl _ | assumption | refine Later.drew ?_ | refine Later.drewN ?_ _ | refine Later.alloc ?_ _ | refine Later.put ?_ (by omega) _ | refine Later.trans ?_ (by assumption)))
                refine ⟨l, acc, at_, _, 1 - 1, rfl, by have := hc'; rw [List.length_cons] at this; omega, ?_, Ho.out.later hlL, rfl, by rw [He.out, Hsk.out], ha0, ha1, (fun q hq => hbd q (List.mem_cons_of_mem _ hq)), by have := Hal.out; simp at this; omega, ?_, grown_trans Hgr.out (grown_later hlL)⟩
                · have := LeftAt.tail (Hat.out.later hlL) hc'
                  rw [if_pos rfl] at this
                  exact this
                · obtain ⟨cs, h⟩ := HB.out
                  exact ⟨cs, h.later hlL⟩
              case measure => simp [sliceLen]
            · have dc1 : (c' == 1) = false := by simpa using hc1
              go_wp2_with (first | (go_at_call 28; (with_reducible refine (HZ.out _ (by repeat' (with_reducible first | exact Later.refl _ | assumption | refine Later.drew ?_ | refine Later.drewN ?_ _ | refine Later.alloc ?_ _ | refine Later.put ?_ (by omega) _ | refine Later.trans ?_ (by assumption)))).mono ?_); rintro e w1 ⟨rfl, hb1⟩) | (go_at_call 30; (with_reducible refine (HBe.out _ (by repeat' (with_reducible first | exact Later.refl _ | assumption | refine Later.drew ?_ | refine Later.drewN ?_ _ | refine Later.alloc ?_ _ | refine Later.put ?_ (by omega) _ | refine Later.trans ?_ (by assumption)))).mono ?_); rintro e w4 ⟨rfl, hb4⟩))
              go_roundw
              case rel =>
                have hlL : Later wr (w4.alloc (.cells #[.int .i64 zx, .int .i64 zy] 94)) := (by repeat' (with_reducible first | exact Later.refl _ | assumption | refine Later.drew ?_ | refine Later.drewN ?_ _ | refine Later.alloc ?_ _ | refine Later.put ?_ (by omega) _ | refine Later.trans ?_ (by assumption)))
                refine ⟨l, acc, at_, _, c' - 1, rfl, by have := hc'; rw [List.length_cons] at this; omega, ?_, Ho.out.later hlL, rfl, by rw [He.out, Hsk.out], ha0, ha1, (fun q hq => hbd q (List.mem_cons_of_mem _ hq)), by have := Hal.out; simp at this; omega, ?_, grown_trans Hgr.out (grown_later hlL)⟩
                · have := LeftAt.tail (Hat.out.later hlL) hc'
                  rw [if_neg hc1] at this
                  exact this
                · obtain ⟨cs, h⟩ := HB.out
                  exact ⟨cs, h.later hlL⟩
              case measure => simp [sliceLen]
        · have dpos : decide (0 < rd - rc) = false := by simpa using hpos
          have Hsk := Lib.hid (lay_skip (len := len) (polys := polys) (r := ⟨ra, rb, rc, rd⟩) (l := l) (at_ := at_) hfin (fun h => hpos h.1))
          by_cases hc1 : c' = 1
          · subst hc1
            go_wp2_with (first | (go_at_call 28; (with_reducible refine (HZ.out _ (by repeat' (with_reducible first | exact Later.refl _ | assumption | refine Later.drew ?_ | refine Later.drewN ?_ _ | refine Later.alloc ?_ _ | refine Later.put ?_ (by omega) _ | refine Later.trans ?_ (by assumption)))).mono ?_); rintro e w1 ⟨rfl, hb1⟩) | (go_at_call 30; (with_reducible refine (HBe.out _ (by repeat' (with_reducible first | exact Later.refl _ | assumption | refine Later.drew ?_ | refine Later.drewN ?_ _ | refine Later.alloc ?_ _ | refine Later.put ?_ (by omega) _ | refine Later.trans ?_ (by assumption)))).mono ?_); rintro e w4 ⟨rfl, hb4⟩))
            go_roundw
            case rel =>
              have hlL : Later wr w1 := (by repeat' (with_reducible first | exact Later.refl _ | assumption | refine Later.drew ?_ | refine Later.drewN ?_ _ | refine Later.alloc ?_ _ | refine Later.put ?_ (by omega) _ | refine Later.trans ?_ (by assumption)))
              refine ⟨l, acc, at_, _, 1 - 1, rfl, by have := hc'; rw [List.length_cons] at this; omega, ?_, Ho.out.later hlL, rfl, by rw [He.out, Hsk.out], ha0, ha1, (fun q hq => hbd q (List.mem_cons_of_mem _ hq)), by have := Hal.out; simp at this; omega, ?_, grown_trans Hgr.out (grown_later hlL)⟩
              · have := LeftAt.tail (Hat.out.later hlL) hc'
                rw [if_pos rfl] at this
                exact this
              · obtain ⟨cs, h⟩ := HB.out
                exact ⟨cs, h.later hlL⟩
            case measure => simp [sliceLen]
          · have dc1 : (c' == 1) = false := by simpa using hc1
            go_wp2_with (first | (go_at_call 28; (with_reducible refine (HZ.out _ (by repeat' (with_reducible first | exact Later.refl _ | assumption | refine Later.drew ?_ | refine Later.drewN ?_ _ | refine Later.alloc ?_ _ | refine Later.put ?_ (by omega) _ | refine Later.trans ?_ (by assumption)))).mono ?_); rintro e w1 ⟨rfl, hb1⟩) | (go_at_call 30; (with_reducible refine (HBe.out _ (by repeat' (with_reducible first | exact Later.refl _ | assumption | refine Later.drew ?_ | refine Later.drewN ?_ _ | refine Later.alloc ?_ _ | refine Later.put ?_ (by omega) _ | refine Later.trans ?_ (by assumption)))).mono ?_); rintro e w4 ⟨rfl, hb4⟩))
            go_roundw
            case rel =>
              have hlL : Later wr w1 := (by repeat' (with_reducible first | exact Later.refl _ | assumption | refine Later.drew ?_ | refine Later.drewN ?_ _ | refine Later.alloc ?_ _ | refine Later.put ?_ (by omega) _ | refine Later.trans ?_ (by assumption)))
              refine ⟨l, acc, at_, _, c' - 1, rfl, by have := hc'; rw [List.length_cons] at this; omega, ?_, Ho.out.later hlL, rfl, by rw [He.out, Hsk.out], ha0, ha1, (fun q hq => hbd q (List.mem_cons_of_mem _ hq)), by have := Hal.out; simp at this; omega, ?_, grown_trans Hgr.out (grown_later hlL)⟩
              · have := LeftAt.tail (Hat.out.later hlL) hc'
                rw [if_neg hc1] at this
                exact this
              · obtain ⟨cs, h⟩ := HB.out
                exact ⟨cs, h.later hlL⟩
            case measure => simp [sliceLen]

end Go.Proofs.Ytdhakoecjmaebaa
