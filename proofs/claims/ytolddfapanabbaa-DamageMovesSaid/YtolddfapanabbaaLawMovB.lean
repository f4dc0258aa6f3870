/-
  DamageMoves, walked, second part: small arguments.
-/
import Derived.Test.YtolddfapanabbaaLawMov
namespace Go.Proofs.Ytolddfapanabbaa
open Go.RowKit
set_option linter.unusedSimpArgs false
set_option linter.unusedVariables false

theorem hitR_one {x : Qd} {r : Rl} {ps : List Pt} (h : (hitR [x] [r] ps).2 = 0) :
    carrierR [x] ps = (0, 0) ∧ x.a = 0 ∧ rollI r = 0 ∧ carriesB x (loOf ps).x (hiOf ps).x = true ∧ hitR [x] [r] ps = flawGo ps (x.d - x.b) r.fl := by
  obtain ⟨j, n, hj, hn, h1, h2, h3, h4, h5⟩ := hitR_ok h
  simp only [List.length_singleton] at hj hn
  obtain rfl : j = 0 := by omega
  obtain rfl : n = 0 := by omega
  exact ⟨h1, h2, h3, h4, h5⟩
def qd4 (q : Qd) : List Value := [.int .i64 q.a, .int .i64 q.b, .int .i64 q.c, .int .i64 q.d]
/-- A flaw, moved. -/
theorem qd4_len (q : Qd) : (qd4 q).length = 4 := rfl
theorem qd4_one (q : Qd) : ∀ u ∈ qd4 q, u.oneCell' = true := by
  intro u hu
  simp only [qd4, List.mem_cons, List.not_mem_nil, or_false] at hu
  rcases hu with rfl | rfl | rfl | rfl <;> rfl
theorem info_rect : (Try.prog.info? 59).map (fun i => (i.zero, i.size, i.bytes)) = some (some (.agg #[.int .i64 0, .int .i64 0, .int .i64 0, .int .i64 0]), 4, 32) := by kernel_rfl
theorem new_four (w : World) (a b c d : Value) (t : TypeId) : ∀ j u, ([a, b, c, d] : List Value)[j]? = some u → (w.alloc (.cells #[a, b, c, d] t)).cell? ((⟨w.heap.size, 0, none⟩ : Addr).add j) = some u := by
  intro j u hu
  have h := Blk.new w t #[a, b, c, d]
  have ha : (⟨w.heap.size, 0, none⟩ : Addr).add j = ⟨w.heap.size, j, none⟩ := by
    unfold Addr.add
    split
    · rename_i h; rw [h]
    · simp
  rw [ha, h.cell j, ← hu, ← List.getElem?_toArray]
theorem OwnR.qds {w : World} {base : Nat} {E : TypeId} {v : Value} {l : List Qd} (h : OwnR w base E 4 qd4 v l) : ∃ A c, v = .slice A l.length c ∧ l.length ≤ c ∧ c ≤ maxLen ∧ Qds w A l := by
  obtain ⟨A, c, rfl, h1, h2, h3⟩ := OwnR.form qd4_len h
  refine ⟨A, c, rfl, h1, h2, fun hn => ?_⟩
  obtain ⟨g, rfl, _, _, _, hc⟩ := h3 hn
  refine ⟨g, 0, rfl, fun i p hp => ?_⟩
  exact ⟨hc i p hp 0 _ rfl, hc i p hp 1 _ rfl, hc i p hp 2 _ rfl, hc i p hp 3 _ rfl⟩
theorem own_snoc {w : World} {base : Nat} {v : Value} {acc : List Qd} {ya yb yc yd n : Int} (h : w.ownsRow base 59 4 v (acc.length + 1) (acc.flatMap qd4 ++ [.int .i64 (ya + n), .int .i64 yb, .int .i64 yc, .int .i64 yd])) : OwnR w base 59 4 qd4 v (acc ++ [shift n ⟨ya, yb, yc, yd⟩]) := by
  unfold OwnR
  rw [List.flatMap_append, List.length_append]
  exact h
/-- An owned row stands over a store into another block. -/
theorem OwnR.far {α : Type} {cells : α → List Value} {sz : Nat} {w : World} {base : Nat} {E : TypeId} {v : Value} {l : List α} (h : OwnR w base E sz cells v l) {b o : Nat} (hb : b < base) (u : Value) : OwnR (w.setCell ⟨b, o, none⟩ u) base E sz cells v l := by
  refine ⟨h.1, ?_⟩
  rcases h.2 with ⟨h1, h2⟩ | ⟨g, cap, cur, hv, hbg, hg, r⟩
  · exact .inl ⟨h1, h2⟩
  · exact .inr ⟨g, cap, cur, hv, hbg, (Below.heap_setCell w ⟨b, o, none⟩ u g (by show g ≠ b; omega)).trans hg, r⟩

/-- The hit behind the move. -/
theorem hit_moved {xb xc xd n : Int} {ps : List Pt} {r : Rl} {fl : List Qd} (hck : checkI ps = 0) (hcb : carriesB ⟨0, xb, xc, xd⟩ (loOf ps).x (hiOf ps).x = true) (h1 : 0 ≤ xb + n) (h2 : xc + n ≤ 1048576) (hr : rollI r = 0) (hfl : r.fl = fl.map (shift n))
    (hs : 0 < fl.length → (splitR ps).2 = 0) : hitR [⟨0, xb + n, xc + n, xd⟩] [r] ps = (fl.any (hitF ps (xd - xb)), 0) := by
  have hb := carries_bd hcb
  have hlh := lo_le_hi (ps := ps)
  simp only [] at hb
  have hc2 : carriesB ⟨0, xb + n, xc + n, xd⟩ (loOf ps).x (hiOf ps).x = true := by
    unfold carriesB coordB
    simp only [Bool.and_eq_true, decide_eq_true_eq]
    omega
  have hcar : carrierR [⟨0, xb + n, xc + n, xd⟩] ps = (((0 : Nat) : Int), 0) := by
    unfold carrierR
    rw [if_pos hck, carrierGo, if_pos hc2]
  rw [hitR_at (qs := [⟨0, xb + n, xc + n, xd⟩]) (rs := [r]) (j := 0) (n := 0) (by simp) (by simp) hcar rfl hr]
  show flawGo ps (xd - (xb + n)) r.fl = _
  rw [hfl, show xd - (xb + n) = (xd - xb) - n by omega]
  rcases Nat.eq_zero_or_pos fl.length with h | h
  · rw [List.eq_nil_of_length_eq_zero h]; rfl
  · rw [flawGo_ok (hs h), any_shift]

section
variable (xb xc xd by_ : Int) (rid : ByteArray) (rwd rln rtl rta rtb : Int) (fa : Option Addr) (fc : Nat) (fl : List Qd) (A : Option Addr) (c : Nat) (ps : List Pt) (w : World)


set_option maxHeartbeats 4000000 in
set_option maxRecDepth 100000 in
theorem law39_DamageMoves_err (hex : ∀ W, Calls Try.prog 15 #[] W (Ret (.bool true) W)) (hr : RlOk w ⟨rid, rwd, rln, rtl, rta, rtb, fa, fc, fl⟩) (hx : QdI ⟨0, xb, xc, xd⟩) (hc : ps.length ≤ c) (hm : c ≤ maxLen) (hp : Pts w A ps)
    (hfew : fewB [⟨0, none, 1, [⟨0, xb, xc, xd⟩]⟩] [⟨rid, rwd, rln, rtl, rta, rtb, fa, fc, fl⟩] [ps] = true) (h1 : -1048576 ≤ by_) (h2 : by_ ≤ 1048576) (hne : (hitR [⟨0, xb, xc, xd⟩] [⟨rid, rwd, rln, rtl, rta, rtb, fa, fc, fl⟩] ps).2 ≠ 0) :
    Calls Try.prog 8 #[.agg #[.int .i64 0, .int .i64 xb, .int .i64 xc, .int .i64 xd], .agg #[.string rid, .int .i64 rwd, .int .i64 rln, .int .i64 rtl, .int .i64 rta, .int .i64 rtb, .slice fa fl.length fc], .slice A ps.length c, .int .i64 by_] w (Ret (.bool true) w) := by
  have HX := Lib.hid hex
  have HF := Lib.hid (mv_few 0 xb xc xd rid rwd rln rtl rta rtb fa fc fl A c ps w hr hx hc hm hp)
  rw [hfew] at HF
  obtain ⟨_, _, hf6, h10⟩ := few_all hfew
  have h10 := h10 ps (by simp)
  have HH := Lib.hid (mv_hit 0 xb xc xd rid rwd rln rtl rta rtb fa fc fl A c ps w hr (by omega) hc hp)
  clear hex hfew hf6
  generalize hitR [⟨0, xb, xc, xd⟩] [⟨rid, rwd, rln, rtl, rta, rtb, fa, fc, fl⟩] ps = R at *
  obtain ⟨hb, he⟩ := R
  have d0 : (he != 0) = true := by simpa using hne
  clear hne
  have d1 : decide (by_ < -1048576) = false := by simp; omega
  have d2 : decide (1048576 < by_) = false := by simp; omega
  go_enter Try.func8, Try.ntmps8
  go_upto_region 4 with (first | (go_at_call 14; (with_reducible refine (HF.out _ (w.heap.size + 1 + 1) _ _ _ (by repeat' (with_reducible first | exact Later.refl _ | assumption | refine Later.drew ?_ | refine Later.drewN ?_ _ | refine Later.alloc ?_ _ | refine Later.put ?_ (by omega) _ | refine Later.trans ?_ (by assumption))) (by repeat' (with_reducible first | assumption | (refine Blk.newAt ?_; simp; done) | refine Blk.alloc ?_ _ | refine Blk.drew ?_ | refine Blk.drewN ?_ _ | refine Blk.later ?_ (by assumption))) (by repeat' (with_reducible first | assumption | (refine Blk.newAt ?_; simp; done) | refine Blk.alloc ?_ _ | refine Blk.drew ?_ | refine Blk.drewN ?_ _ | refine Blk.later ?_ (by assumption))) (by repeat' (with_reducible first | assumption | (refine Blk.newAt ?_; simp; done) | refine Blk.alloc ?_ _ | refine Blk.drew ?_ | refine Blk.drewN ?_ _ | refine Blk.later ?_ (by assumption))) (by repeat' (with_reducible first | assumption | (refine Blk.newAt ?_; simp; done) | refine Blk.alloc ?_ _ | refine Blk.drew ?_ | refine Blk.drewN ?_ _ | refine Blk.later ?_ (by assumption)))).mono ?_); rintro e w1 ⟨rfl, hb1⟩; have r0 : w1.cell? ⟨w.heap.size, 0, none⟩ = some (.int .i64 0) := hb1.cell (by simp [go_sem])))
  clear r0 HF
  have X0 : Blk w1 w.heap.size 62 #[.int .i64 0, .int .i64 xb, .int .i64 xc, .int .i64 xd] := by refine Blk.later ?_ hb1; exact (by repeat' (with_reducible first | assumption | (refine Blk.newAt ?_; simp; done) | refine Blk.alloc ?_ _ | refine Blk.drew ?_ | refine Blk.drewN ?_ _ | refine Blk.later ?_ (by assumption)))
  have X1 : Blk w1 (w.heap.size + 1) 56 #[.string rid, .int .i64 rwd, .int .i64 rln, .int .i64 rtl, .int .i64 rta, .int .i64 rtb, .slice fa fl.length fc] := by refine Blk.later ?_ hb1; exact (by repeat' (with_reducible first | assumption | (refine Blk.newAt ?_; simp; done) | refine Blk.alloc ?_ _ | refine Blk.drew ?_ | refine Blk.drewN ?_ _ | refine Blk.later ?_ (by assumption)))
  have X2 : Blk w1 (w.heap.size + 1 + 1) 62 #[.int .i64 0, .int .i64 xb, .int .i64 xc, .int .i64 xd] := by refine Blk.later ?_ hb1; exact (by repeat' (with_reducible first | assumption | (refine Blk.newAt ?_; simp; done) | refine Blk.alloc ?_ _ | refine Blk.drew ?_ | refine Blk.drewN ?_ _ | refine Blk.later ?_ (by assumption)))
  have X3 : Blk w1 (w.heap.size + 1 + 1 + 1) 24 #[.int .i64 0, .slice (some ⟨w.heap.size + 1 + 1, 0, none⟩) 1 1] := by refine Blk.later ?_ hb1; exact (by repeat' (with_reducible first | assumption | (refine Blk.newAt ?_; simp; done) | refine Blk.alloc ?_ _ | refine Blk.drew ?_ | refine Blk.drewN ?_ _ | refine Blk.later ?_ (by assumption)))
  have hl1 : Later w w1 := (by repeat' (with_reducible first | exact Later.refl _ | assumption | refine Later.drew ?_ | refine Later.drewN ?_ _ | refine Later.alloc ?_ _ | refine Later.put ?_ (by omega) _ | refine Later.trans ?_ (by assumption)))
  clear hb1
  generalize w.heap.size = n0 at *
  generalize n0 + 1 = n1 at *
  generalize n1 + 1 = n2 at *
  generalize n2 + 1 = n3 at *
  have a0 : w1.cell? ⟨n0, 0, none⟩ = some (.int .i64 0) := X0.cell 0
  have a1 : w1.cell? ⟨n0, 1, none⟩ = some (.int .i64 xb) := X0.cell 1
  have a2 : w1.cell? ⟨n0, 2, none⟩ = some (.int .i64 xc) := X0.cell 2
  have a3 : w1.cell? ⟨n0, 3, none⟩ = some (.int .i64 xd) := X0.cell 3
  have r0 : w1.cell? ⟨n1, 0, none⟩ = some (.string rid) := X1.cell 0
  have r1 : w1.cell? ⟨n1, 1, none⟩ = some (.int .i64 rwd) := X1.cell 1
  have r2 : w1.cell? ⟨n1, 2, none⟩ = some (.int .i64 rln) := X1.cell 2
  have r3 : w1.cell? ⟨n1, 3, none⟩ = some (.int .i64 rtl) := X1.cell 3
  have r4 : w1.cell? ⟨n1, 4, none⟩ = some (.int .i64 rta) := X1.cell 4
  have r5 : w1.cell? ⟨n1, 5, none⟩ = some (.int .i64 rtb) := X1.cell 5
  have r6 : w1.cell? ⟨n1, 6, none⟩ = some (.slice fa fl.length fc) := X1.cell 6
  have p0 : w1.cell? ⟨n3, 0, none⟩ = some (.int .i64 0) := X3.cell 0
  have p1 : w1.cell? ⟨n3, 1, none⟩ = some (.slice (some ⟨n2, 0, none⟩) 1 1) := X3.cell 1
  have zx := X0.lt
  have zr := X1.lt
  have zp := X3.lt
  go_wp2_with (first | (go_at_call 18; (with_reducible refine (HH.out _ _ _ (by repeat' (with_reducible first | exact Later.refl _ | assumption | refine Later.drew ?_ | refine Later.drewN ?_ _ | refine Later.alloc ?_ _ | refine Later.put ?_ (by omega) _ | refine Later.trans ?_ (by assumption))) (by repeat' (with_reducible first | assumption | (refine Blk.newAt ?_; simp; done) | refine Blk.alloc ?_ _ | refine Blk.drew ?_ | refine Blk.drewN ?_ _ | refine Blk.later ?_ (by assumption))) (by repeat' (with_reducible first | assumption | (refine Blk.newAt ?_; simp; done) | refine Blk.alloc ?_ _ | refine Blk.drew ?_ | refine Blk.drewN ?_ _ | refine Blk.later ?_ (by assumption)))).mono ?_); rintro e w2 ⟨rfl, hb2⟩) | (go_at_call 15; refine (HX.out _).mono ?_; rintro e w3 ⟨rfl, hb3⟩))
  go_ret
  exact ⟨rfl, (by repeat' (with_reducible first | exact Later.refl _ | assumption | refine Later.drew ?_ | refine Later.drewN ?_ _ | refine Later.alloc ?_ _ | refine Later.put ?_ (by omega) _ | refine Later.trans ?_ (by assumption)))⟩

set_option maxHeartbeats 8000000 in
set_option maxRecDepth 100000 in
theorem law39_DamageMoves_in (hex : ∀ W, Calls Try.prog 15 #[] W (Ret (.bool true) W)) (hr : RlOk w ⟨rid, rwd, rln, rtl, rta, rtb, fa, fc, fl⟩) (hx : QdI ⟨0, xb, xc, xd⟩) (hc : ps.length ≤ c) (hm : c ≤ maxLen) (hp : Pts w A ps)
    (hfew : fewB [⟨0, none, 1, [⟨0, xb, xc, xd⟩]⟩] [⟨rid, rwd, rln, rtl, rta, rtb, fa, fc, fl⟩] [ps] = true) (h1 : -1048576 ≤ by_) (h2 : by_ ≤ 1048576) (hok : (hitR [⟨0, xb, xc, xd⟩] [⟨rid, rwd, rln, rtl, rta, rtb, fa, fc, fl⟩] ps).2 = 0) :
    Calls Try.prog 8 #[.agg #[.int .i64 0, .int .i64 xb, .int .i64 xc, .int .i64 xd], .agg #[.string rid, .int .i64 rwd, .int .i64 rln, .int .i64 rtl, .int .i64 rta, .int .i64 rtb, .slice fa fl.length fc], .slice A ps.length c, .int .i64 by_] w (Ret (.bool true) w) := by
  have HX := Lib.hid hex
  have HF := Lib.hid (mv_few 0 xb xc xd rid rwd rln rtl rta rtb fa fc fl A c ps w hr hx hc hm hp)
  rw [hfew] at HF
  obtain ⟨_, _, hf6, h10⟩ := few_all hfew
  have h10 := h10 ps (by simp)
  have hf6 := (hf6 _ (List.mem_singleton.2 rfl)).1
  have HH := Lib.hid (mv_hit 0 xb xc xd rid rwd rln rtl rta rtb fa fc fl A c ps w hr (by omega) hc hp)
  obtain ⟨hcar, _, hroll, hcb, hhr⟩ := hitR_one hok
  rw [hhr] at HH hok
  obtain ⟨_, _, hfb, hln, hwd⟩ := roll_ok hroll
  have hbd := carries_bd hcb
  have hlh := lo_le_hi (ps := ps)
  have hfa := flawsBad_all.1 hfb
  obtain ⟨his, hfc, hfm, hfq, hfi, hints⟩ := hr
  simp only [] at hf6 hok HH hfb hln hwd hbd hfa his hfc hfm hfq hfi hints
  have HG := Lib.hid (fun (hl : 0 < fl.length) => flawGo_split hok hl)
  have hany : flawGo ps (xd - xb) fl = (fl.any (hitF ps (xd - xb)), 0) := by
    rcases Nat.eq_zero_or_pos fl.length with h | h
    · rw [List.eq_nil_of_length_eq_zero h]; rfl
    · exact flawGo_ok (HG.out h) fl
  rw [hany] at HH
  have HB := Lib.hid (fun W (hW : Pts W A ps) x y ww h ix iy iw ih => overlap_Hits A c ps x y ww h W (by omega) hc hW ix iy iw ih)
  have Hck := Lib.hid (carrier_ok (by rw [hcar])).1
  have Hcb := Lib.hid hcb
  clear hex hfew hok hhr hany hcar hroll hfb hcb
  obtain ⟨b1, b2, b3, b4, b5⟩ := hbd
  have d1 : decide (by_ < -1048576) = false := by simp; omega
  have d2 : decide (1048576 < by_) = false := by simp; omega
  obtain ⟨i0, hi, hz0, hz1, hz2⟩ := info_parts info_rect
  go_enter Try.func8, Try.ntmps8
  go_upto_region 4 with (first | (go_at_call 14; (with_reducible refine (HF.out _ (w.heap.size + 1 + 1) _ _ _ (by repeat' (with_reducible first | exact Later.refl _ | assumption | refine Later.drew ?_ | refine Later.drewN ?_ _ | refine Later.alloc ?_ _ | refine Later.put ?_ (by omega) _ | refine Later.trans ?_ (by assumption))) (by repeat' (with_reducible first | assumption | (refine Blk.newAt ?_; simp; done) | refine Blk.alloc ?_ _ | refine Blk.drew ?_ | refine Blk.drewN ?_ _ | refine Blk.later ?_ (by assumption))) (by repeat' (with_reducible first | assumption | (refine Blk.newAt ?_; simp; done) | refine Blk.alloc ?_ _ | refine Blk.drew ?_ | refine Blk.drewN ?_ _ | refine Blk.later ?_ (by assumption))) (by repeat' (with_reducible first | assumption | (refine Blk.newAt ?_; simp; done) | refine Blk.alloc ?_ _ | refine Blk.drew ?_ | refine Blk.drewN ?_ _ | refine Blk.later ?_ (by assumption))) (by repeat' (with_reducible first | assumption | (refine Blk.newAt ?_; simp; done) | refine Blk.alloc ?_ _ | refine Blk.drew ?_ | refine Blk.drewN ?_ _ | refine Blk.later ?_ (by assumption)))).mono ?_); rintro e w1 ⟨rfl, hb1⟩; have r0 : w1.cell? ⟨w.heap.size, 0, none⟩ = some (.int .i64 0) := hb1.cell (by simp [go_sem])))
  clear r0 HF d1 d2
  have X0 : Blk w1 w.heap.size 62 #[.int .i64 0, .int .i64 xb, .int .i64 xc, .int .i64 xd] := by refine Blk.later ?_ hb1; exact (by repeat' (with_reducible first | assumption | (refine Blk.newAt ?_; simp; done) | refine Blk.alloc ?_ _ | refine Blk.drew ?_ | refine Blk.drewN ?_ _ | refine Blk.later ?_ (by assumption)))
  have X1 : Blk w1 (w.heap.size + 1) 56 #[.string rid, .int .i64 rwd, .int .i64 rln, .int .i64 rtl, .int .i64 rta, .int .i64 rtb, .slice fa fl.length fc] := by refine Blk.later ?_ hb1; exact (by repeat' (with_reducible first | assumption | (refine Blk.newAt ?_; simp; done) | refine Blk.alloc ?_ _ | refine Blk.drew ?_ | refine Blk.drewN ?_ _ | refine Blk.later ?_ (by assumption)))
  have X2 : Blk w1 (w.heap.size + 1 + 1) 62 #[.int .i64 0, .int .i64 xb, .int .i64 xc, .int .i64 xd] := by refine Blk.later ?_ hb1; exact (by repeat' (with_reducible first | assumption | (refine Blk.newAt ?_; simp; done) | refine Blk.alloc ?_ _ | refine Blk.drew ?_ | refine Blk.drewN ?_ _ | refine Blk.later ?_ (by assumption)))
  have X3 : Blk w1 (w.heap.size + 1 + 1 + 1) 24 #[.int .i64 0, .slice (some ⟨w.heap.size + 1 + 1, 0, none⟩) 1 1] := by refine Blk.later ?_ hb1; exact (by repeat' (with_reducible first | assumption | (refine Blk.newAt ?_; simp; done) | refine Blk.alloc ?_ _ | refine Blk.drew ?_ | refine Blk.drewN ?_ _ | refine Blk.later ?_ (by assumption)))
  have hl1 : Later w w1 := (by repeat' (with_reducible first | exact Later.refl _ | assumption | refine Later.drew ?_ | refine Later.drewN ?_ _ | refine Later.alloc ?_ _ | refine Later.put ?_ (by omega) _ | refine Later.trans ?_ (by assumption)))
  clear hb1
  have hw0 : w.heap.size ≤ w.heap.size := Nat.le_refl _
  generalize hne0 : w.heap.size = n0 at *
  generalize hne1 : n0 + 1 = n1 at *
  generalize hne2 : n1 + 1 = n2 at *
  generalize hne3 : n2 + 1 = n3 at *
  clear hne1 hne2 hne3
  have Hn0 := Lib.hid hne0
  clear hne0
  have a0 : w1.cell? ⟨n0, 0, none⟩ = some (.int .i64 0) := X0.cell 0
  have a1 : w1.cell? ⟨n0, 1, none⟩ = some (.int .i64 xb) := X0.cell 1
  have a2 : w1.cell? ⟨n0, 2, none⟩ = some (.int .i64 xc) := X0.cell 2
  have a3 : w1.cell? ⟨n0, 3, none⟩ = some (.int .i64 xd) := X0.cell 3
  have r0 : w1.cell? ⟨n1, 0, none⟩ = some (.string rid) := X1.cell 0
  have r1 : w1.cell? ⟨n1, 1, none⟩ = some (.int .i64 rwd) := X1.cell 1
  have r2 : w1.cell? ⟨n1, 2, none⟩ = some (.int .i64 rln) := X1.cell 2
  have r3 : w1.cell? ⟨n1, 3, none⟩ = some (.int .i64 rtl) := X1.cell 3
  have r4 : w1.cell? ⟨n1, 4, none⟩ = some (.int .i64 rta) := X1.cell 4
  have r5 : w1.cell? ⟨n1, 5, none⟩ = some (.int .i64 rtb) := X1.cell 5
  have r6 : w1.cell? ⟨n1, 6, none⟩ = some (.slice fa fl.length fc) := X1.cell 6
  have p0 : w1.cell? ⟨n3, 0, none⟩ = some (.int .i64 0) := X3.cell 0
  have p1 : w1.cell? ⟨n3, 1, none⟩ = some (.slice (some ⟨n2, 0, none⟩) 1 1) := X3.cell 1
  have zx := X0.lt
  have zr := X1.lt
  have zp := X3.lt
  go_upto_region 8 with (first | (go_at_call 18; (with_reducible refine (HH.out _ _ _ (by repeat' (with_reducible first | exact Later.refl _ | assumption | refine Later.drew ?_ | refine Later.drewN ?_ _ | refine Later.alloc ?_ _ | refine Later.put ?_ (by omega) _ | refine Later.trans ?_ (by assumption))) (by repeat' (with_reducible first | assumption | (refine Blk.newAt ?_; simp; done) | refine Blk.alloc ?_ _ | refine Blk.drew ?_ | refine Blk.drewN ?_ _ | refine Blk.later ?_ (by assumption))) (by repeat' (with_reducible first | assumption | (refine Blk.newAt ?_; simp; done) | refine Blk.alloc ?_ _ | refine Blk.drew ?_ | refine Blk.drewN ?_ _ | refine Blk.later ?_ (by assumption)))).mono ?_); rintro e w2 ⟨rfl, hb2⟩))
  have hl12 : Later w1 w2 := ((Later.refl _).alloc _).trans hb2
  have hl2 : Later w w2 := hl1.trans hl12
  replace X0 := X0.later hl12
  replace X1 := X1.later hl12
  replace X2 := X2.later hl12
  replace X3 := X3.later hl12
  clear a0 a1 a2 a3 r0 r1 r2 r3 r4 r5 r6 p0 p1 zx zr zp
  clear hl12 hb2 hl1 HH
  have a0 : w2.cell? ⟨n0, 0, none⟩ = some (.int .i64 0) := X0.cell 0
  have a1 : w2.cell? ⟨n0, 1, none⟩ = some (.int .i64 xb) := X0.cell 1
  have a2 : w2.cell? ⟨n0, 2, none⟩ = some (.int .i64 xc) := X0.cell 2
  have a3 : w2.cell? ⟨n0, 3, none⟩ = some (.int .i64 xd) := X0.cell 3
  have r0 : w2.cell? ⟨n1, 0, none⟩ = some (.string rid) := X1.cell 0
  have r1 : w2.cell? ⟨n1, 1, none⟩ = some (.int .i64 rwd) := X1.cell 1
  have r2 : w2.cell? ⟨n1, 2, none⟩ = some (.int .i64 rln) := X1.cell 2
  have r3 : w2.cell? ⟨n1, 3, none⟩ = some (.int .i64 rtl) := X1.cell 3
  have r4 : w2.cell? ⟨n1, 4, none⟩ = some (.int .i64 rta) := X1.cell 4
  have r5 : w2.cell? ⟨n1, 5, none⟩ = some (.int .i64 rtb) := X1.cell 5
  have r6 : w2.cell? ⟨n1, 6, none⟩ = some (.slice fa fl.length fc) := X1.cell 6
  have p0 : w2.cell? ⟨n3, 0, none⟩ = some (.int .i64 0) := X3.cell 0
  have p1 : w2.cell? ⟨n3, 1, none⟩ = some (.slice (some ⟨n2, 0, none⟩) 1 1) := X3.cell 1
  have zx := X0.lt
  have zr := X1.lt
  have zp := X3.lt
  go_wp2
  refine name_world (fun W9 hW9 => ?_)
  have hl29 : Later w2 W9 := by rw [hW9]; exact (by repeat' (with_reducible first | exact Later.refl _ | assumption | refine Later.drew ?_ | refine Later.drewN ?_ _ | refine Later.alloc ?_ _ | refine Later.put ?_ (by omega) _ | refine Later.trans ?_ (by assumption)))
  have hQ : Blk W9 w2.heap.size 56 #[.string rid, .int .i64 rwd, .int .i64 rln, .int .i64 rtl, .int .i64 rta, .int .i64 rtb, .slice none 0 0] := by rw [hW9]; exact (by repeat' (with_reducible first | assumption | (refine Blk.newAt ?_; simp; done) | refine Blk.alloc ?_ _ | refine Blk.drew ?_ | refine Blk.drewN ?_ _ | refine Blk.later ?_ (by assumption)))
  have hQw : n0 ≤ w2.heap.size := by rw [← Hn0.out]; exact hl2.size
  clear a0 a1 a2 a3 r0 r1 r2 r3 r4 r5 r6 p0 p1 zx zr zp
  have HX0 := Lib.hid X0
  have HX1 := Lib.hid X1
  have HX2 := Lib.hid X2
  clear X0 X1 X2 X3
  have hsm1 := World.ownsRow_nil W9 (w2.heap.size + 1) 59 4
  clear hW9
  generalize hQe : w2.heap.size = Q at *
  have HQe := Lib.hid hQe
  clear hQe
  go_loopw [12, 62] (fun sv iv wr => ∃ (i : Nat) (v : Value), i ≤ fl.length ∧ iv = .int .i64 i ∧ sv = .bool ((fl.take i).any (hitF ps (xd - xb))) ∧ Later w2 wr ∧
      Blk wr Q 56 #[.string rid, .int .i64 rwd, .int .i64 rln, .int .i64 rtl, .int .i64 rta, .int .i64 rtb, v] ∧ OwnR wr (Q + 1) 59 4 qd4 v ((fl.take i).map (shift by_))) (fun _ iv _ => fl.length - (intOf iv).toNat)
  case atStart => exact ⟨0, .slice none 0 0, by omega, rfl, rfl, hl29, hQ, hsm1⟩
  case round =>
    clear hQ hl29 hsm1
    obtain ⟨i, v, hi', rfl, rfl, hb, hQ, hown⟩ := hrel
    have Ho := Lib.hid hown
    have HQ := Lib.hid hQ
    clear hown hQ
    by_cases hlt : i < fl.length
    · have hs := HG.out (by omega)
      have hl := hl2.trans hb
      obtain ⟨bf, ofs, rfl, hfat⟩ := (hfq.later hl) (by omega)
      obtain ⟨e1, e2, e3, e4⟩ := hfat.get hlt
      have hbz : bf < wr.heap.size := World.block_lt_of_cell? _ _ e1
      have hfin := flaw_in (hfa _ (List.getElem_mem hlt))
      have HSx := Lib.hid (any_take_succ (p := hitF ps (xd - xb)) hlt)
      have Ht := Lib.hid (List.take_succ_eq_append_getElem hlt)
      have hll : ((fl.take i).map (shift by_)).length = i := by rw [List.length_map, List.length_take]; omega
      generalize fl[i] = f at *
      obtain ⟨ya, yb, yc, yd⟩ := f
      simp only [] at hfin e1 e2 e3 e4
      obtain ⟨g1, g2, g3, g4, g5, g6⟩ := hfin
      have a1 : wr.cell? ⟨n0, 1, none⟩ = some (.int .i64 xb) := hb.cell (HX0.out.cell 1)
      have a3 : wr.cell? ⟨n0, 3, none⟩ = some (.int .i64 xd) := hb.cell (HX0.out.cell 3)
      have za : n0 < wr.heap.size := World.block_lt_of_cell? _ _ a1
      have zq : Q < wr.heap.size := HQ.out.lt
      have q6 : wr.cell? ⟨Q, 6, none⟩ = some v := HQ.out.cell 6
      have HB1 := Lib.hid (fun W (hW : Pts W A ps) => HB.out W hW (ya + xd - xb) yb yc yd ⟨by omega, by omega⟩ ⟨by omega, by omega⟩ ⟨by omega, by omega⟩ ⟨by omega, by omega⟩)
      have hhf : (hitsR ps (ya + xd - xb) yb yc yd).1 = hitF ps (xd - xb) ⟨ya, yb, yc, yd⟩ := by unfold hitF; rw [show ya + xd - xb = ya + (xd - xb) by omega]
      rw [hits_err, hhf, hs] at HB1
      generalize hitF ps (xd - xb) ⟨ya, yb, yc, yd⟩ = x at *
      generalize (fl.take i).any (hitF ps (xd - xb)) = S at *
      generalize hacc : (fl.take i).map (shift by_) = acc at *
      have Hacc := Lib.hid hacc
      have Hll := Lib.hid hll
      have hll' : acc.length ≤ 6 := by omega
      clear hs hhf hacc hll
      go_upto_region 14 with (first | (go_at_call 27; (with_reducible refine (HB1.out _ (hp.later (by repeat' (with_reducible first | exact Later.refl _ | assumption | refine Later.drew ?_ | refine Later.drewN ?_ _ | refine Later.alloc ?_ _ | refine Later.put ?_ (by omega) _ | refine Later.trans ?_ (by assumption))))).mono ?_); rintro e w5 ⟨rfl, hb5⟩))
      have hF5 : Blk w5 wr.heap.size 59 #[.int .i64 ya, .int .i64 yb, .int .i64 yc, .int .i64 yd] := (Blk.new wr _ _).later hb5
      have hl5 : Later wr w5 := ((Later.refl _).alloc _).trans hb5
      have c0 : w5.cell? ⟨wr.heap.size, 0, none⟩ = some (.int .i64 ya) := hF5.cell 0
      have c1 : w5.cell? ⟨wr.heap.size, 1, none⟩ = some (.int .i64 yb) := hF5.cell 1
      have c2 : w5.cell? ⟨wr.heap.size, 2, none⟩ = some (.int .i64 yc) := hF5.cell 2
      have c3 : w5.cell? ⟨wr.heap.size, 3, none⟩ = some (.int .i64 yd) := hF5.cell 3
      have cf := hF5.frozen 0
      have z6 := hl5.cell q6
      have zF : wr.heap.size < w5.heap.size := hF5.lt
      have zQ : Q < w5.heap.size := World.block_lt_of_cell? _ _ z6
      have hne : Q ≠ wr.heap.size := by omega
      clear e1 e2 e3 e4 a1 a3 q6 hb5 HB1
      have hl6 : Later wr ((w5.setCell ⟨wr.heap.size, 0, none⟩ (.int .i64 (ya + by_))).alloc (.cells #[.int .i64 (ya + by_), .int .i64 yb, .int .i64 yc, .int .i64 yd] 59)) := (hl5.put (Nat.le_refl _) _).alloc _
      have a63 : acc.length + 1 ≤ maxLen := by unfold maxLen; omega
      have a47 : (acc.length + 1) * 32 ≤ 140737488355328 := by omega
      have hnw := new_four (w5.setCell ⟨wr.heap.size, 0, none⟩ (.int .i64 (ya + by_))) (.int .i64 (ya + by_)) (.int .i64 yb) (.int .i64 yc) (.int .i64 yd) 59
      rw [show (w5.setCell ⟨wr.heap.size, 0, none⟩ (.int .i64 (ya + by_))).heap.size = w5.heap.size by simp] at hnw
      have Hnw := Lib.hid hnw
      have hbase : Q + 1 ≤ ((w5.setCell ⟨wr.heap.size, 0, none⟩ (.int .i64 (ya + by_))).alloc (.cells #[.int .i64 (ya + by_), .int .i64 yb, .int .i64 yc, .int .i64 yd] 59)).heap.size := by have := hl6.size; omega
      have Ho6 := Lib.hid (Ho.out.later hl6)
      clear hnw
      have hlt2 := World.ownsRow.lt Ho6.out
      have hQ6 := ((HQ.out.later hl5).far hne (o := 0) (.int .i64 (ya + by_))).alloc (.cells #[.int .i64 (ya + by_), .int .i64 yb, .int .i64 yc, .int .i64 yd] 59)
      have HQ6 := Lib.hid hQ6
      have Hlt2 := Lib.hid hlt2
      clear hQ6 hlt2
      cases S <;> cases x
      all_goals
        go_wp2_with (at_builtin; refine wpList_append_own _ rfl (.tmp 98) (.tmp 100) 54 rfl (Q + 1) 59 i0 (.agg #[.int .i64 0, .int .i64 0, .int .i64 0, .int .i64 0]) 4 32 Try.underlying54 hi hz0 hz1 hz2 rfl (by decide) _ acc.length (acc.flatMap qd4) rfl Ho6.out ⟨w5.heap.size, 0, none⟩ 1 1 [.int .i64 (ya + by_), .int .i64 yb, .int .i64 yc, .int .i64 yd] rfl rfl Hnw.out (qd4_one ⟨ya + by_, yb, yc, yd⟩) a63 a47 hbase ?_; intro v' w7 hown' hgrow _; have hQ7 : Blk w7 Q 56 #[.string rid, .int .i64 rwd, .int .i64 rln, .int .i64 rtl, .int .i64 rta, .int .i64 rtb, v] := (hgrow.block Q HQ6.out.lt (by intro h; have := (Hlt2.out Q h.symm).1; omega)).trans HQ6.out; have hl7 : Later w2 w7 := Below.grown (hb.trans hl6) hgrow (hb.trans hl6).size (fun g hg => by have := (Hlt2.out g hg).1; rw [HQe.out]; omega); have hown2 := own_snoc hown'; have Ho7 := Lib.hid hown2; obtain ⟨A', c', rfl, _, _, _⟩ := OwnR.form qd4_len hown2; have HQ7 := Lib.hid hQ7; have q7 : w7.cell? ⟨Q, 6, none⟩ = some v := hQ7.cell 6; have qf := hQ7.frozen 6; have zq7 := hQ7.lt; clear hown2 hown' hgrow hQ7)
        go_roundw
        case rel => exact ⟨i + 1, _, by omega, by go_num, by rw [HSx.out]; rfl, hl7.put (by rw [HQe.out]; exact Nat.le_refl _) _, HQ7.out.set_ 6 _, by have h7 := Ho7.out; rw [List.length_append, List.length_singleton] at h7; rw [Ht.out, List.map_append, Hacc.out]; exact h7.far (Nat.lt_succ_self Q) _⟩
        case measure => simp [intOf]; omega
    · have hie : fl.take i = fl := List.take_of_length_le (by omega)
      rw [hie] at Ho ⊢
      obtain ⟨A', c', rfl, hc1, hc2, hq'⟩ := Ho.out.qds
      have hqi' : ∀ q ∈ fl.map (shift by_), QdI q := by
        intro q hq
        obtain ⟨f, hf, rfl⟩ := List.mem_map.1 hq
        have h3 := flaw_in (hfa f hf)
        have h4 := hfi f hf
        exact ⟨⟨by show _ ≤ f.a + by_; omega, by show f.a + by_ ≤ _; omega⟩, h4.2⟩
      have hrok : RlOk wr ⟨rid, rwd, rln, rtl, rta, rtb, A', c', fl.map (shift by_)⟩ := ⟨his, hc1, hc2, hq', hqi', hints⟩
      have HK := Lib.hid (fun W (hW : Later wr W) => roll_Check ⟨rid, rwd, rln, rtl, rta, rtb, A', c', fl.map (shift by_)⟩ W (hrok.later hW))
      have HM := Lib.hid (mv_hit 0 (xb + by_) (xc + by_) xd rid rwd rln rtl rta rtb A' c' (fl.map (shift by_)) A c ps wr hrok (by omega) hc (hp.later (hl2.trans hb)))
      have HV := Lib.hid (fun h1 h2 hr => hit_moved (n := by_) (r := ⟨rid, rwd, rln, rtl, rta, rtb, A', c', fl.map (shift by_)⟩) Hck.out Hcb.out h1 h2 hr rfl HG.out)
      unfold Rl.agg at HK
      simp only [List.length_map] at HK HM HQ hc1
      generalize fl.any (hitF ps (xd - xb)) = X at *
      generalize hgr : rollI ⟨rid, rwd, rln, rtl, rta, rtb, A', c', fl.map (shift by_)⟩ = er at *
      generalize hgh : hitR [⟨0, xb + by_, xc + by_, xd⟩] [⟨rid, rwd, rln, rtl, rta, rtb, A', c', fl.map (shift by_)⟩] ps = hm at *
      clear hgr hgh
      have a1 : wr.cell? ⟨n0, 1, none⟩ = some (.int .i64 xb) := hb.cell (HX0.out.cell 1)
      have a2 : wr.cell? ⟨n0, 2, none⟩ = some (.int .i64 xc) := hb.cell (HX0.out.cell 2)
      have a3 : wr.cell? ⟨n0, 3, none⟩ = some (.int .i64 xd) := hb.cell (HX0.out.cell 3)
      have r2 : wr.cell? ⟨n1, 2, none⟩ = some (.int .i64 rln) := hb.cell (HX1.out.cell 2)
      have q0 : wr.cell? ⟨Q, 0, none⟩ = some (.string rid) := HQ.out.cell 0
      have q1 : wr.cell? ⟨Q, 1, none⟩ = some (.int .i64 rwd) := HQ.out.cell 1
      have q2 : wr.cell? ⟨Q, 2, none⟩ = some (.int .i64 rln) := HQ.out.cell 2
      have q3 : wr.cell? ⟨Q, 3, none⟩ = some (.int .i64 rtl) := HQ.out.cell 3
      have q4 : wr.cell? ⟨Q, 4, none⟩ = some (.int .i64 rta) := HQ.out.cell 4
      have q5 : wr.cell? ⟨Q, 5, none⟩ = some (.int .i64 rtb) := HQ.out.cell 5
      have q6 : wr.cell? ⟨Q, 6, none⟩ = some (.slice A' fl.length c') := HQ.out.cell 6
      have za : n0 < wr.heap.size := World.block_lt_of_cell? _ _ a1
      have zr : n1 < wr.heap.size := World.block_lt_of_cell? _ _ r2
      have zq : Q < wr.heap.size := World.block_lt_of_cell? _ _ q0
      have hlw := hl2.trans hb
      clear hie hqi' hrok hq' Ho hfq HB hfa hfi
      by_cases k1 : xb + by_ < 0
      · have d1 : decide (xb + by_ < 0) = true := by simpa using k1
        cases X
        all_goals
          go_wp2_with (first | (go_at_call 15; refine (HX.out _).mono ?_; rintro e w8 ⟨rfl, hb8⟩))
          go_ret
          exact ⟨rfl, (by repeat' (with_reducible first | exact Later.refl _ | assumption | refine Later.drew ?_ | refine Later.drewN ?_ _ | refine Later.alloc ?_ _ | refine Later.put ?_ (by omega) _ | refine Later.trans ?_ (by assumption)))⟩
      · have d1 : decide (xb + by_ < 0) = false := by simpa using k1
        by_cases k2 : rln < xc + by_
        · have d2 : decide (rln < xc + by_) = true := by simpa using k2
          cases X
          all_goals
            go_wp2_with (first | (go_at_call 15; refine (HX.out _).mono ?_; rintro e w8 ⟨rfl, hb8⟩))
            go_ret
            exact ⟨rfl, (by repeat' (with_reducible first | exact Later.refl _ | assumption | refine Later.drew ?_ | refine Later.drewN ?_ _ | refine Later.alloc ?_ _ | refine Later.put ?_ (by omega) _ | refine Later.trans ?_ (by assumption)))⟩
        · have d2 : decide (rln < xc + by_) = false := by simpa using k2
          rcases Classical.em (er = 0) with k3 | k3
          · subst k3
            obtain rfl := HV.out (by omega) (by omega) rfl
            cases X
            · go_upto_region 25 with (first | (go_at_call 25; (with_reducible refine (HK.out _ (by repeat' (with_reducible first | exact Later.refl _ | assumption | refine Later.drew ?_ | refine Later.drewN ?_ _ | refine Later.alloc ?_ _ | refine Later.put ?_ (by omega) _ | refine Later.trans ?_ (by assumption)))).mono ?_); rintro e w7 ⟨rfl, hb7⟩))
              have M0 : Blk w7 wr.heap.size 62 #[.int .i64 0, .int .i64 (xb + by_), .int .i64 (xc + by_), .int .i64 xd] := by refine Blk.later ?_ hb7; exact (by repeat' (with_reducible first | assumption | (refine Blk.newAt ?_; simp; done) | refine Blk.alloc ?_ _ | refine Blk.drew ?_ | refine Blk.drewN ?_ _ | refine Blk.later ?_ (by assumption)))
              have M1 : Blk w7 (wr.heap.size + 1) 24 #[.int .i64 0, .slice (some ⟨wr.heap.size, 0, none⟩) 1 1] := by refine Blk.later ?_ hb7; exact (by repeat' (with_reducible first | assumption | (refine Blk.newAt ?_; simp; done) | refine Blk.alloc ?_ _ | refine Blk.drew ?_ | refine Blk.drewN ?_ _ | refine Blk.later ?_ (by assumption)))
              have m0 : w7.cell? ⟨wr.heap.size + 1, 0, none⟩ = some (.int .i64 0) := M1.cell 0
              have m1 : w7.cell? ⟨wr.heap.size + 1, 1, none⟩ = some (.slice (some ⟨wr.heap.size, 0, none⟩) 1 1) := M1.cell 1
              have hl77 : Later wr w7 := (by repeat' (with_reducible first | exact Later.refl _ | assumption | refine Later.drew ?_ | refine Later.drewN ?_ _ | refine Later.alloc ?_ _ | refine Later.put ?_ (by omega) _ | refine Later.trans ?_ (by assumption)))
              have s0 := hl77.cell q0
              have s1 := hl77.cell q1
              have s2 := hl77.cell q2
              have s3 := hl77.cell q3
              have s4 := hl77.cell q4
              have s5 := hl77.cell q5
              have s6 := hl77.cell q6
              have zq7 : Q < w7.heap.size := World.block_lt_of_cell? _ _ s0
              have zm7 : wr.heap.size + 1 < w7.heap.size := World.block_lt_of_cell? _ _ m0
              clear hb7 q0 q1 q2 q3 q4 q5 q6
              go_wp2_with (first | (go_at_call 18; (with_reducible refine (HM.out _ _ _ (by repeat' (with_reducible first | exact Later.refl _ | assumption | refine Later.drew ?_ | refine Later.drewN ?_ _ | refine Later.alloc ?_ _ | refine Later.put ?_ (by omega) _ | refine Later.trans ?_ (by assumption))) (by repeat' (with_reducible first | assumption | (refine Blk.newAt ?_; simp; done) | refine Blk.alloc ?_ _ | refine Blk.drew ?_ | refine Blk.drewN ?_ _ | refine Blk.later ?_ (by assumption))) (by repeat' (with_reducible first | assumption | (refine Blk.newAt ?_; simp; done) | refine Blk.alloc ?_ _ | refine Blk.drew ?_ | refine Blk.drewN ?_ _ | refine Blk.later ?_ (by assumption)))).mono ?_); rintro e w9 ⟨rfl, hb9⟩) | (go_at_call 15; refine (HX.out _).mono ?_; rintro e w8 ⟨rfl, hb8⟩))
              go_ret
              exact ⟨rfl, (by repeat' (with_reducible first | exact Later.refl _ | assumption | refine Later.drew ?_ | refine Later.drewN ?_ _ | refine Later.alloc ?_ _ | refine Later.put ?_ (by omega) _ | refine Later.trans ?_ (by assumption)))⟩
            · go_upto_region 25 with (first | (go_at_call 25; (with_reducible refine (HK.out _ (by repeat' (with_reducible first | exact Later.refl _ | assumption | refine Later.drew ?_ | refine Later.drewN ?_ _ | refine Later.alloc ?_ _ | refine Later.put ?_ (by omega) _ | refine Later.trans ?_ (by assumption)))).mono ?_); rintro e w7 ⟨rfl, hb7⟩))
              have M0 : Blk w7 wr.heap.size 62 #[.int .i64 0, .int .i64 (xb + by_), .int .i64 (xc + by_), .int .i64 xd] := by refine Blk.later ?_ hb7; exact (by repeat' (with_reducible first | assumption | (refine Blk.newAt ?_; simp; done) | refine Blk.alloc ?_ _ | refine Blk.drew ?_ | refine Blk.drewN ?_ _ | refine Blk.later ?_ (by assumption)))
              have M1 : Blk w7 (wr.heap.size + 1) 24 #[.int .i64 0, .slice (some ⟨wr.heap.size, 0, none⟩) 1 1] := by refine Blk.later ?_ hb7; exact (by repeat' (with_reducible first | assumption | (refine Blk.newAt ?_; simp; done) | refine Blk.alloc ?_ _ | refine Blk.drew ?_ | refine Blk.drewN ?_ _ | refine Blk.later ?_ (by assumption)))
              have m0 : w7.cell? ⟨wr.heap.size + 1, 0, none⟩ = some (.int .i64 0) := M1.cell 0
              have m1 : w7.cell? ⟨wr.heap.size + 1, 1, none⟩ = some (.slice (some ⟨wr.heap.size, 0, none⟩) 1 1) := M1.cell 1
              have hl77 : Later wr w7 := (by repeat' (with_reducible first | exact Later.refl _ | assumption | refine Later.drew ?_ | refine Later.drewN ?_ _ | refine Later.alloc ?_ _ | refine Later.put ?_ (by omega) _ | refine Later.trans ?_ (by assumption)))
              have s0 := hl77.cell q0
              have s1 := hl77.cell q1
              have s2 := hl77.cell q2
              have s3 := hl77.cell q3
              have s4 := hl77.cell q4
              have s5 := hl77.cell q5
              have s6 := hl77.cell q6
              have zq7 : Q < w7.heap.size := World.block_lt_of_cell? _ _ s0
              have zm7 : wr.heap.size + 1 < w7.heap.size := World.block_lt_of_cell? _ _ m0
              clear hb7 q0 q1 q2 q3 q4 q5 q6
              go_wp2_with (first | (go_at_call 18; (with_reducible refine (HM.out _ _ _ (by repeat' (with_reducible first | exact Later.refl _ | assumption | refine Later.drew ?_ | refine Later.drewN ?_ _ | refine Later.alloc ?_ _ | refine Later.put ?_ (by omega) _ | refine Later.trans ?_ (by assumption))) (by repeat' (with_reducible first | assumption | (refine Blk.newAt ?_; simp; done) | refine Blk.alloc ?_ _ | refine Blk.drew ?_ | refine Blk.drewN ?_ _ | refine Blk.later ?_ (by assumption))) (by repeat' (with_reducible first | assumption | (refine Blk.newAt ?_; simp; done) | refine Blk.alloc ?_ _ | refine Blk.drew ?_ | refine Blk.drewN ?_ _ | refine Blk.later ?_ (by assumption)))).mono ?_); rintro e w9 ⟨rfl, hb9⟩) | (go_at_call 15; refine (HX.out _).mono ?_; rintro e w8 ⟨rfl, hb8⟩))
              go_ret
              exact ⟨rfl, (by repeat' (with_reducible first | exact Later.refl _ | assumption | refine Later.drew ?_ | refine Later.drewN ?_ _ | refine Later.alloc ?_ _ | refine Later.put ?_ (by omega) _ | refine Later.trans ?_ (by assumption)))⟩
          · have d3 : (er != 0) = true := by simpa using k3
            cases X
            all_goals
              go_wp2_with (first | (go_at_call 25; (with_reducible refine (HK.out _ (by repeat' (with_reducible first | exact Later.refl _ | assumption | refine Later.drew ?_ | refine Later.drewN ?_ _ | refine Later.alloc ?_ _ | refine Later.put ?_ (by omega) _ | refine Later.trans ?_ (by assumption)))).mono ?_); rintro e w7 ⟨rfl, hb7⟩) | (go_at_call 15; refine (HX.out _).mono ?_; rintro e w8 ⟨rfl, hb8⟩))
              go_ret
              exact ⟨rfl, (by repeat' (with_reducible first | exact Later.refl _ | assumption | refine Later.drew ?_ | refine Later.drewN ?_ _ | refine Later.alloc ?_ _ | refine Later.put ?_ (by omega) _ | refine Later.trans ?_ (by assumption)))⟩
end

end Go.Proofs.Ytolddfapanabbaa
