/-
  A byte's bounds.
-/
import Derived.Test.YtpiniflhaokkaaaZBase
import Derived.Test.YtpiniflhaokkaaaZAccQ
import Derived.Test.YtpiniflhaokkaaaZOpen41
import Derived.Test.YtpiniflhaokkaaaZAccC
import Derived.Test.YtpiniflhaokkaaaZSprR
import Derived.Test.YtpiniflhaokkaaaZRefT
namespace Go.Proofs.Ytpiniflhaokkaaa
open Go.RowKit

theorem u8_bd {n : Int} (h : (Lit.int .u8 n).wf = true) : 0 ≤ n ∧ n ≤ 255 := by
  simp [Lit.wf, IntKind.min, IntKind.max, IntKind.signed, IntKind.bits] at h
  omega

end Go.Proofs.Ytpiniflhaokkaaa
/-
  Plain facts on accounts with other flaws on the rolls: without flaws nothing is damaged, more flaws never increase the pieces.
-/
namespace Go.Proofs.Ytpiniflhaokkaaa
open Go.RowKit
set_option linter.unusedSimpArgs false
set_option linter.unusedVariables false

/-- Rolls of the same measures. -/
structure Like (rs rs' : List Rl) : Prop where
  len : rs'.length = rs.length
  wd : ∀ i, (grl rs' i).wd = (grl rs i).wd
  ln : ∀ i, (grl rs' i).ln = (grl rs i).ln
theorem Like.of {rs rs' : List Rl} (h : rs'.length = rs.length) (k : ∀ i (h1 : i < rs.length) (h2 : i < rs'.length), rs'[i].wd = rs[i].wd ∧ rs'[i].ln = rs[i].ln) : Like rs rs' := by
  refine ⟨h, fun i => ?_, fun i => ?_⟩
  · by_cases hi : i < rs.length
    · rw [grl_eq hi, grl_eq (by omega)]; exact (k i hi (by omega)).1
    · unfold grl; simp [List.getD, show rs.length ≤ i by omega, show rs'.length ≤ i by omega]
  · by_cases hi : i < rs.length
    · rw [grl_eq hi, grl_eq (by omega)]; exact (k i hi (by omega)).2
    · unfold grl; simp [List.getD, show rs.length ≤ i by omega, show rs'.length ≤ i by omega]
theorem Like.cloth {rs rs' : List Rl} (L : Like rs rs') (p : Qd) : clothB p rs' = clothB p rs := by unfold clothB; rw [L.len, L.ln]
theorem Like.part {rs rs' : List Rl} (L : Like rs rs') {len wd : Int} {polys : List (List Pt)} {lots : List Int} {lot : Int} {prev : Option Qd} {p : Qd} : partErr len wd polys rs' lots lot prev p = partErr len wd polys rs lots lot prev p := by
  unfold partErr; rw [L.cloth, L.wd]
theorem Like.go {rs rs' : List Rl} (L : Like rs rs') {len wd : Int} {polys : List (List Pt)} {lots : List Int} {lot : Int} : ∀ {l : List Qd} {prev : Option Qd}, plyGo len wd polys rs' lots lot prev l = plyGo len wd polys rs lots lot prev l := by
  intro l
  induction l with
  | nil => intro prev; cases prev <;> rfl
  | cons p l ih => intro prev; cases prev <;> rw [plyGo, plyGo, L.part, ih]
theorem Like.ply {rs rs' : List Rl} (L : Like rs rs') {len wd : Int} {polys : List (List Pt)} {lots : List Int} {y : Pl} : plyR len wd polys rs' lots y = plyR len wd polys rs lots y := L.go
theorem Like.check {rs rs' : List Rl} (L : Like rs rs') (hr : ∀ r ∈ rs', rollI r = 0) {len wd : Int} {polys : List (List Pt)} {lots : List Int} {ys : List Pl} (h : scheckR len wd polys rs lots ys = 0) : scheckR len wd polys rs' lots ys = 0 := by
  obtain ⟨a, b, c, d⟩ := scheck_iff.1 h
  refine scheck_iff.2 ⟨?_, b, fun y hy => by rw [L.ply]; exact c y hy, d⟩
  unfold chkClothR at a ⊢
  split at a
  · rename_i h1; exact absurd a h1
  · rename_i h1
    rw [if_neg h1]
    split at a
    · rename_i h2; exact absurd a h2
    · rename_i h2
      obtain ⟨r1, r2, r3⟩ := chkRolls_zero (by simpa using h2 : chkRollsR rs lots.length = 0)
      have : chkRollsR rs' lots.length = 0 := by
        unfold chkRollsR
        rw [if_neg (by rw [L.len]; omega), if_neg (by simpa using rolls_all.2 hr), if_neg (by rw [L.len]; omega)]
      rw [if_neg (by simpa using this)]
      exact a
theorem Like.tkn {rs rs' : List Rl} (L : Like rs rs') (ys : List Py) : tknA rs' ys = tknA rs ys := by unfold tknA tknQ wdOf; simp only [L.wd]
theorem Like.dblG {rs rs' : List Rl} (L : Like rs rs') : ∀ (l : List Qd) (p : Qd), dblGo rs' p l = dblGo rs p l := by
  intro l
  induction l with
  | nil => intro p; rfl
  | cons q l ih => intro p; rw [dblGo, dblGo, ih]; unfold wdOf; rw [L.wd]
theorem Like.dbl {rs rs' : List Rl} (L : Like rs rs') (ys : List Py) : dblA rs' ys = dblA rs ys := by
  unfold dblA
  congr 1
  refine List.map_congr_left fun y hy => ?_
  cases h : y.parts with
  | nil => rfl
  | cons p l => exact L.dblG l p
/-- The account with rolls of the same measures. -/
theorem Like.acc {rs rs' : List Rl} (L : Like rs rs') (hr : ∀ r ∈ rs', rollI r = 0) {len wd : Int} {polys : List (List Pt)} {lots : List Int} {ys : List Py} (h : (accR len wd polys rs lots ys).2 = 0) :
    accR len wd polys rs' lots ys = (balR rs' polys ys, 0) ∧ (balR rs' polys ys).t = (balR rs polys ys).t ∧ (balR rs' polys ys).w = (balR rs polys ys).w := by
  obtain ⟨h1, h2, h3⟩ := acc_zero h
  refine ⟨acc_of (L.check hr h2) h3, L.tkn ys, ?_⟩
  have a := hitA_both rs polys ys
  have b := hitA_both rs' polys ys
  unfold balR
  simp only [L.tkn, L.dbl]
  omega
/-- A hit, by the carrier's roll. -/
theorem hit_carried {rs : List Rl} {lots : List Int} {y : Py} {q : List Pt} {j n : Nat} (k : Carried rs lots y q j n) (hn : n < rs.length) {rs' : List Rl} (hn' : n < rs'.length) (hr' : rollI rs'[n] = 0) :
    (hitR y.parts rs' q).1 = (rs'[n].fl).any (hitF q ((gq y.parts j).d - (gq y.parts j).b)) := by
  have hs : (splitR q).2 = 0 := by rw [splitR_err]; exact k.ck
  rw [hitR_at k.jl hn' k.car (by rw [← gq_at k.jl]; exact k.roll) hr', flawGo_ok hs, gq_at k.jl]
/-- Without flaws nothing is damaged. -/
theorem row_clean {rs' : List Rl} {polys : List (List Pt)} {y : Py} (h : ∀ q ∈ polys, (hitR y.parts rs' q).1 = false) : sumHit true polys (hitRow rs' polys y) = 0 := by
  unfold hitRow
  induction polys with
  | nil => rfl
  | cons q l ih =>
    rw [List.map_cons, sumHit, h q (List.mem_cons_self ..), ih (fun z hz => h z (List.mem_cons_of_mem _ hz))]
    simp
theorem row_worse {rs rs' : List Rl} {polys : List (List Pt)} {y : Py} (h : ∀ q ∈ polys, (hitR y.parts rs q).1 = true → (hitR y.parts rs' q).1 = true) : sumHit false polys (hitRow rs' polys y) ≤ sumHit false polys (hitRow rs polys y) := by
  unfold hitRow
  induction polys with
  | nil => exact Int.le_refl _
  | cons q l ih =>
    have h1 := h q (List.mem_cons_self ..)
    have h2 := ih (fun z hz => h z (List.mem_cons_of_mem _ hz))
    have := arA_pos q
    rw [List.map_cons, List.map_cons, sumHit, sumHit]
    rcases ha : (hitR y.parts rs q).1 with _ | _
    · split <;> simp <;> omega
    · rw [h1 ha]
      simpa using h2
theorem sum_zero {α : Type} {f : α → Int} : ∀ {l : List α}, (∀ a ∈ l, f a = 0) → (l.map f).sum = 0 := by
  intro l
  induction l with
  | nil => intro _; rfl
  | cons a l ih => intro h; rw [List.map_cons, List.sum_cons, h a (List.mem_cons_self ..), ih (fun b hb => h b (List.mem_cons_of_mem _ hb))]; rfl
theorem sum_le {α : Type} {f g : α → Int} : ∀ {l : List α}, (∀ a ∈ l, f a ≤ g a) → (l.map f).sum ≤ (l.map g).sum := by
  intro l
  induction l with
  | nil => intro _; exact Int.le_refl _
  | cons a l ih =>
    intro h
    have h1 := h a (List.mem_cons_self ..)
    have h2 := ih (fun b hb => h b (List.mem_cons_of_mem _ hb))
    simp only [List.map_cons, List.sum_cons]
    omega
theorem carried_n {len wd : Int} {polys : List (List Pt)} {rs : List Rl} {lots : List Int} {ys : List Py} (h : scheckR len wd polys rs lots (ys.map Py.pl) = 0) : ∀ y ∈ ys, ∀ q ∈ polys, ∃ j n, Carried rs lots y q j n ∧ n < rs.length := by
  intro y hy q hq
  obtain ⟨j, n, k⟩ := carried h y hy q hq
  obtain ⟨a, _, _, _⟩ := scheck_iff.1 h
  obtain ⟨_, c, _, _⟩ := cloth_zero a
  obtain ⟨_, _, e⟩ := chkRolls_zero c
  exact ⟨j, n, k, by have := k.nl; omega⟩
theorem bal_clean {rs rs' : List Rl} (L : Like rs rs') (hr : ∀ r ∈ rs', rollI r = 0 ∧ r.fl = []) {len wd : Int} {polys : List (List Pt)} {lots : List Int} {ys : List Py} (h : scheckR len wd polys rs lots (ys.map Py.pl) = 0) : (balR rs' polys ys).d = 0 ∧ (balR rs' polys ys).p = areaTot polys * (ys.length : Int) := by
  have h0 : hitA true rs' polys ys = 0 := sum_zero fun y hy => row_clean fun q hq => by
    obtain ⟨j, n, k, hn⟩ := carried_n h y hy q hq
    have hn' : n < rs'.length := by rw [L.len]; exact hn
    obtain ⟨e1, e2⟩ := hr _ (List.getElem_mem hn')
    rw [hit_carried k hn hn' e1, e2]
    rfl
  have := hitA_both rs' polys ys
  refine ⟨h0, ?_⟩
  show hitA false rs' polys ys = _
  omega
theorem bal_worse {rs rs' : List Rl} (L : Like rs rs') (hr : ∀ r ∈ rs', rollI r = 0) (hm : ∀ i (h1 : i < rs.length) (h2 : i < rs'.length), ∀ f ∈ rs[i].fl, f ∈ rs'[i].fl) {len wd : Int} {polys : List (List Pt)} {lots : List Int} {ys : List Py}
    (h : scheckR len wd polys rs lots (ys.map Py.pl) = 0) : (balR rs' polys ys).p ≤ (balR rs polys ys).p := by
  obtain ⟨a, _, _, _⟩ := scheck_iff.1 h
  obtain ⟨_, c, _, _⟩ := cloth_zero a
  obtain ⟨_, e, _⟩ := chkRolls_zero c
  refine sum_le fun y hy => row_worse fun q hq hit => ?_
  obtain ⟨j, n, k, hn⟩ := carried_n h y hy q hq
  have hn' : n < rs'.length := by rw [L.len]; exact hn
  rw [hit_carried k hn hn (e _ (List.getElem_mem hn)), List.any_eq_true] at hit
  obtain ⟨f, hf, hx⟩ := hit
  rw [hit_carried k hn hn' (hr _ (List.getElem_mem hn')), List.any_eq_true]
  exact ⟨f, hm n hn hn' f hf, hx⟩
/-- A roll with a further flaw. -/
theorem roll_more {r : Rl} (h : rollI r = 0) (h6 : r.fl.length ≤ 19) {A : Option Addr} {c : Nat} {f : Qd} (hf : flawBad r.ln r.wd f = false) : rollI (withFl r A c (r.fl ++ [f])) = 0 := by
  obtain ⟨hb, _, hg, _⟩ := roll_ok h
  unfold rollI
  rw [baseI_with, hb, if_neg (by simp), if_neg (show ¬ 20 < (withFl r A c (r.fl ++ [f])).fl.length by show ¬ 20 < (r.fl ++ [f]).length; simp; omega)]
  have : flawsBad (withFl r A c (r.fl ++ [f])).ln (withFl r A c (r.fl ++ [f])).wd (withFl r A c (r.fl ++ [f])).fl = false := flawsBad_all.2 fun q hq => by
    have hq : q ∈ r.fl ++ [f] := hq
    rcases List.mem_append.1 hq with hq | hq
    · exact flawsBad_all.1 hg q hq
    · rw [List.mem_singleton.1 hq]; exact hf
  rw [this]
  rfl

end Go.Proofs.Ytpiniflhaokkaaa
/-
  Rolls without flaws and rolls with a further flaw, in rows of the call's own: the relation of a loop, and what it says of accounts.
-/
namespace Go.Proofs.Ytpiniflhaokkaaa
open Go.RowKit
set_option linter.unusedSimpArgs false
set_option linter.unusedVariables false

theorem rolls38_all : ∀ {rs : List Rl}, rolls38 rs = true → ∀ r ∈ rs, r.fl.length ≤ 6 := by
  intro rs
  induction rs with
  | nil => intro _ r hr; cases hr
  | cons a l ih =>
    intro h r hr
    rw [rolls38] at h
    split at h
    · cases h
    · rcases List.mem_cons.1 hr with rfl | hr
      · omega
      · exact ih h r hr
theorem few8_flaws {c : C8} (h : few8 c = true) : ∀ r ∈ c.rs, r.fl.length ≤ 6 := by
  unfold few8 at h
  rw [Bool.and_eq_true] at h
  have h2 := h.2
  unfold few38 at h2
  split at h2
  · cases h2
  · split at h2
    · cases h2
    · split at h2
      · cases h2
      · rename_i _ _ h3
        exact rolls38_all (by simpa using h3)
/-- The place of the further flaw. -/
def wCond (x : Qd) (m i : Nat) (r : Rl) : Bool := decide (i = m) && decide (0 ≤ x.a) && decide (0 ≤ x.b) && decide (x.a < r.ln) && decide (x.b < r.wd)
def wfl (x : Qd) (m i : Nat) (r : Rl) : List Qd := if wCond x m i r = true then r.fl ++ [⟨x.a, x.b, 1, 1⟩] else r.fl
theorem wfl_yes {x : Qd} {m i : Nat} {r : Rl} (h : wCond x m i r = true) : wfl x m i r = r.fl ++ [⟨x.a, x.b, 1, 1⟩] := if_pos h
theorem wfl_no {x : Qd} {m i : Nat} {r : Rl} (h : wCond x m i r = false) : wfl x m i r = r.fl := if_neg (by simp [h])
theorem wfl_sub {x : Qd} {m i : Nat} {r : Rl} : ∀ f ∈ r.fl, f ∈ wfl x m i r := by
  intro f hf
  unfold wfl
  split
  · exact List.mem_append_left _ hf
  · exact hf
theorem wfl_qd {x : Qd} {m i : Nat} {r : Rl} (hr : ∀ q ∈ r.fl, QdI q) (hx : QdI x) : ∀ q ∈ wfl x m i r, QdI q := by
  intro q hq
  unfold wfl at hq
  split at hq
  · rcases List.mem_append.1 hq with h | h
    · exact hr q h
    · rw [List.mem_singleton.1 h]
      unfold QdI I64 at hx ⊢
      simp only []
      omega
  · exact hr q hq
theorem wfl_ok {x : Qd} {m i : Nat} {r : Rl} (h : rollI r = 0) (h6 : r.fl.length ≤ 6) (A : Option Addr) (c : Nat) : rollI (withFl r A c (wfl x m i r)) = 0 := by
  by_cases hc : wCond x m i r = true
  · rw [wfl_yes hc]
    refine roll_more h (by omega) ?_
    unfold wCond at hc
    simp only [Bool.and_eq_true, decide_eq_true_eq] at hc
    obtain ⟨⟨⟨⟨_, h1⟩, h2⟩, h3⟩, h4⟩ := hc
    unfold flawBad
    simp only [Bool.or_eq_false_iff, decide_eq_false_iff_not]
    omega
  · rw [wfl_no (by simpa using hc)]
    exact rollI_with h (by omega) (fun q hq => hq)
theorem bare_roll {r : Rl} (h : rollI r = 0) : rollI (bare r) = 0 := rollI_with (A := none) (c := 0) (fl := []) h (by simp) (fun q hq => by cases hq)

/-- The rows of the loop: a rolls without flaws, b rolls with a further flaw. -/
structure ArR (B K : Nat) (rs : List Rl) (x : Qd) (m a b : Nat) (cv wv : Value) (ws : List Rl) (w : World) : Prop where
  cl : OwnR w B 36 7 Rl.cells cv ((rs.take a).map bare)
  wo : OwnR w B 36 7 Rl.cells wv ws
  ln : ws.length = b
  row : ∀ j (hj : j < ws.length) (hj' : j < rs.length), ∃ A c, ws[j] = withFl rs[j] A c (wfl x m j rs[j]) ∧ OwnR w B 71 4 qd4 (.slice A (wfl x m j rs[j]).length c) (wfl x m j rs[j]) ∧
    ∀ g, (Value.slice A (wfl x m j rs[j]).length c).ownBlock = some g → g < K
  ne : ∀ g, cv.ownBlock = some g → wv.ownBlock ≠ some g
section
variable {B K : Nat} {rs : List Rl} {x : Qd} {m a b : Nat} {cv wv : Value} {ws : List Rl} {w : World}
theorem ArR.later (h : ArR B K rs x m a b cv wv ws w) {w' : World} (k : Later w w') : ArR B K rs x m a b cv wv ws w' :=
  ⟨h.cl.later k, h.wo.later k, h.ln, fun j hj hj' => by obtain ⟨A, c, e, h1, h2⟩ := h.row j hj hj'; exact ⟨A, c, e, h1.later k, h2⟩, h.ne⟩
theorem ArR.mono (h : ArR B K rs x m a b cv wv ws w) {K' : Nat} (hk : K ≤ K') : ArR B K' rs x m a b cv wv ws w :=
  ⟨h.cl, h.wo, h.ln, fun j hj hj' => by obtain ⟨A, c, e, h1, h2⟩ := h.row j hj hj'; exact ⟨A, c, e, h1, fun g hg => by have := h2 g hg; omega⟩, h.ne⟩
theorem ArR.start (B K : Nat) (rs : List Rl) (x : Qd) (m : Nat) (w : World) : ArR B K rs x m 0 0 (.slice none 0 0) (.slice none 0 0) [] w :=
  ⟨World.ownsRow_nil _ _ _ _, World.ownsRow_nil _ _ _ _, rfl, fun j hj => by simp at hj, fun g hg => by cases hg⟩
theorem own_off {α : Type} {cells : α → List Value} {sz g : Nat} {w : World} {base : Nat} {E : TypeId} {v u : Value} {o : Nat} {l : List α} (h : OwnR w base E sz cells v l) (hb : v.ownBlock ≠ some g) : OwnR (w.setCell ⟨g, o, none⟩ u) base E sz cells v l :=
  h.ofBlk fun k hk => Below.heap_setCell w ⟨g, o, none⟩ u k (by intro e; subst e; exact hb hk)
theorem ArR.put (h : ArR B K rs x m a b cv wv ws w) {g o : Nat} {u : Value} {cs : Array Value} (h1 : cv.ownBlock ≠ some g) (h2 : wv.ownBlock ≠ some g) (h3 : Blk w g 36 cs) : ArR B K rs x m a b cv wv ws (w.setCell ⟨g, o, none⟩ u) :=
  ⟨own_off h.cl h1, own_off h.wo h2, h.ln, fun j hj hj' => by
    obtain ⟨A, c, e, k1, k2⟩ := h.row j hj hj'
    exact ⟨A, c, e, own_off k1 (fun he => own_ne k1 h3 (by decide) he.symm), k2⟩, h.ne⟩
theorem ArR.clean (h : ArR B K rs x m a b cv wv ws w) (ha : a < rs.length) {w' : World} {cv' : Value} (hg : w.grownBy w' cv.ownBlock) (ho : OwnR w' B 36 7 Rl.cells cv' ((rs.take a).map bare ++ [bare rs[a]]))
    (hf : cv'.ownBlock = cv.ownBlock ∨ cv'.ownBlock = some w.heap.size) : ArR B K rs x m (a + 1) b cv' wv ws w' := by
  have hw : ∀ g, wv.ownBlock = some g → g < w.heap.size := fun g e => (World.ownsRow.lt h.wo g e).2
  refine ⟨by rw [List.take_succ_eq_append_getElem ha, List.map_append]; exact ho, h.wo.ofBlk fun g e => hg.block g (hw g e) (fun k => h.ne g k.symm e), h.ln, fun j hj hj' => ?_, fun g hg' e => ?_⟩
  · obtain ⟨A, c, e, k1, k2⟩ := h.row j hj hj'
    exact ⟨A, c, e, own_keep k1 h.cl (by decide) hg, k2⟩
  · rcases hf with hf | hf
    · exact h.ne g (by rw [← hf]; exact hg') e
    · rw [hf] at hg'
      injection hg' with hg'
      have := hw g e
      omega
theorem ArR.worse (h : ArR B K rs x m a b cv wv ws w) (hb : b < rs.length) {w' : World} {wv' : Value} {A : Option Addr} {c : Nat} (hg : w.grownBy w' wv.ownBlock) (ho : OwnR w' B 36 7 Rl.cells wv' (ws ++ [withFl rs[b] A c (wfl x m b rs[b])]))
    (hf : wv'.ownBlock = wv.ownBlock ∨ wv'.ownBlock = some w.heap.size) (hr : OwnR w B 71 4 qd4 (.slice A (wfl x m b rs[b]).length c) (wfl x m b rs[b])) (hK : w.heap.size ≤ K) : ArR B K rs x m a (b + 1) cv wv' (ws ++ [withFl rs[b] A c (wfl x m b rs[b])]) w' := by
  have hw : ∀ g, cv.ownBlock = some g → g < w.heap.size := fun g e => (World.ownsRow.lt h.cl g e).2
  refine ⟨h.cl.ofBlk fun g e => hg.block g (hw g e) (fun k => h.ne g e k.symm), ho, by rw [List.length_append, h.ln]; rfl, fun j hj hj' => ?_, fun g hg' e => ?_⟩
  · by_cases hjb : j < ws.length
    · obtain ⟨A', c', e, k1, k2⟩ := h.row j hjb hj'
      exact ⟨A', c', by rw [List.getElem_append_left hjb]; exact e, own_keep k1 h.wo (by decide) hg, k2⟩
    · have hjb : j = b := by have := h.ln; simp at hj; omega
      subst hjb
      refine ⟨A, c, ?_, own_keep hr h.wo (by decide) hg, fun g hg' => by have := (World.ownsRow.lt hr g hg').2; omega⟩
      rw [List.getElem_append_right (by have := h.ln; omega)]
      simp [h.ln]
  · rcases hf with hf | hf
    · rw [hf] at e; exact h.ne g hg' e
    · rw [hf] at e
      injection e with e
      have := hw g hg'
      omega
theorem ArR.rect (h : ArR B K rs x m a b cv wv ws w) {w' : World} {base : Nat} {v : Value} {l : List Qd} (hv : OwnR w base 71 4 qd4 v l) (hk : K ≤ base) (hg : w.grownBy w' v.ownBlock) : ArR B K rs x m a b cv wv ws w' :=
  ⟨own_keep h.cl hv (by decide) hg, own_keep h.wo hv (by decide) hg, h.ln, fun j hj hj' => by
    obtain ⟨A, c, e, k1, k2⟩ := h.row j hj hj'
    refine ⟨A, c, e, k1.ofBlk fun g he => hg.block g (World.ownsRow.lt k1 g he).2 (fun k => ?_), k2⟩
    have := k2 g he
    have := (World.ownsRow.lt hv g k.symm).1
    omega, h.ne⟩
/-- What the rows say of accounts. -/
theorem ArR.like (h : ArR B K rs x m a rs.length cv wv ws w) : Like rs ws :=
  Like.of h.ln fun i h1 h2 => by
    obtain ⟨A, c, e, _, _⟩ := h.row i h2 h1
    rw [e]
    exact ⟨rfl, rfl⟩
theorem ArR.rolls (h : ArR B K rs x m a rs.length cv wv ws w) (hr : ∀ r ∈ rs, rollI r = 0) (h6 : ∀ r ∈ rs, r.fl.length ≤ 6) : ∀ r ∈ ws, rollI r = 0 := by
  intro r hm
  obtain ⟨j, hj, rfl⟩ := List.getElem_of_mem hm
  have hj' : j < rs.length := by have := h.ln; omega
  obtain ⟨A, c, e, _, _⟩ := h.row j hj hj'
  rw [e]
  exact wfl_ok (hr _ (List.getElem_mem hj')) (h6 _ (List.getElem_mem hj')) A c
theorem ArR.sub (h : ArR B K rs x m a rs.length cv wv ws w) : ∀ i (h1 : i < rs.length) (h2 : i < ws.length), ∀ f ∈ rs[i].fl, f ∈ ws[i].fl := by
  intro i h1 h2 f hf
  obtain ⟨A, c, e, _, _⟩ := h.row i h2 h1
  rw [e]
  exact wfl_sub f hf
theorem ArR.list (h : ArR B K rs x m a rs.length cv wv ws w) (hok : ∀ i (hi : i < rs.length), RlOk w rs[i]) (hx : QdI x) {A : Option Addr} {n c : Nat} (e : wv = .slice A n c) : n = rs.length ∧ Rolls w A ws := by
  subst e
  obtain ⟨h1, _, _, h2⟩ := OwnR.list (ok := RlOk) rl_len h.wo (fun r hm => by
    obtain ⟨j, hj, rfl⟩ := List.getElem_of_mem hm
    have hj' : j < rs.length := by have := h.ln; omega
    obtain ⟨A', c', e, k1, _⟩ := h.row j hj hj'
    have ho := hok j hj'
    rw [e]
    obtain ⟨A2, c2, e2, q1, q2, q3⟩ := k1.qds
    injection e2 with e2 _ e3
    subst e2 e3
    exact ⟨ho.1, q1, q2, q3, wfl_qd ho.2.2.2.2.1 hx, ho.2.2.2.2.2⟩)
  exact ⟨by rw [h1, h.ln], h2⟩
theorem ArR.cleans (h : ArR B K rs x m rs.length b cv wv ws w) (hok : ∀ i (hi : i < rs.length), RlOk w rs[i]) {A : Option Addr} {n c : Nat} (e : cv = .slice A n c) : n = rs.length ∧ Rolls w A (rs.map bare) := by
  subst e
  have hcl := h.cl
  rw [List.take_length] at hcl
  obtain ⟨h1, _, _, h2⟩ := OwnR.list (ok := RlOk) rl_len hcl (fun r hm => by
    obtain ⟨r', hr', rfl⟩ := List.mem_map.1 hm
    obtain ⟨j, hj, rfl⟩ := List.getElem_of_mem hr'
    exact bare_ok (hok j hj) w)
  exact ⟨by rw [h1, List.length_map], h2⟩
end
theorem like_bare (rs : List Rl) : Like rs (rs.map bare) := Like.of (by simp) fun i h1 h2 => by rw [List.getElem_map]; exact ⟨rfl, rfl⟩
theorem rolls_bare {rs : List Rl} (h : ∀ r ∈ rs, rollI r = 0) : ∀ r ∈ rs.map bare, rollI r = 0 ∧ r.fl = [] := by
  intro r hr
  obtain ⟨r', hr', rfl⟩ := List.mem_map.1 hr
  exact ⟨bare_roll (h r' hr'), rfl⟩
theorem areaTot_take {ps : List (List Pt)} {k : Nat} (h : k < ps.length) : areaTot (ps.take (k + 1)) = areaTot (ps.take k) + arA ps[k] := by
  unfold areaTot
  rw [List.take_succ_eq_append_getElem h, List.map_append, List.sum_append]
  simp
theorem areaTot_bd (ps : List (List Pt)) (k : Nat) : 0 ≤ areaTot (ps.take k) ∧ areaTot (ps.take k) ≤ areaTot ps := by
  have hp : ∀ l : List (List Pt), 0 ≤ areaTot l := by
    intro l
    induction l with
    | nil => exact Int.le_refl _
    | cons a l ih => have := arA_pos a; rw [areaTot_cons]; omega
  have e : areaTot ps = areaTot (ps.take k) + areaTot (ps.drop k) := by
    have : areaTot (ps.take k ++ ps.drop k) = areaTot (ps.take k) + areaTot (ps.drop k) := by unfold areaTot; rw [List.map_append, List.sum_append]
    rwa [List.take_append_drop] at this
  have := hp (ps.drop k)
  have := hp (ps.take k)
  omega
section
attribute [local go_sem] ite_min ite_max
set_option maxHeartbeats 2000000 in
theorem law40_areas (Q : Option Addr) (qc : Nat) (polys : List (List Pt)) (w : World) (hps : Polys w Q polys) (hpl : ∀ p ∈ polys, p.length ≤ 1099511627776) (hck : ∀ p ∈ polys, checkI p = 0) (hn : polys.length ≤ 65536) (hA : areaTot polys ≤ 2199023255552) :
    Calls Try.prog 23 #[.slice Q polys.length qc] w (Ret (.int .i64 (areaTot polys)) w) := by
  go_enter Try.func23, Try.ntmps23
  go_upto_region 3 with fail
  go_loopw [3, 4] (fun sv iv wr => ∃ (k : Nat) (s : Int), k ≤ polys.length ∧ iv = .int .i64 k ∧ sv = .int .i64 s ∧ s = areaTot (polys.take k) ∧ Later w wr) (fun _ iv _ => polys.length - (intOf iv).toNat)
  case atStart => exact ⟨0, 0, by omega, rfl, rfl, rfl, Later.refl _⟩
  case round =>
    obtain ⟨k, s, hk, rfl, rfl, hs, hb⟩ := hrel
    have hbd := areaTot_bd polys k
    rw [← hs] at hbd
    have Hs := Lib.hid hs
    clear hs
    by_cases hlt : k < polys.length
    · obtain ⟨bq, oq, A4, c4, rfl, m1, m2, m3⟩ := (hps.later hb).at_ hlt
      have Hst := Lib.hid (areaTot_take hlt)
      have hal := arA_le _ (List.getElem_mem hlt)
      have HA := Lib.hid (fun W (hW : Later wr W) => polygon_Area2 A4 c4 polys[k] W (hpl _ (List.getElem_mem hlt)) m2 (m3.later hW) (hck _ (List.getElem_mem hlt)))
      have zq := World.block_lt_of_cell? _ _ m1
      have hap := arA_pos polys[k]
      have ha0 : arA polys[k] = max (areaI polys[k]) (-(areaI polys[k])) := rfl
      generalize arA polys[k] = ar at *
      generalize areaI polys[k] = a at *
      generalize polys[k] = q at *
      have v1 : IntKind.i64.wrap (-a) = -a := IntWalk.i64_in _ (by omega)
      have v2 : IntKind.i64.wrap (s + max a (-a)) = s + max a (-a) := IntWalk.i64_in _ (by omega)
      have hk0 : (0 : Int) ≤ (k : Int) := by omega
      have hk1 : (k : Int) < (polys.length : Int) := by omega
      have Ha0 := Lib.hid ha0
      clear ha0 m3
      go_wp2_with (first | (go_at_call 42; (with_reducible refine (HA.out _ (by repeat' (with_reducible first | exact Later.refl _ | assumption | refine Later.drew ?_ | refine Later.drewN ?_ _ | refine Later.alloc ?_ _ | refine Later.put ?_ (by omega) _ | refine Later.trans ?_ (by assumption)))).mono ?_); rintro e w5 ⟨rfl, hb5⟩))
      go_roundw
      case rel => exact ⟨k + 1, s + max a (-a), by omega, by go_num, by go_num, by rw [Hst.out, ← Hs.out, Ha0.out], hb.trans (by repeat' (with_reducible first | exact Later.refl _ | assumption | refine Later.drew ?_ | refine Later.drewN ?_ _ | refine Later.alloc ?_ _ | refine Later.put ?_ (by omega) _ | refine Later.trans ?_ (by assumption)))⟩
      case measure => simp [intOf]; omega
    · have hke : k = polys.length := by omega
      have Hs2 := Lib.hid (show s = areaTot polys by rw [Hs.out, hke, List.take_length])
      go_wp2
      go_ret
      exact ⟨ret_int Hs2.out, hb.trans (by repeat' (with_reducible first | exact Later.refl _ | assumption | refine Later.drew ?_ | refine Later.drewN ?_ _ | refine Later.alloc ?_ _ | refine Later.put ?_ (by omega) _ | refine Later.trans ?_ (by assumption)))⟩
end

end Go.Proofs.Ytpiniflhaokkaaa
