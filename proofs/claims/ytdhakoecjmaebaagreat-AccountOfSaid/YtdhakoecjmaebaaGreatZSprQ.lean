/-
 Facts on a lay that is spread: each ply is cloth of its lot from the beginning to the end of the marker, spliced in zones, no cloth is used twice; the lay passes.
-/
import Derived.Test.YtdhakoecjmaebaaGreatZSprP
namespace Go.Proofs.YtdhakoecjmaebaaGreat
open Go.RowKit
set_option linter.unusedSimpArgs false
set_option linter.unusedVariables false
theorem ext_zero {len : Int} {polys : List (List Pt)} (h : (extentsR len polys).2 = 0) : 1 ≤ len ∧ len ≤ 1048576 ∧ polys.length ≤ 60 ∧ (extGoZ len polys []).2 = 0 ∧ (extentsR len polys).1 = (extGoZ len polys []).1 := by
 unfold extentsR at h ⊢
 split at h
 ·cases h
 ·rename_i h1
  rw [if_neg h1]
  split at h
  ·cases h
  ·rename_i h2
   rw [if_neg h2]
   exact ⟨by omega, by omega, by omega, h, rfl⟩
theorem extGo_zero {len : Int} : ∀ {polys : List (List Pt)} {acc : List Pt}, (extGoZ len polys acc).2 = 0 → (∀ p ∈ polys, checkI p = 0 ∧ 0 ≤ (loOf p).x ∧ (hiOf p).x ≤ len) ∧ (extGoZ len polys acc).1 = acc ++ polys.map fun p => ⟨(loOf p).x, (hiOf p).x⟩ := by
 intro polys
 induction polys with
 | nil => intro acc _; exact ⟨fun p hp => (by cases hp), by simp [extGoZ]⟩
 | cons p l ih =>
  intro acc h
  rw [extGoZ] at h ⊢
  split at h
  ·rename_i h1; exact absurd h h1
  ·rename_i h1
   rw [if_neg h1]
   split at h
   ·cases h
   ·rename_i h2
    rw [if_neg h2]
    obtain ⟨k1, k2⟩ := ih h
    refine ⟨fun q hq => ?_, by rw [k2, List.append_assoc]; rfl⟩
    rcases List.mem_cons.1 hq with rfl | hq
    ·exact ⟨by simpa using h1, by omega, by omega⟩
    ·exact k1 q hq
theorem ext_zones {len : Int} {polys : List (List Pt)} (h : (extentsR len polys).2 = 0) : (extentsR len polys).1 = polys.map (fun p => ⟨(loOf p).x, (hiOf p).x⟩) ∧ ∀ p ∈ polys, checkI p = 0 ∧ 0 ≤ (loOf p).x ∧ (hiOf p).x ≤ len := by
 obtain ⟨_, _, _, h4, h5⟩ := ext_zero h
 obtain ⟨k1, k2⟩ := extGo_zero h4
 exact ⟨by rw [h5, k2]; rfl, k1⟩
theorem backR_of {len : Int} {polys : List (List Pt)} {hi : Int} (h : (extentsR len polys).2 = 0) (h0 : 0 ≤ hi) (h1 : hi ≤ len) : BackR len polys hi = (backR (extentsR len polys).1 hi, 0) := by
 unfold BackR
 rw [if_neg (by simpa using h), if_neg (by omega)]
theorem back_zero {len : Int} {polys : List (List Pt)} {hi : Int} (h : (BackR len polys hi).2 = 0) : (extentsR len polys).2 = 0 ∧ 0 ≤ hi ∧ hi ≤ len ∧ (BackR len polys hi).1 = backR (extentsR len polys).1 hi := by
 unfold BackR at h ⊢
 split at h
 ·rename_i h1; exact absurd h h1
 ·rename_i h1
  rw [if_neg h1]
  split at h
  ·cases h
  ·rename_i h2
   rw [if_neg h2]
   exact ⟨by simpa using h1, by omega, by omega, rfl⟩
theorem best_zero {len : Int} {polys : List (List Pt)} {lo hi : Int} (h : (BestR len polys lo hi).2 = 0) :
  (extentsR len polys).2 = 0 ∧ 0 ≤ lo ∧ lo ≤ hi ∧ hi ≤ len ∧ (BestR len polys lo hi).1.y ≤ hi ∧ (BestR len polys lo hi).1.x = backR (extentsR len polys).1 (BestR len polys lo hi).1.y ∧ lo < (BestR len polys lo hi).1.x := by
 unfold BestR at h ⊢
 split at h
 ·rename_i h1; exact absurd h h1
 ·rename_i h1
  rw [if_neg h1]
  split at h
  ·cases h
  ·rename_i h2
   rw [if_neg h2]
   split at h
   ·rename_i h3
    rw [if_pos h3]
    have := bestGo_spec (extentsR len polys).1 lo hi (endsOf (extentsR len polys).1 hi) (fun _ => False) (false, ⟨0, 0⟩) (.inr ⟨rfl, fun h k => k.elim⟩)
    change ((bestGo (extentsR len polys).1 lo hi (endsOf (extentsR len polys).1 hi)).1 = true ∧ IsBest (extentsR len polys).1 lo hi _ (bestGo (extentsR len polys).1 lo hi (endsOf (extentsR len polys).1 hi)).2) ∨ ((bestGo (extentsR len polys).1 lo hi (endsOf (extentsR len polys).1 hi)).1 = false ∧ _) at this
    rcases this with ⟨_, _, c2, c3, c4, _⟩ | ⟨m1, _⟩
    ·exact ⟨by simpa using h1, by omega, by omega, by omega, c2, c3, c4⟩
    ·rw [m1] at h3; cases h3
   ·cases h
inductive Spliced (zs : List Pt) (len : Int) : Int → List Qd → Prop
 | last {at_ : Int} {p : Qd} : p.d = at_ → p.b < p.c → endQ p = len → Spliced zs len at_ [p]
 | more {at_ at' : Int} {p : Qd} {l : List Qd} : p.d = at_ → p.b < p.c → endQ p < len → at' = backR zs (endQ p) → at_ < at' → Spliced zs len at' l → Spliced zs len at_ (p :: l)
theorem Spliced.ne {zs : List Pt} {len at_ : Int} {l : List Qd} (h : Spliced zs len at_ l) : ∃ p r, l = p :: r ∧ p.d = at_ := by
 cases h with
 | last h1 _ _ => exact ⟨_, _, rfl, h1⟩
 | more h1 _ _ _ _ _ => exact ⟨_, _, rfl, h1⟩
theorem Spliced.mem {zs : List Pt} {len at_ : Int} {l : List Qd} (h : Spliced zs len at_ l) : at_ ≤ len → ∀ p ∈ l, at_ ≤ p.d ∧ p.d < len ∧ endQ p ≤ len ∧ p.b < p.c := by
 induction h with
 | last h1 h2 h3 =>
  intro hl p hp
  rw [List.mem_singleton.1 hp]
  unfold endQ at h3 ⊢
  omega
 | @more at_ at' p l h1 h2 h3 h4 h5 h6 ih =>
  intro hl q hq
  have hb := back_le zs (endQ p)
  rcases List.mem_cons.1 hq with rfl | hq
  ·unfold endQ at h3 ⊢
   omega
  ·have := ih (by omega) q hq
   omega
section
variable (rs : List Rl) (lots : List Int) (k wd : Int)
structure Inv (P left : List Qd) : Prop where
 part : ∀ p ∈ P, clothB p rs = true
 two : NoTwice P
 rem : ∀ r ∈ left, 0 ≤ r.a ∧ r.a < (rs.length : Int) ∧ gL lots r.a.toNat = k ∧ wd ≤ (grl rs r.a.toNat).wd ∧ r.b = k ∧ 0 ≤ r.c ∧ r.c ≤ r.d ∧ r.d = (grl rs r.a.toNat).ln
 dist : left.Pairwise fun r s => r.a ≠ s.a
 far : ∀ r ∈ left, ∀ p ∈ P, p.a = r.a → p.c ≤ r.c
end
variable {rs : List Rl} {lots : List Int} {k wd : Int}
theorem Inv.tail {P left : List Qd} {r : Qd} (h : Inv rs lots k wd P (r :: left)) : Inv rs lots k wd P left :=
 ⟨h.part, h.two, fun s hs => h.rem s (List.mem_cons_of_mem _ hs), (List.pairwise_cons.1 h.dist).2, fun s hs => h.far s (List.mem_cons_of_mem _ hs)⟩
theorem Inv.cut {P left : List Qd} {r p : Qd} {n : Int} (h : Inv rs lots k wd P (r :: left)) (hn : 0 < n) (hm : n ≤ r.d - r.c) (ha : p.a = r.a) (hb : p.b = r.c) (hc : p.c = r.c + n) :
  Inv rs lots k wd (P ++ [p]) (⟨r.a, r.b, r.c + n, r.d⟩ :: left) := by
 have hr := h.rem r (List.mem_cons_self ..)
 have hd := List.pairwise_cons.1 h.dist
 refine ⟨fun q hq => ?_, ?_, fun s hs => ?_, List.pairwise_cons.2 ⟨fun s hs => hd.1 s hs, hd.2⟩, fun s hs q hq => ?_⟩
 ·rcases List.mem_append.1 hq with hq | hq
  ·exact h.part q hq
  ·rw [List.mem_singleton.1 hq]
   unfold clothB
   rw [ha, hb, hc]
   simp only [Bool.and_eq_true, decide_eq_true_eq]
   omega
 ·unfold NoTwice
  rw [List.pairwise_append]
  refine ⟨h.two, List.pairwise_singleton .., fun q hq s hs => ?_⟩
  rw [List.mem_singleton.1 hs]
  rintro ⟨c1, c2, c3⟩
  have := h.far r (List.mem_cons_self ..) q hq (by rw [c1, ha])
  omega
 ·rcases List.mem_cons.1 hs with rfl | hs
  ·exact ⟨hr.1, hr.2.1, hr.2.2.1, hr.2.2.2.1, hr.2.2.2.2.1, by show 0 ≤ r.c + n; omega, by show r.c + n ≤ r.d; omega, hr.2.2.2.2.2.2.2⟩
  ·exact h.rem s (List.mem_cons_of_mem _ hs)
 ·intro hqs
  rcases List.mem_append.1 hq with hq | hq
  ·rcases List.mem_cons.1 hs with rfl | hs
   ·have := h.far r (List.mem_cons_self ..) q hq hqs
    show q.c ≤ r.c + n
    omega
   ·exact h.far s (List.mem_cons_of_mem _ hs) q hq hqs
  ·rw [List.mem_singleton.1 hq] at hqs ⊢
   rcases List.mem_cons.1 hs with rfl | hs
   ·show p.c ≤ r.c + n
    omega
   ·exact absurd (by rw [← ha, hqs]) (hd.1 s hs)
theorem lay_inv {len : Int} {polys : List (List Pt)} : ∀ {left : List Qd} {P : List Qd} {at_ : Int} {x : List Qd × List Qd}, Inv rs lots k wd P left → layR len polys left at_ = some x → 0 ≤ at_ → at_ < len →
  Inv rs lots k wd (P ++ x.1) x.2 ∧ Spliced (extentsR len polys).1 len at_ x.1 ∧ ∀ p ∈ x.1, gL lots p.a.toNat = k ∧ wd ≤ (grl rs p.a.toNat).wd := by
 intro left
 induction left with
 | nil => intro P at_ x _ h; cases h
 | cons r l ih =>
  intro P at_ x hI h h0 h1
  have hr := hI.rem r (List.mem_cons_self ..)
  rw [layR] at h
  split at h
  ·rename_i hs
   cases h
   refine ⟨hI.cut (n := len - at_) (by omega) hs rfl rfl rfl, Spliced.last rfl (by show r.c < r.c + (len - at_); omega) (by unfold endQ; simp only []; omega), fun p hp => ?_⟩
   rw [List.mem_singleton.1 hp]
   exact ⟨hr.2.2.1, hr.2.2.2.1⟩
  ·rename_i hs
   split at h
   ·rename_i hb
    obtain ⟨hb1, hb2⟩ := hb
    obtain ⟨z1, z2, z3, z4, z5, z6, z7⟩ := best_zero hb2
    generalize (BestR len polys at_ (at_ + (r.d - r.c))).1 = z at *
    have hzle := back_le (extentsR len polys).1 z.y
    rw [Option.map_eq_some_iff] at h
    obtain ⟨y, hy, rfl⟩ := h
    have hc := hI.cut (p := ⟨r.a, r.c, r.c + (z.y - at_), at_⟩) (n := z.y - at_) (by omega) (by omega) rfl rfl rfl
    obtain ⟨i1, i2, i3⟩ := ih hc.tail hy (by omega) (by omega)
    have he : endQ ⟨r.a, r.c, r.c + (z.y - at_), at_⟩ = z.y := by unfold endQ; simp only []; omega
    refine ⟨?_, Spliced.more (at' := z.x) rfl (by show r.c < r.c + (z.y - at_); omega) (by rw [he]; omega) (by rw [he]; exact z6) z7 i2, fun p hp => ?_⟩
    ·have : P ++ (⟨r.a, r.c, r.c + (z.y - at_), at_⟩ :: y.1) = (P ++ [⟨r.a, r.c, r.c + (z.y - at_), at_⟩]) ++ y.1 := by simp
     rw [this]
     exact i1
    ·rcases List.mem_cons.1 hp with rfl | hp
     ·exact ⟨hr.2.2.1, hr.2.2.2.1⟩
     ·exact i3 p hp
   ·exact ih hI.tail h h0 h1
theorem pliesN_inv {len : Int} {polys : List (List Pt)} (hl : 1 ≤ len) : ∀ {n : Nat} {left P : List Qd} {ys : List Pl}, Inv rs lots k wd P left → pliesN len polys k n left = some ys →
  ys.length = n ∧ (∃ left', Inv rs lots k wd (P ++ allQ ys) left') ∧ ∀ y ∈ ys, y.1 = k ∧ Spliced (extentsR len polys).1 len 0 y.2 ∧ ∀ p ∈ y.2, gL lots p.a.toNat = k ∧ wd ≤ (grl rs p.a.toNat).wd := by
 intro n
 induction n with
 | zero =>
  intro left P ys hI h
  cases h
  exact ⟨rfl, ⟨left, by simpa [allQ] using hI⟩, fun y hy => by cases hy⟩
 | succ n ih =>
  intro left P ys hI h
  rw [pliesN, Option.bind_eq_some_iff] at h
  obtain ⟨x, hx, h⟩ := h
  rw [Option.map_eq_some_iff] at h
  obtain ⟨r, hr, rfl⟩ := h
  obtain ⟨i1, i2, i3⟩ := lay_inv hI hx (by omega) (by omega)
  obtain ⟨j1, ⟨left', j2⟩, j3⟩ := ih i1 hr
  refine ⟨by rw [List.length_cons, j1], ⟨left', ?_⟩, fun y hy => ?_⟩
  ·have : P ++ allQ ((k, x.1) :: r) = (P ++ x.1) ++ allQ r := by simp [allQ]
   rw [this]
   exact j2
  ·rcases List.mem_cons.1 hy with rfl | hy
   ·exact ⟨rfl, i2, i3⟩
   ·exact j3 y hy
theorem remGo_mem {lot wd : Int} : ∀ {rs : List Rl} {ts : List Int} {i : Nat} {q : Qd}, q ∈ remGo lot wd rs ts i → ∃ j r t, rs[j]? = some r ∧ ts[j]? = some t ∧ t = lot ∧ wd ≤ r.wd ∧ q = ⟨((i + j : Nat) : Int), lot, 0, r.ln⟩ := by
 intro rs
 induction rs with
 | nil => intro ts i q h; simp [remGo] at h
 | cons r rs ih =>
  intro ts i q h
  cases ts with
  | nil => simp [remGo] at h
  | cons t ts =>
   rw [remGo] at h
   have hrec : q ∈ remGo lot wd rs ts (i + 1) → ∃ j r' t', (r :: rs)[j]? = some r' ∧ (t :: ts)[j]? = some t' ∧ t' = lot ∧ wd ≤ r'.wd ∧ q = ⟨((i + j : Nat) : Int), lot, 0, r'.ln⟩ := by
    intro hq
    obtain ⟨j, r', t', h1, h2, h3, h4, h5⟩ := ih hq
    exact ⟨j + 1, r', t', by simpa using h1, by simpa using h2, h3, h4, by rw [h5]; congr 2; omega⟩
   split at h
   ·rename_i hc
    rcases List.mem_cons.1 h with rfl | h
    ·exact ⟨0, r, t, rfl, rfl, hc.1, hc.2, rfl⟩
    ·exact hrec h
   ·exact hrec h
theorem remGo_dist {lot wd : Int} : ∀ {rs : List Rl} {ts : List Int} {i : Nat}, (remGo lot wd rs ts i).Pairwise fun r s => r.a ≠ s.a := by
 intro rs
 induction rs with
 | nil => intro ts i; simp [remGo]
 | cons r rs ih =>
  intro ts i
  cases ts with
  | nil => simp [remGo]
  | cons t ts =>
   rw [remGo]
   split
   ·rw [List.pairwise_cons]
    refine ⟨fun s hs => ?_, ih⟩
    obtain ⟨j, _, _, _, _, _, _, rfl⟩ := remGo_mem hs
    simp only []
    omega
   ·exact ih
theorem rem_inv {P : List Qd} (hln : ∀ r ∈ rs, 0 ≤ r.ln) (h1 : ∀ p ∈ P, clothB p rs = true) (h2 : NoTwice P) (h3 : ∀ p ∈ P, gL lots p.a.toNat ≠ k) : Inv rs lots k wd P (remR rs lots k wd) := by
 have hm : ∀ r ∈ remR rs lots k wd, 0 ≤ r.a ∧ r.a < (rs.length : Int) ∧ gL lots r.a.toNat = k ∧ wd ≤ (grl rs r.a.toNat).wd ∧ r.b = k ∧ 0 ≤ r.c ∧ r.c ≤ r.d ∧ r.d = (grl rs r.a.toNat).ln := by
  intro r hr
  obtain ⟨j, r', t', k1, k2, k3, k4, rfl⟩ := remGo_mem hr
  obtain ⟨j1, e1⟩ := List.getElem?_eq_some_iff.1 k1
  obtain ⟨j2, e2⟩ := List.getElem?_eq_some_iff.1 k2
  have := hln r' (by rw [← e1]; exact List.getElem_mem j1)
  simp only [Nat.zero_add, Int.toNat_natCast]
  rw [grl_eq j1, gL_eq j2, e1, e2]
  refine ⟨by omega, by omega, k3, k4, ?_, by omega, this, ?_⟩ <;> first | trivial | rfl
 refine ⟨h1, h2, hm, remGo_dist, fun r hr p hp e => ?_⟩
 have := hm r hr
 have := h3 p hp
 rw [e] at this
 omega
theorem lots_inv {len : Int} {polys : List (List Pt)} (hl : 1 ≤ len) (hln : ∀ r ∈ rs, 0 ≤ r.ln) : ∀ {pl : List Int} {j : Nat} {P : List Qd} {ys : List Pl}, (∀ p ∈ P, clothB p rs = true) → NoTwice P → (∀ p ∈ P, gL lots p.a.toNat < (j : Int)) → lotsGo len wd polys rs lots pl j = some ys →
  NoTwice (P ++ allQ ys) ∧ (ys.length : Int) = (pl.map fun n => (n.toNat : Int)).sum ∧ ∀ y ∈ ys, Spliced (extentsR len polys).1 len 0 y.2 ∧ ∀ p ∈ y.2, clothB p rs = true ∧ gL lots p.a.toNat = y.1 ∧ wd ≤ (grl rs p.a.toNat).wd := by
 intro pl
 induction pl with
 | nil =>
  intro j P ys h1 h2 h3 h
  cases h
  exact ⟨by simpa [allQ] using h2, rfl, fun y hy => by cases hy⟩
 | cons n pl ih =>
  intro j P ys h1 h2 h3 h
  rw [lotsGo, Option.bind_eq_some_iff] at h
  obtain ⟨x, hx, h⟩ := h
  rw [Option.map_eq_some_iff] at h
  obtain ⟨r, hr, rfl⟩ := h
  have hI := rem_inv (lots := lots) (wd := wd) (k := (j : Int)) hln h1 h2 (fun p hp => by have := h3 p hp; omega)
  obtain ⟨i1, ⟨left', i2⟩, i3⟩ := pliesN_inv hl hI hx
  have hmem : ∀ p ∈ allQ x, gL lots p.a.toNat = (j : Int) := by
   intro p hp
   obtain ⟨y, hy, hp⟩ := List.mem_flatMap.1 hp
   exact ((i3 y hy).2.2 p hp).1
  obtain ⟨j1, j2, j3⟩ := ih (j := j + 1) (P := P ++ allQ x) i2.part i2.two (fun p hp => by
   rcases List.mem_append.1 hp with hp | hp
   ·have := h3 p hp; omega
   ·have := hmem p hp; omega) hr
  have e : P ++ allQ (x ++ r) = (P ++ allQ x) ++ allQ r := by simp [allQ]
  refine ⟨by rw [e]; exact j1, by rw [List.length_append, List.map_cons, List.sum_cons, i1]; omega, fun y hy => ?_⟩
  rcases List.mem_append.1 hy with hy | hy
  ·obtain ⟨c1, c2, c3⟩ := i3 y hy
   refine ⟨c2, fun p hp => ⟨i2.part p ?_, by rw [c1]; exact (c3 p hp).1, (c3 p hp).2⟩⟩
   exact List.mem_append.2 (.inr (List.mem_flatMap.2 ⟨y, hy, hp⟩))
  ·exact j3 y hy
theorem plies_sum : ∀ {pl : List Int} {s : Int}, 0 ≤ s → s ≤ 40 → pliesGo s pl = 0 → (∀ n ∈ pl, 0 ≤ n) ∧ s + (pl.map fun n => (n.toNat : Int)).sum ≤ 40 := by
 intro pl
 induction pl with
 | nil => intro s h0 h1 _; exact ⟨fun n hn => (by cases hn), by simpa using h1⟩
 | cons n pl ih =>
  intro s h0 h1 h
  rw [pliesGo] at h
  split at h
  ·cases h
  ·rename_i hc
   obtain ⟨k1, k2⟩ := ih (s := s + n) (by omega) (by omega) h
   refine ⟨fun m hm => ?_, by rw [List.map_cons, List.sum_cons]; omega⟩
   rcases List.mem_cons.1 hm with rfl | hm
   ·omega
   ·exact k1 m hm
theorem cloth_zero {len wd : Int} {polys : List (List Pt)} {rs : List Rl} {nl : Nat} (h : chkClothR len wd polys rs nl = 0) :
  (extentsR len polys).2 = 0 ∧ chkRollsR rs nl = 0 ∧ 1 ≤ wd ∧ wd ≤ 1048576 := by
 unfold chkClothR at h
 split at h
 ·rename_i h1; exact absurd h h1
 ·rename_i h1
  split at h
  ·rename_i h2; exact absurd h h2
  ·rename_i h2
   split at h
   ·cases h
   ·exact ⟨(back_zero (by simpa using h1)).1, by simpa using h2, by omega, by omega⟩
theorem chkRolls_zero {rs : List Rl} {nl : Nat} (h : chkRollsR rs nl = 0) : rs.length ≤ 20 ∧ (∀ r ∈ rs, rollI r = 0) ∧ nl = rs.length := by
 unfold chkRollsR at h
 split at h
 ·cases h
 ·split at h
  ·rename_i h2; exact absurd h h2
  ·rename_i h2
   split at h
   ·cases h
   ·exact ⟨by omega, rolls_all.1 (by simpa using h2), by omega⟩
theorem chkPlies_zero {lots plies : List Int} (h : chkPliesR lots plies = 0) : pliesGo 0 plies = 0 := by
 unfold chkPliesR at h
 split at h
 ·cases h
 ·exact h
theorem good_ply {len wd : Int} {polys : List (List Pt)} {rs : List Rl} {lots : List Int} {lot : Int} (he : (extentsR len polys).2 = 0) : ∀ {l : List Qd} {at_ : Int} {prev : Option Qd}, Spliced (extentsR len polys).1 len at_ l → 0 ≤ at_ → at_ ≤ len →
  (∀ p ∈ l, clothB p rs = true ∧ gL lots p.a.toNat = lot ∧ wd ≤ (grl rs p.a.toNat).wd) →
  (match prev with | none => at_ = 0 | some q => q.d < at_ ∧ at_ = backR (extentsR len polys).1 (endQ q) ∧ endQ q ≤ len) → plyGo len wd polys rs lots lot prev l = 0 := by
 intro l
 induction l with
 | nil => intro at_ prev h; cases h
 | cons p l ih =>
  intro at_ prev hG h0 hle hp hprev
  have hm := hG.mem hle p (List.mem_cons_self ..)
  obtain ⟨p1, p2, p3⟩ := hp p (List.mem_cons_self ..)
  have hd : p.d = at_ := by obtain ⟨_, _, e, h⟩ := hG.ne; cases e; exact h
  have hpe : partErr len wd polys rs lots lot prev p = 0 := by
   unfold partErr
   rw [if_neg (by rw [p1]; simp; omega), if_neg (by simpa using p2), if_neg (by omega)]
   cases prev with
   | none => simp only [] at hprev ⊢; rw [if_neg (by omega)]
   | some q =>
    simp only [] at hprev ⊢
    have hb := back_le (extentsR len polys).1 (endQ q)
    have hj : joinsB len polys q p = true := by
     unfold joinsB
     rw [if_neg (by omega), backR_of he (by omega) hprev.2.2]
     simp
     omega
    rw [if_pos hj]
  have hgo : plyGo len wd polys rs lots lot prev (p :: l) = plyGo len wd polys rs lots lot (some p) l := by
   cases prev <;> rw [plyGo, if_neg (by simpa using hpe)]
  rw [hgo]
  cases hG with
  | last h1 h2 h3 => rw [plyGo, if_neg (by simpa using h3)]
  | @more _ at' _ _ h1 h2 h3 h4 h5 h6 =>
   have hb := back_le (extentsR len polys).1 (endQ p)
   exact ih (at_ := at') (prev := some p) h6 (by omega) (by omega) (fun q hq => hp q (List.mem_cons_of_mem _ hq)) ⟨by omega, h4, by omega⟩
structure LaidOk (len wd : Int) (polys : List (List Pt)) (rs : List Rl) (lots plies : List Int) (ys : List Pl) : Prop where
 ext : (extentsR len polys).2 = 0
 len1 : 1 ≤ len ∧ len ≤ 1048576
 rolls : chkRollsR rs lots.length = 0
 num : ys.length ≤ 40
 sum : (ys.length : Int) = (plies.map fun n => (n.toNat : Int)).sum
 good : ∀ y ∈ ys, Spliced (extentsR len polys).1 len 0 y.2 ∧ ∀ p ∈ y.2, clothB p rs = true ∧ gL lots p.a.toNat = y.1 ∧ wd ≤ (grl rs p.a.toNat).wd
 two : NoTwice (allQ ys)
 check : scheckR len wd polys rs lots ys = 0
 rests : restsR rs lots ys = (restsFrom (allQ ys) rs lots 0, 0)
theorem rests_of {rs : List Rl} {lots : List Int} {ys : List Pl} (h1 : chkRollsR rs lots.length = 0) (h2 : ys.length ≤ 40) (h3 : ∀ p ∈ allQ ys, clothB p rs = true) (h4 : NoTwice (allQ ys)) : restsR rs lots ys = (restsFrom (allQ ys) rs lots 0, 0) := by
 unfold restsR
 rw [if_neg (by simpa using h1), if_neg (by omega), if_neg (by simpa using h3), if_pos h4]
theorem lots_ok {len wd : Int} {polys : List (List Pt)} {rs : List Rl} {lots plies : List Int} {ys : List Pl} (hc : chkClothR len wd polys rs lots.length = 0) (hp : chkPliesR lots plies = 0) (h : lotsGo len wd polys rs lots plies 0 = some ys) : LaidOk len wd polys rs lots plies ys := by
 obtain ⟨c1, c2, c3, c4⟩ := cloth_zero hc
 obtain ⟨e1, e2, _, _, _⟩ := ext_zero c1
 obtain ⟨r1, r2, r3⟩ := chkRolls_zero c2
 obtain ⟨s1, s2⟩ := plies_sum (by omega) (by omega) (chkPlies_zero hp)
 obtain ⟨g1, g2, g3⟩ := lots_inv (wd := wd) (P := []) (by omega) (fun r hr => by have := (roll_ok (r2 r hr)).2.2.2.1; omega) (fun p hp => by cases hp) List.Pairwise.nil (fun p hp => by cases hp) h
 rw [List.nil_append] at g1
 have hnum : ys.length ≤ 40 := by omega
 have hcl : ∀ p ∈ allQ ys, clothB p rs = true := by
  intro p hp
  obtain ⟨y, hy, hp⟩ := List.mem_flatMap.1 hp
  exact ((g3 y hy).2 p hp).1
 refine ⟨c1, ⟨e1, e2⟩, c2, hnum, g2, g3, g1, ?_, rests_of c2 hnum hcl g1⟩
 have hpz : plysErr len wd polys rs lots ys = 0 := plys_all.2 fun y hy => good_ply c1 (g3 y hy).1 (by omega) (by omega) (g3 y hy).2 rfl
 unfold scheckR
 rw [if_neg (by simpa using hc), if_neg (by omega), if_neg (by simpa using hpz), if_pos g1]
theorem spread_ok {len wd : Int} {polys : List (List Pt)} {rs : List Rl} {lots plies : List Int} (h : (spreadR len wd polys rs lots plies).2.2 = 0) :
  chkClothR len wd polys rs lots.length = 0 ∧ chkPliesR lots plies = 0 ∧ ∃ ys, lotsGo len wd polys rs lots plies 0 = some ys ∧ LaidOk len wd polys rs lots plies ys ∧ spreadR len wd polys rs lots plies = (ys, restsFrom (allQ ys) rs lots 0, 0) := by
 unfold spreadR at h ⊢
 split at h
 ·rename_i h1; exact absurd h h1
 ·rename_i h1
  rw [if_neg h1]
  split at h
  ·rename_i h2; exact absurd h h2
  ·rename_i h2
   rw [if_neg h2]
   refine ⟨by simpa using h1, by simpa using h2, ?_⟩
   cases hl : lotsGo len wd polys rs lots plies 0 with
   | none => rw [hl] at h; cases h
   | some ys =>
    have hk := lots_ok (by simpa using h1) (by simpa using h2) hl
    exact ⟨ys, rfl, hk, by simp only []; rw [hk.rests]; rfl⟩
end Go.Proofs.YtdhakoecjmaebaaGreat
