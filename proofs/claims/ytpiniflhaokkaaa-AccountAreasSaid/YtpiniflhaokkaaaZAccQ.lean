/-
  Plain facts on accounts: what is taken covers the marker, nothing is negative, the order of the plies, each ply alone, what is used and left of each roll.
-/
import Derived.Test.YtpiniflhaokkaaaZGeoC
import Derived.Test.YtpiniflhaokkaaaZTurnP
namespace Go.Proofs.Ytpiniflhaokkaaa
open Go.RowKit
set_option linter.unusedSimpArgs false
set_option linter.unusedVariables false

/- Covering. -/
theorem part_zero {len wd : Int} {polys : List (List Pt)} {rs : List Rl} {lots : List Int} {lot : Int} {prev : Option Qd} {p : Qd} (h : partErr len wd polys rs lots lot prev p = 0) :
    clothB p rs = true ∧ 0 ≤ p.d ∧ p.d ≤ len ∧ gL lots p.a.toNat = lot ∧ wd ≤ (grl rs p.a.toNat).wd ∧ (match prev with | none => p.d = 0 | some q => q.d < p.d ∧ p.d ≤ endQ q) := by
  unfold partErr at h
  split at h
  · cases h
  · rename_i h1
    split at h
    · cases h
    · rename_i h2
      split at h
      · cases h
      · rename_i h3
        refine ⟨by rcases hc : clothB p rs with _ | _ <;> simp_all, by omega, by omega, by simpa using h2, by omega, ?_⟩
        cases prev with
        | none =>
          simp only [] at h ⊢
          split at h
          · cases h
          · omega
        | some q =>
          simp only [] at h ⊢
          split at h
          · rename_i hj
            unfold joinsB at hj
            split at hj
            · cases hj
            · omega
          · cases h
theorem cloth_lt {p : Qd} {rs : List Rl} (h : clothB p rs = true) : p.b < p.c := by
  unfold clothB at h
  simp only [Bool.and_eq_true, decide_eq_true_eq] at h
  exact h.2.2.2.1
theorem tknQ_cons (rs : List Rl) (p : Qd) (l : List Qd) : tknQ rs (p :: l) = 2 * (p.c - p.b) * wdOf rs p + tknQ rs l := by simp [tknQ]
theorem cover_go {len wd : Int} {polys : List (List Pt)} {rs : List Rl} {lots : List Int} {lot : Int} (hwd : 0 ≤ wd) : ∀ {l : List Qd} {p : Qd}, plyGo len wd polys rs lots lot (some p) l = 0 → p.b < p.c → wd ≤ wdOf rs p →
    0 ≤ dblGo rs p l ∧ 2 * (len - p.d) * wd ≤ tknQ rs (p :: l) - dblGo rs p l := by
  intro l
  induction l with
  | nil =>
    intro p h hp hw
    rw [plyGo] at h
    split at h
    · cases h
    · rename_i hn
      refine ⟨Int.le_refl _, ?_⟩
      rw [tknQ_cons, dblGo]
      have e : len - p.d = p.c - p.b := by unfold endQ at hn; omega
      rw [e]
      have := Int.mul_le_mul_of_nonneg_left hw (show 0 ≤ 2 * (p.c - p.b) by omega)
      have e2 : tknQ rs [] = 0 := rfl
      omega
  | cons q l ih =>
    intro p h hp hw
    rcases Classical.em (partErr len wd polys rs lots lot (some p) q = 0) with k | k
    · rw [ply_ok k] at h
      obtain ⟨k1, k2, k3, k4, k5, k6⟩ := part_zero k
      simp only [] at k6
      obtain ⟨i1, i2⟩ := ih h (cloth_lt k1) k5
      have a1 : 2 * (p.c - p.b) * wdOf rs p = 2 * (endQ p - q.d) * wdOf rs p + 2 * (q.d - p.d) * wdOf rs p := by unfold endQ; grind
      have a2 := Int.mul_le_mul_of_nonneg_left hw (show 0 ≤ 2 * (q.d - p.d) by omega)
      have a3 : 2 * (len - p.d) * wd = 2 * (q.d - p.d) * wd + 2 * (len - q.d) * wd := by grind
      have a4 : 0 ≤ 2 * (endQ p - q.d) * wdOf rs p := Int.mul_nonneg (by omega) (by omega)
      rw [tknQ_cons, dblGo]
      omega
    · rw [ply_bad k] at h
      exact absurd h k
theorem ply_cover {len wd : Int} {polys : List (List Pt)} {rs : List Rl} {lots : List Int} {y : Pl} (hwd : 0 ≤ wd) (h : plyR len wd polys rs lots y = 0) : 0 ≤ dblQ rs y.2 ∧ 2 * len * wd ≤ tknQ rs y.2 - dblQ rs y.2 := by
  obtain ⟨lot, l⟩ := y
  unfold plyR at h
  simp only [] at h ⊢
  cases l with
  | nil => cases h
  | cons p l =>
    rcases Classical.em (partErr len wd polys rs lots lot none p = 0) with k | k
    · rw [ply_ok k] at h
      obtain ⟨k1, k2, k3, k4, k5, k6⟩ := part_zero k
      simp only [] at k6
      have := cover_go hwd h (cloth_lt k1) k5
      rw [k6, Int.sub_zero] at this
      exact this
    · rw [ply_bad k] at h
      exact absurd h k
theorem all_cover {len wd : Int} {polys : List (List Pt)} {rs : List Rl} {lots : List Int} (hwd : 0 ≤ wd) : ∀ {ys : List Py}, (∀ y ∈ ys, plyR len wd polys rs lots y.pl = 0) → 0 ≤ dblA rs ys ∧ 2 * len * wd * (ys.length : Int) ≤ tknA rs ys - dblA rs ys := by
  intro ys
  induction ys with
  | nil => intro _; simp [dblA, tknA]
  | cons y ys ih =>
    intro h
    obtain ⟨i1, i2⟩ := ih (fun z hz => h z (List.mem_cons_of_mem _ hz))
    obtain ⟨j1, j2⟩ := ply_cover hwd (h y (List.mem_cons_self ..))
    have e1 : dblA rs (y :: ys) = dblQ rs y.parts + dblA rs ys := by simp [dblA]
    have e2 : tknA rs (y :: ys) = tknQ rs y.parts + tknA rs ys := by simp [tknA]
    have e3 : 2 * len * wd * ((y :: ys).length : Int) = 2 * len * wd + 2 * len * wd * (ys.length : Int) := by rw [List.length_cons]; grind
    have e4 : y.pl.2 = y.parts := rfl
    rw [e4] at j1 j2
    omega

/- Pieces. -/
theorem hitA_cons (b : Bool) (rs : List Rl) (polys : List (List Pt)) (y : Py) (ys : List Py) : hitA b rs polys (y :: ys) = sumHit b polys (hitRow rs polys y) + hitA b rs polys ys := by simp [hitA]
theorem hitA_both (rs : List Rl) (polys : List (List Pt)) : ∀ (ys : List Py), hitA false rs polys ys + hitA true rs polys ys = areaTot polys * (ys.length : Int) := by
  intro ys
  induction ys with
  | nil => simp [hitA]
  | cons y ys ih =>
    have h := sumHit_both (ps := polys) (r := hitRow rs polys y) (by simp [hitRow])
    have e3 : areaTot polys * ((y :: ys).length : Int) = areaTot polys + areaTot polys * (ys.length : Int) := by rw [List.length_cons]; grind
    rw [hitA_cons, hitA_cons]
    omega
theorem hitA_pos (b : Bool) (rs : List Rl) (polys : List (List Pt)) : ∀ (ys : List Py), 0 ≤ hitA b rs polys ys := by
  intro ys
  induction ys with
  | nil => exact Int.le_refl _
  | cons y ys ih =>
    have := sumHit_pos b polys (hitRow rs polys y)
    rw [hitA_cons]
    omega
theorem box_in (ps : List Pt) : ∀ p ∈ ps, (loOf ps).x ≤ p.x ∧ p.x ≤ (hiOf ps).x ∧ (loOf ps).y ≤ p.y ∧ p.y ≤ (hiOf ps).y := by
  have hl : ∀ (l : List Pt) (a : Pt), ((l.foldl loP a).x ≤ a.x ∧ (l.foldl loP a).y ≤ a.y) ∧ ∀ p ∈ l, (l.foldl loP a).x ≤ p.x ∧ (l.foldl loP a).y ≤ p.y := by
    intro l
    induction l with
    | nil => intro a; exact ⟨⟨Int.le_refl _, Int.le_refl _⟩, fun p hp => (by cases hp)⟩
    | cons b l ih =>
      intro a
      obtain ⟨i1, i2⟩ := ih (loP a b)
      have hx : (loP a b).x ≤ a.x ∧ (loP a b).x ≤ b.x ∧ (loP a b).y ≤ a.y ∧ (loP a b).y ≤ b.y := by unfold loP; simp only []; omega
      rw [List.foldl_cons]
      refine ⟨by omega, fun p hp => ?_⟩
      rcases List.mem_cons.1 hp with rfl | hp
      · omega
      · exact i2 p hp
  have hh : ∀ (l : List Pt) (a : Pt), (a.x ≤ (l.foldl hiP a).x ∧ a.y ≤ (l.foldl hiP a).y) ∧ ∀ p ∈ l, p.x ≤ (l.foldl hiP a).x ∧ p.y ≤ (l.foldl hiP a).y := by
    intro l
    induction l with
    | nil => intro a; exact ⟨⟨Int.le_refl _, Int.le_refl _⟩, fun p hp => (by cases hp)⟩
    | cons b l ih =>
      intro a
      obtain ⟨i1, i2⟩ := ih (hiP a b)
      have hx : a.x ≤ (hiP a b).x ∧ b.x ≤ (hiP a b).x ∧ a.y ≤ (hiP a b).y ∧ b.y ≤ (hiP a b).y := by unfold hiP; simp only []; omega
      rw [List.foldl_cons]
      refine ⟨by omega, fun p hp => ?_⟩
      rcases List.mem_cons.1 hp with rfl | hp
      · omega
      · exact i2 p hp
  intro p hp
  have h1 := (hl ps (ps.getD 0 ⟨0, 0⟩)).2 p hp
  have h2 := (hh ps (ps.getD 0 ⟨0, 0⟩)).2 p hp
  exact ⟨h1.1, h2.1, h1.2, h2.2⟩
/-- The areas of polygons beside each other on the marker fit on it. -/
theorem areas_cover {len wd : Int} {polys : List (List Pt)} {rs : List Rl} {lots : List Int} {ys : List Pl} (h1 : scheckR len wd polys rs lots ys = 0) (h2 : ckPolysR polys wd = 0) : areaTot polys ≤ 2 * len * wd := by
  obtain ⟨hc, _, _, _⟩ := scheck_zero h1
  obtain ⟨c1, c2, c3, c4⟩ := cloth_zero hc
  obtain ⟨e1, e2⟩ := ext_zones c1
  obtain ⟨l1, l2, _⟩ := ext_zero c1
  obtain ⟨k1, k2⟩ := ckPolys_zero h2
  have := areas_fit (pss := polys) (L := len) (W := wd) (by omega) (by omega) (fun p hp => (e2 p hp).1) (fun l hl p hp => by
    have b := box_in l p hp
    have a1 := e2 l hl
    have a2 := k1 l hl
    omega) k2
  have e : areaTot polys = areaSum polys := rfl
  rw [e, Int.mul_assoc]
  exact this

/-- An account that is given has no error, and is that of the plies. -/
theorem acc_zero {len wd : Int} {polys : List (List Pt)} {rs : List Rl} {lots : List Int} {ys : List Py} (h : (accR len wd polys rs lots ys).2 = 0) :
    accR len wd polys rs lots ys = (balR rs polys ys, 0) ∧ scheckR len wd polys rs lots (ys.map Py.pl) = 0 ∧ ckPolysR polys wd = 0 := by
  unfold accR at h ⊢
  split at h
  · rename_i h0
    rw [if_pos h0]
    unfold accE at h0
    split at h0
    · rename_i h1; exact absurd h0 h1
    · rename_i h1; exact ⟨rfl, Classical.byContradiction h1, h0⟩
  · rename_i h0; exact absurd h h0
theorem acc_of {len wd : Int} {polys : List (List Pt)} {rs : List Rl} {lots : List Int} {ys : List Py} (h1 : scheckR len wd polys rs lots (ys.map Py.pl) = 0) (h2 : ckPolysR polys wd = 0) : accR len wd polys rs lots ys = (balR rs polys ys, 0) := by
  have : accE len wd polys rs lots ys = 0 := by unfold accE; rw [if_neg (by simpa using h1)]; exact h2
  unfold accR
  rw [if_pos this]
/-- AccountBalances and AccountCovers, in words. -/
theorem bal_pos {len wd : Int} {polys : List (List Pt)} {rs : List Rl} {lots : List Int} {ys : List Py} (h1 : scheckR len wd polys rs lots (ys.map Py.pl) = 0) (h2 : ckPolysR polys wd = 0) :
    0 ≤ (balR rs polys ys).p ∧ 0 ≤ (balR rs polys ys).d ∧ 0 ≤ (balR rs polys ys).s ∧ 0 ≤ (balR rs polys ys).w ∧ 2 * len * wd * (ys.length : Int) ≤ (balR rs polys ys).t - (balR rs polys ys).s := by
  obtain ⟨a, b, c, d⟩ := scheck_iff.1 h1
  obtain ⟨c1, c2, c3, c4⟩ := cloth_zero a
  obtain ⟨k1, k2⟩ := all_cover (len := len) (wd := wd) (polys := polys) (rs := rs) (lots := lots) (ys := ys) (by omega) (fun y hy => c y.pl (List.mem_map_of_mem hy))
  have k3 := areas_cover h1 h2
  have k4 := hitA_both rs polys ys
  have k5 := Int.mul_le_mul_of_nonneg_right k3 (show 0 ≤ (ys.length : Int) by omega)
  refine ⟨hitA_pos _ _ _ _, hitA_pos _ _ _ _, k1, ?_, k2⟩
  unfold balR
  simp only []
  omega

/- The order of the plies. -/
theorem sum_rev : ∀ (l : List Int), l.reverse.sum = l.sum := by
  intro l
  induction l with
  | nil => rfl
  | cons a l ih => rw [List.reverse_cons, List.sum_append, ih]; simp; omega
theorem bal_rev (rs : List Rl) (polys : List (List Pt)) (ys : List Py) : balR rs polys ys.reverse = balR rs polys ys := by
  unfold balR tknA dblA hitA
  simp only [List.map_reverse, sum_rev]
theorem check_rev {len wd : Int} {polys : List (List Pt)} {rs : List Rl} {lots : List Int} {ys : List Pl} : scheckR len wd polys rs lots ys.reverse = 0 ↔ scheckR len wd polys rs lots ys = 0 := by
  rw [scheck_iff, scheck_iff, List.length_reverse]
  have hp : NoTwice (allQ ys.reverse) ↔ NoTwice (allQ ys) := noTwice_perm ((List.reverse_perm ys).flatMap_right _)
  rw [hp]
  simp only [List.mem_reverse]
theorem acc_rev {len wd : Int} {polys : List (List Pt)} {rs : List Rl} {lots : List Int} {ys : List Py} : (accR len wd polys rs lots ys.reverse).1 = (accR len wd polys rs lots ys).1 ∧ ((accR len wd polys rs lots ys.reverse).2 = 0 ↔ (accR len wd polys rs lots ys).2 = 0) := by
  have h : accE len wd polys rs lots ys.reverse = 0 ↔ accE len wd polys rs lots ys = 0 := by
    have hc : scheckR len wd polys rs lots (ys.reverse.map Py.pl) = 0 ↔ scheckR len wd polys rs lots (ys.map Py.pl) = 0 := by rw [List.map_reverse]; exact check_rev
    unfold accE
    by_cases h1 : scheckR len wd polys rs lots (ys.map Py.pl) = 0
    · rw [if_neg (by simpa using hc.2 h1), if_neg (by simpa using h1)]
    · rw [if_pos h1, if_pos (fun e => h1 (hc.1 e))]
      exact hc
  unfold accR
  by_cases h1 : accE len wd polys rs lots ys = 0
  · rw [if_pos h1, if_pos (h.2 h1)]
    exact ⟨bal_rev _ _ _, Iff.rfl⟩
  · rw [if_neg h1, if_neg (fun e => h1 (h.1 e))]
    exact ⟨rfl, h⟩

/- Each ply alone. -/
def balAdd (a b : Bal) : Bal := ⟨a.t + b.t, a.p + b.p, a.d + b.d, a.w + b.w, a.s + b.s⟩
theorem bal_app (rs : List Rl) (polys : List (List Pt)) (a b : List Py) : balR rs polys (a ++ b) = balAdd (balR rs polys a) (balR rs polys b) := by
  refine Bal.ext' ?_ ?_ ?_ ?_ ?_ <;> simp [balR, balAdd, tknA, dblA, hitA] <;> omega
theorem check_one {len wd : Int} {polys : List (List Pt)} {rs : List Rl} {lots : List Int} {ys : List Pl} (h : scheckR len wd polys rs lots ys = 0) {y : Pl} (hy : y ∈ ys) : scheckR len wd polys rs lots [y] = 0 := by
  obtain ⟨a, b, c, d⟩ := scheck_iff.1 h
  refine scheck_iff.2 ⟨a, by simp, fun z hz => by rw [List.mem_singleton.1 hz]; exact c y hy, ?_⟩
  have e : allQ [y] = y.2 := by simp [allQ]
  rw [e]
  obtain ⟨s, t, rfl⟩ := List.append_of_mem hy
  have : allQ (s ++ y :: t) = allQ s ++ (y.2 ++ allQ t) := by simp [allQ]
  rw [this] at d
  exact ((List.pairwise_append.1 d).2.1.sublist (List.sublist_append_left _ _))

/- What is used and what is left of each roll. -/
def usedR (n : Nat) (parts : List Qd) : List Int := (List.range n).map fun (i : Nat) => lenZ (zonesOf (i : Int) parts)
theorem used_len (n : Nat) (parts : List Qd) : (usedR n parts).length = n := by simp [usedR]
theorem used_at {n : Nat} {parts : List Qd} {i : Nat} (h : i < n) : (usedR n parts)[i]'(by rw [used_len]; exact h) = lenZ (zonesOf (i : Int) parts) := by simp [usedR]
theorem used_snoc {n : Nat} {parts : List Qd} {p : Qd} (h0 : 0 ≤ p.a) (h : p.a < (n : Int)) : usedR n (parts ++ [p]) = (usedR n parts).set p.a.toNat ((usedR n parts)[p.a.toNat]'(by rw [used_len]; omega) + (p.c - p.b)) := by
  refine List.ext_getElem (by simp [used_len]) fun i h1 h2 => ?_
  rw [used_len] at h1
  rw [used_at h1, List.getElem_set, zones_append, zones_cons]
  have ez : zonesOf (i : Int) [] = [] := rfl
  have ea : ∀ a b : List Pt, lenZ (a ++ b) = lenZ a + lenZ b := by intro a b; simp [lenZ]
  by_cases he : p.a.toNat = i
  · rw [if_pos he, if_pos (by omega), used_at (by omega), ez, ea]
    subst he
    rw [show ((p.a.toNat : Nat) : Int) = p.a by omega]
    simp [lenZ]
  · rw [if_neg he, if_neg (by omega), ez, used_at h1, ea]
    simp [lenZ]
theorem used_nil (n : Nat) : usedR n [] = List.replicate n 0 := by
  refine List.ext_getElem (by simp [used_len]) fun i h1 h2 => ?_
  rw [used_len] at h1
  rw [used_at h1, List.getElem_replicate]
  rfl
theorem zones_rest_eq {i : Int} {l : List Qd} (h : ∀ q ∈ l, q.a = i) : lenZ (zonesOf i (l.map restPart)) = lenR l := by
  induction l with
  | nil => rfl
  | cons q l ih =>
    have h1 := h q (List.mem_cons_self ..)
    rw [List.map_cons, zones_cons, if_pos (show (restPart q).a = i from h1), List.singleton_append, lenZ_cons, ih (fun z hz => h z (List.mem_cons_of_mem _ hz))]
    simp [lenR, restPart]
theorem zones_rest_ne {i : Int} {l : List Qd} (h : ∀ q ∈ l, q.a ≠ i) : zonesOf i (l.map restPart) = [] := by
  induction l with
  | nil => rfl
  | cons q l ih =>
    have h1 := h q (List.mem_cons_self ..)
    rw [List.map_cons, zones_cons, if_neg (show ¬ (restPart q).a = i from h1), ih (fun z hz => h z (List.mem_cons_of_mem _ hz))]
    rfl
theorem rests_roll {parts : List Qd} : ∀ {rs : List Rl} {ts : List Int} {i : Nat}, ts.length = rs.length →
    (∀ j (hj : j < rs.length), 0 ≤ rs[j].ln ∧ Disj (zonesOf ((i + j : Nat) : Int) parts) ∧ ∀ z ∈ zonesOf ((i + j : Nat) : Int) parts, 0 ≤ z.x ∧ z.x < z.y ∧ z.y ≤ (rs[j]).ln) →
    ∀ j (hj : j < rs.length), lenZ (zonesOf ((i + j : Nat) : Int) parts) + lenZ (zonesOf ((i + j : Nat) : Int) ((restsFrom parts rs ts i).map restPart)) = rs[j].ln := by
  intro rs
  induction rs with
  | nil => intro ts i _ _ j hj; simp at hj
  | cons r rs ih =>
    intro ts i hl h j hj
    cases ts with
    | nil => simp at hl
    | cons t ts =>
      have ht := fun j (hj : j < rs.length) => (by
        have := h (j + 1) (by simpa using hj)
        rw [show i + (j + 1) = i + 1 + j by omega] at this
        simpa using this : 0 ≤ rs[j].ln ∧ Disj (zonesOf ((i + 1 + j : Nat) : Int) parts) ∧ ∀ z ∈ zonesOf ((i + 1 + j : Nat) : Int) parts, 0 ≤ z.x ∧ z.x < z.y ∧ z.y ≤ (rs[j]).ln)
      obtain ⟨m1, m2, m3⟩ := restsFrom_spec (parts := parts) (rs := rs) (ts := ts) (i := i + 1) (by simpa using hl) ht
      have IH := ih (ts := ts) (i := i + 1) (by simpa using hl) ht
      obtain ⟨a1, a2, a3⟩ := h 0 (by simp)
      simp only [Nat.add_zero, List.getElem_cons_zero] at a1 a2 a3
      have hperm := sortZ_perm (zonesOf (i : Int) parts)
      have hm : ∀ z ∈ sortZ (zonesOf (i : Int) parts), 0 ≤ z.x ∧ z.x < z.y ∧ z.y ≤ r.ln := fun z hz => a3 z (hperm.subset hz)
      have hap : Apt (sortZ (zonesOf (i : Int) parts)) := (apt_disj (fun z hz => (hm z hz).2.1) (sortZ_sorted _)).1 (disj_perm hperm.symm a2)
      obtain ⟨k1, k2, k3⟩ := restGo_spec (i := (i : Int)) (lot := t) a1 hap hm
      rw [restsFrom, List.map_append, zones_append]
      have ea : ∀ a b : List Pt, lenZ (a ++ b) = lenZ a + lenZ b := by intro a b; simp [lenZ]
      rw [ea]
      cases j with
      | zero =>
        rw [Nat.add_zero, zones_rest_eq (fun q hq => (k1 q hq).1), zones_rest_ne (i := (i : Int)) (fun q hq => by obtain ⟨j, _, _, c1, _⟩ := m1 q hq; omega)]
        have e2 := lenZ_perm hperm
        have e3 : lenZ [] = 0 := rfl
        rw [List.getElem_cons_zero]
        omega
      | succ j =>
        have := IH j (by simpa using hj)
        rw [zones_rest_ne (i := ((i + (j + 1) : Nat) : Int)) (fun q hq => by have := (k1 q hq).1; omega), show i + (j + 1) = i + 1 + j by omega]
        have e3 : lenZ [] = 0 := rfl
        rw [List.getElem_cons_succ]
        omega
/-- What is used and what is left of each roll is the roll. -/
theorem used_all {rs : List Rl} {lots : List Int} {parts : List Qd} (hl : lots.length = rs.length) (hp : ∀ p ∈ parts, clothB p rs = true) (h2 : NoTwice parts) (hln : ∀ r ∈ rs, 0 ≤ r.ln) :
    usedR rs.length (parts ++ (restsFrom parts rs lots 0).map restPart) = rs.map (·.ln) := by
  have hcl : ∀ p ∈ parts, 0 ≤ p.a ∧ p.a < (rs.length : Int) ∧ 0 ≤ p.b ∧ p.b < p.c ∧ p.c ≤ (grl rs p.a.toNat).ln := fun p hq => by
    have h := hp p hq
    unfold clothB at h
    simp only [Bool.and_eq_true, decide_eq_true_eq] at h
    exact ⟨h.1, h.2.1, h.2.2.1, h.2.2.2.1, h.2.2.2.2⟩
  have := rests_roll (parts := parts) (rs := rs) (ts := lots) (i := 0) hl (fun j hj => by
    refine ⟨hln _ (List.getElem_mem hj), noTwice_disj h2 _, fun z hz => ?_⟩
    obtain ⟨q, hq, h3, rfl⟩ := zones_mem.1 hz
    have := hcl q hq
    rw [h3] at this
    simp only [Nat.zero_add, Int.toNat_natCast] at this
    rw [grl_eq hj] at this
    exact ⟨this.2.2.1, this.2.2.2.1, this.2.2.2.2⟩)
  refine List.ext_getElem (by simp [used_len]) fun j h1 h2 => ?_
  rw [used_len] at h1
  have k := this j h1
  rw [Nat.zero_add] at k
  have ea : ∀ a b : List Pt, lenZ (a ++ b) = lenZ a + lenZ b := by intro a b; simp [lenZ]
  rw [used_at h1, zones_append, ea, k, List.getElem_map]

/- Accounts do not depend on where the plies lie. -/
def pyOf (y : Pl) : Py := ⟨y.1, none, 0, y.2⟩
theorem py_pl (ys : List Py) : (((ys.map Py.pl).map pyOf).map Py.pl) = ys.map Py.pl := by
  rw [List.map_map, List.map_map]
  exact List.map_congr_left fun y _ => rfl
theorem bal_py (rs : List Rl) (polys : List (List Pt)) (ys : List Py) : balR rs polys ((ys.map Py.pl).map pyOf) = balR rs polys ys := by
  have h1 : tknA rs ((ys.map Py.pl).map pyOf) = tknA rs ys := by
    unfold tknA
    rw [List.map_map, List.map_map]
    exact congrArg List.sum (List.map_congr_left fun y _ => rfl)
  have h2 : dblA rs ((ys.map Py.pl).map pyOf) = dblA rs ys := by
    unfold dblA
    rw [List.map_map, List.map_map]
    exact congrArg List.sum (List.map_congr_left fun y _ => rfl)
  have h3 : ∀ b, hitA b rs polys ((ys.map Py.pl).map pyOf) = hitA b rs polys ys := fun b => by
    unfold hitA
    rw [List.map_map, List.map_map]
    exact congrArg List.sum (List.map_congr_left fun y _ => rfl)
  unfold balR
  rw [h1, h2, h3, h3]
theorem acc_py {len wd : Int} {polys : List (List Pt)} {rs : List Rl} {lots : List Int} {ys : List Py} : accR len wd polys rs lots ((ys.map Py.pl).map pyOf) = accR len wd polys rs lots ys := by
  unfold accR accE
  rw [py_pl, bal_py]

end Go.Proofs.Ytpiniflhaokkaaa
