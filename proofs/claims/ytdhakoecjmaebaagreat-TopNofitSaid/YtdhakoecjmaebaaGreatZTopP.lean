/-
  TopNofit, plainly: what the best order's placement satisfies. No program in sight.
-/
import Derived.Test.YtdhakoecjmaebaaGreatZNofQ
import Derived.Test.YtdhakoecjmaebaaGreatZMoveQ
namespace Go.Proofs.YtdhakoecjmaebaaGreat
set_option linter.unusedSimpArgs false
set_option linter.unusedVariables false

/- Steps and runs. -/
def PutBy (sh : Int) (p : Pu) : Prop := p.sh = sh ∧ p.fl = false ∧ p.q ∈ ([0, 1, 2, 3] : List Int)
theorem first_fit {b : Bd} {l : List Sh} {puts : List Pu} {sh q : Int} (hq : q ∈ ([0, 1, 2, 3] : List Int)) : ∀ {vs : List Pt} {p : Pu}, firstFit b l puts sh q vs = some p → fitsR b l puts p = 0 ∧ PutBy sh p
  | [], p, h => by cases h
  | v :: vs, p, h => by
    rw [firstFit] at h
    split at h
    · rename_i hf
      cases h
      exact ⟨hf, rfl, rfl, hq⟩
    · exact first_fit hq h
theorem ends_fit {b : Bd} {l : List Sh} {puts : List Pu} {sh : Int} {s : Sh} {placed : List (List Pt)} : ∀ {qs : List Int} {acc : List En}, (∀ q ∈ qs, q ∈ ([0, 1, 2, 3] : List Int)) → (∀ e ∈ acc, fitsR b l puts e.p = 0 ∧ PutBy sh e.p) →
    ∀ e ∈ (endsR b l puts sh s placed qs acc).1, fitsR b l puts e.p = 0 ∧ PutBy sh e.p
  | [], acc, _, h => h
  | q :: qs, acc, hq, h => by
    rw [endsR]
    split
    · intro e he; cases he
    · split
      · rename_i p hp
        refine ends_fit (fun x hx => hq x (List.mem_cons_of_mem _ hx)) fun e he => ?_
        rcases List.mem_append.1 he with he | he
        · exact h e he
        · rw [List.mem_singleton.1 he]
          exact first_fit (hq q (List.mem_cons_self ..)) hp
      · exact ends_fit (fun x hx => hq x (List.mem_cons_of_mem _ hx)) h
theorem least_mem : ∀ (l : List En) (z : En), leastEn z l = z ∨ leastEn z l ∈ l
  | [], z => .inl rfl
  | e :: l, z => by
    rw [leastEn]
    rcases least_mem l (if cmpEn e z < 0 then e else z) with h | h
    · rw [h]
      split
      · exact .inr (List.mem_cons_self ..)
      · exact .inl rfl
    · exact .inr (List.mem_cons_of_mem _ h)
theorem turns_sub {g q : Int} (h : q ∈ turnsR g) : q ∈ ([0, 1, 2, 3] : List Int) := (List.mem_filter.1 h).1
theorem step_fit {b : Bd} {l : List Sh} {puts : List Pu} {sh : Int} (h : (stepR b l puts sh).2 = 0) : fitsR b l puts (stepR b l puts sh).1 = 0 ∧ PutBy sh (stepR b l puts sh).1 := by
  have key := ends_fit (b := b) (l := l) (puts := puts) (sh := sh) (s := gs l sh.toNat) (placed := (polysR l puts).1) (qs := turnsR (gs l sh.toNat).gr) (acc := []) (fun q hq => turns_sub hq) (by simp)
  unfold stepR at h ⊢
  split at h
  · rename_i h1; exact absurd h h1
  · rename_i h1
    rw [if_neg h1]
    split at h
    · rename_i h2; exact absurd h h2
    · rename_i h2
      rw [if_neg h2]
      generalize (endsR b l puts sh (gs l sh.toNat) (polysR l puts).1 (turnsR (gs l sh.toNat).gr) []).1 = es at *
      match es, h, key with
      | [], h, _ => cases h
      | e :: es, _, key =>
        show fitsR b l puts (leastEn e es).p = 0 ∧ PutBy sh (leastEn e es).p
        rcases least_mem es e with hm | hm
        · rw [hm]; exact key e (List.mem_cons_self ..)
        · exact key _ (List.mem_cons_of_mem _ hm)
theorem run_fit {b : Bd} {l : List Sh} : ∀ (o : List Int) (acc : List Pu), (runGo b l o acc).2 = 0 → pcheckR b l acc = 0 → acc.length + o.length ≤ 60 → (∀ p ∈ acc, PutBy p.sh p) →
    pcheckR b l (runGo b l o acc).1 = 0 ∧ (runGo b l o acc).1.map Pu.sh = acc.map Pu.sh ++ o ∧ ∀ p ∈ (runGo b l o acc).1, PutBy p.sh p
  | [], acc, _, h, _, hb => ⟨h, by simp [runGo], hb⟩
  | sh :: o, acc, h, hc, hn, hb => by
    rw [runGo] at h ⊢
    split at h
    · rename_i h1; exact absurd h h1
    · rename_i h1
      rw [if_neg h1]
      obtain ⟨f1, f2⟩ := step_fit (b := b) (l := l) (puts := acc) (sh := sh) (by simpa using h1)
      simp only [List.length_cons] at hn
      have hb' : ∀ p ∈ acc ++ [(stepR b l acc sh).1], PutBy p.sh p := by
        intro p hp
        rcases List.mem_append.1 hp with hp | hp
        · exact hb p hp
        · rw [List.mem_singleton.1 hp]; exact ⟨rfl, f2.2⟩
      obtain ⟨g1, g2, g3⟩ := run_fit o (acc ++ [(stepR b l acc sh).1]) h ((pcheck_snoc (by omega)).2 ⟨hc, f1⟩) (by simp; omega) hb'
      refine ⟨g1, ?_, g3⟩
      rw [g2, List.map_append, List.map_singleton, f2.1, List.append_assoc]
      rfl
theorem pcheck_nil (b : Bd) (l : List Sh) : pcheckR b l [] = 0 := rfl
theorem run_ok {b : Bd} {l : List Sh} {o : List Int} (h : (runR b l o).2 = 0) : o.length ≤ 60 ∧ pcheckR b l (runR b l o).1 = 0 ∧ (runR b l o).1.map Pu.sh = o ∧ ∀ p ∈ (runR b l o).1, PutBy p.sh p := by
  unfold runR at h ⊢
  split at h
  · cases h
  · rename_i h1
    rw [if_neg h1]
    obtain ⟨g1, g2, g3⟩ := run_fit o [] h (pcheck_nil b l) (by simp; omega) (by simp)
    exact ⟨by omega, g1, by simpa using g2, g3⟩

/- The extent is at least each X. -/
theorem extIn_ge {i : Nat} : ∀ (ps : List Pt) (k : Nat) (m : Int), (∀ q ∈ ps, q.x ≤ extIn i ps k m) ∧ ((i ≠ 0 ∨ k ≠ 0) → m ≤ extIn i ps k m)
  | [], k, m => ⟨by simp, fun _ => Int.le_refl _⟩
  | p :: r, k, m => by
    rw [extIn]
    obtain ⟨h1, h2⟩ := extIn_ge (i := i) r (k + 1) (if (i = 0 ∧ k = 0) ∨ m < p.x then p.x else m)
    have h2' := h2 (.inr (by omega))
    refine ⟨fun q hq => ?_, fun hk => Int.le_trans ?_ h2'⟩
    · rcases List.mem_cons.1 hq with e | e
      · subst e
        refine Int.le_trans ?_ h2'
        split <;> omega
      · exact h1 q e
    · split <;> omega
theorem ext_ge {l : List Sh} : ∀ (puts : List Pu) (i : Nat) (m : Int), (extGo l puts i m).2 = 0 → (∀ p ∈ puts, ∀ q ∈ (polyR l p).1, q.x ≤ (extGo l puts i m).1) ∧ (i ≠ 0 → m ≤ (extGo l puts i m).1)
  | [], i, m, _ => ⟨by simp, fun _ => Int.le_refl _⟩
  | o :: r, i, m, h => by
    by_cases h0 : (polyR l o).2 = 0
    · rw [ext_gx h0] at h ⊢
      obtain ⟨h1, h2⟩ := ext_ge r (i + 1) _ h
      obtain ⟨h3, h4⟩ := extIn_ge (i := i) (polyR l o).1 0 m
      have h2' := h2 (by omega)
      refine ⟨fun p hp q hq => ?_, fun hi => Int.le_trans (h4 (.inl hi)) h2'⟩
      rcases List.mem_cons.1 hp with e | e
      · subst e; exact Int.le_trans (h3 q hq) h2'
      · exact h1 p e q hq
    · rw [ext_err h0] at h
      exact absurd h h0

/- Orders. -/
theorem perm_of_sub {α : Type} [DecidableEq α] : ∀ {o r : List α}, o.Nodup → (∀ a ∈ o, a ∈ r) → r.length ≤ o.length → o.Perm r
  | [], r, _, _, hl => by
    rw [List.eq_nil_of_length_eq_zero (Nat.le_zero.1 hl)]
  | a :: o, r, hn, hs, hl => by
    obtain ⟨h1, h2⟩ := List.nodup_cons.1 hn
    have ha := hs a (List.mem_cons_self ..)
    have hp := List.perm_cons_erase ha
    have hlen := hp.length_eq
    simp only [List.length_cons] at hlen hl
    refine (List.Perm.cons a (perm_of_sub h2 (fun b hb => ?_) (by omega))).trans hp.symm
    exact (List.mem_erase_of_ne (fun (e : b = a) => h1 (by rw [← e]; exact hb))).2 (hs b (List.mem_cons_of_mem _ hb))
theorem orders_go {n : Nat} : ∀ (k : Nat) (o : List Int), o ∈ ordersGo n k → o.Nodup ∧ (∀ i ∈ o, ∃ j : Nat, j < n ∧ i = (j : Int)) ∧ o.length = k
  | 0, o, h => by
    rw [ordersGo, List.mem_singleton] at h
    subst h
    exact ⟨List.nodup_nil, by simp, rfl⟩
  | k + 1, o, h => by
    rw [ordersGo, List.mem_flatMap] at h
    obtain ⟨o', ho', h⟩ := h
    obtain ⟨g1, g2, g3⟩ := orders_go k o' ho'
    unfold extendO at h
    rw [List.mem_map] at h
    obtain ⟨j, hj, rfl⟩ := h
    rw [List.mem_filter, List.mem_range] at hj
    obtain ⟨hj1, hj2⟩ := hj
    have hj3 : (j : Int) ∉ o' := by simpa using hj2
    refine ⟨?_, ?_, by simp [g3]⟩
    · rw [List.nodup_append]
      exact ⟨g1, by simp, fun a ha b hb => by rw [List.mem_singleton] at hb; intro e; rw [e, hb] at ha; exact hj3 ha⟩
    · intro i hi
      rcases List.mem_append.1 hi with hi | hi
      · exact g2 i hi
      · rw [List.mem_singleton] at hi; exact ⟨j, hj1, hi⟩
theorem orders_perm {n : Nat} {o : List Int} (h : o ∈ ordersR n) : o.Perm ((List.range n).map fun (i : Nat) => (i : Int)) ∧ n ≤ 5 := by
  unfold ordersR at h
  split at h
  · cases h
  · obtain ⟨g1, g2, g3⟩ := orders_go n o h
    refine ⟨perm_of_sub g1 (fun a ha => ?_) (by simp [g3]), by omega⟩
    obtain ⟨j, hj, rfl⟩ := g2 a ha
    exact List.mem_map.2 ⟨j, List.mem_range.2 hj, rfl⟩

/- The search. -/
def BestBy (b : Bd) (l : List Sh) (S : List Int → Prop) (z : Option (List Int × Int)) : Prop := ∀ o n, z = some (o, n) → S o ∧ (runR b l o).2 = 0 ∧ extR l (runR b l o).1 = (n, 0)
theorem best_by {b : Bd} {l : List Sh} {S : List Int → Prop} : ∀ {os : List (List Int)} {z : Option (List Int × Int)}, (∀ o ∈ os, S o) → BestBy b l S z → BestBy b l S (bestOrd b l os z)
  | [], z, _, h => h
  | o :: os, z, hs, h => by
    have hs' : ∀ x ∈ os, S x := fun x hx => hs x (List.mem_cons_of_mem _ hx)
    unfold bestOrd
    split
    · exact best_by hs' h
    · rename_i h1
      split
      · exact best_by hs' h
      · rename_i h2
        have hnew : BestBy b l S (some (o, (extR l (runR b l o).1).1)) := by
          intro o' n e
          cases e
          exact ⟨hs o (List.mem_cons_self ..), by simpa using h1, Prod.ext rfl (by simpa using h2)⟩
        split
        · exact best_by hs' hnew
        · split
          · exact best_by hs' hnew
          · exact best_by hs' h
theorem search_ok {b : Bd} {l : List Sh} (h : (searchR b l).2.2 = 0) : (boundR b l).2 = 0 ∧ (searchR b l).1 ∈ ordersR l.length ∧ (runR b l (searchR b l).1).2 = 0 ∧ extR l (runR b l (searchR b l).1).1 = ((searchR b l).2.1, 0) := by
  have key := best_by (b := b) (l := l) (S := fun o => o ∈ ordersR l.length) (os := ordersR l.length) (z := none) (fun _ h => h) (fun o n e => by cases e)
  unfold searchR at h ⊢
  split at h
  · cases h
  · rename_i h1
    rw [if_neg h1]
    split at h
    · rename_i h2; exact absurd h h2
    · rename_i h2
      rw [if_neg h2]
      generalize bestOrd b l (ordersR l.length) none = z at *
      match z, h, key with
      | none, h, _ => cases h
      | some (o, m), _, key =>
        obtain ⟨k1, k2, k3⟩ := key o m rfl
        exact ⟨by simpa using h2, k1, k2, k3⟩
theorem search_no {b : Bd} {l : List Sh} (h : (searchR b l).2.2 ≠ 0) : (searchR b l).1 = [] ∧ (searchR b l).2.1 = 0 := by
  unfold searchR at h ⊢
  split at h
  · rename_i h1; rw [if_pos h1]; exact ⟨rfl, rfl⟩
  · rename_i h1
    rw [if_neg h1]
    split at h
    · rename_i h2; rw [if_pos h2]; exact ⟨rfl, rfl⟩
    · rename_i h2
      rw [if_neg h2]
      match bestOrd b l (ordersR l.length) none, h with
      | none, h => exact ⟨rfl, rfl⟩
      | some (o, m), h => exact absurd rfl h

/- Turned polygons. -/
theorem turn_map (q : Int) (ps : List Pt) : turnPs false q ps = ps.map (rotN (qm q).toNat) := by
  unfold turnPs
  rw [if_neg (by simp)]
  rfl
theorem gpM {f : Pt → Pt} {l : List Pt} {j : Nat} (h : j < l.length) : gp (l.map f) j = f (gp l j) := by
  rw [gp_eq (by simpa using h), gp_eq h, List.getElem_map]
theorem areaM_go {f : Pt → Pt} (hf : ∀ a b : Pt, (f a).x * (f b).y - (f a).y * (f b).x = a.x * b.y - a.y * b.x) {l : List Pt} (hl : 0 < l.length) : ∀ k i s, i + k ≤ l.length → areaGo (l.map f) k i s = areaGo l k i s := by
  intro k
  induction k with
  | zero => intro i s _; rfl
  | succ k ih =>
    intro i s hi
    rw [areaGo, areaGo, List.length_map, gpM (show i < l.length by omega), gpM (Nat.mod_lt _ hl), hf, ih (i + 1) _ (by omega)]
theorem areaM {f : Pt → Pt} (hf : ∀ a b : Pt, (f a).x * (f b).y - (f a).y * (f b).x = a.x * b.y - a.y * b.x) {l : List Pt} (hl : 0 < l.length) : areaI (l.map f) = areaI l := by
  unfold areaI
  rw [List.length_map]
  exact areaM_go hf hl _ _ _ (by omega)
theorem rotN_wedge : ∀ (n : Nat) (a b : Pt), (rotN n a).x * (rotN n b).y - (rotN n a).y * (rotN n b).x = a.x * b.y - a.y * b.x
  | 0, a, b => rfl
  | n + 1, a, b => by
    rw [rotN, rotN, rotN_wedge n (rot a) (rot b)]
    unfold rot
    simp only []
    grind
theorem area_placed {p : Pu} {ps : List Pt} (hf : p.fl = false) (hl : 0 < ps.length) : areaI (placedPs p ps) = areaI ps := by
  unfold placedPs
  rw [hf, turn_map, areaT (d := ⟨p.x, p.y⟩) (by simpa using hl), areaM (rotN_wedge _) hl]
theorem fold_hix : ∀ (l : List Pt) (a : Pt), (l.foldl hiP a).x = a.x ∨ ∃ u ∈ l, u.x = (l.foldl hiP a).x
  | [], a => .inl rfl
  | p :: l, a => by
    rw [List.foldl_cons]
    rcases fold_hix l (hiP a p) with h | ⟨u, hu, h⟩
    · rw [h]
      show max a.x p.x = a.x ∨ _
      by_cases hc : a.x ≤ p.x
      · exact .inr ⟨p, List.mem_cons_self .., (Int.max_eq_right hc).symm⟩
      · exact .inl (Int.max_eq_left (by omega))
    · exact .inr ⟨u, List.mem_cons_of_mem _ hu, h⟩
theorem fold_lox : ∀ (l : List Pt) (a : Pt), (l.foldl loP a).x = a.x ∨ ∃ u ∈ l, u.x = (l.foldl loP a).x
  | [], a => .inl rfl
  | p :: l, a => by
    rw [List.foldl_cons]
    rcases fold_lox l (loP a p) with h | ⟨u, hu, h⟩
    · rw [h]
      show min a.x p.x = a.x ∨ _
      by_cases hc : a.x ≤ p.x
      · exact .inl (Int.min_eq_left hc)
      · exact .inr ⟨p, List.mem_cons_self .., (Int.min_eq_right (by omega)).symm⟩
    · exact .inr ⟨u, List.mem_cons_of_mem _ hu, h⟩
theorem gp_mem {l : List Pt} (h : 0 < l.length) : gp l 0 ∈ l := by rw [gp_eq h]; exact List.getElem_mem _
theorem hi_att {l : List Pt} (h : 0 < l.length) : ∃ u ∈ l, u.x = (hiOf l).x := by
  rcases fold_hix l (gp l 0) with e | e
  · exact ⟨gp l 0, gp_mem h, e.symm⟩
  · exact e
theorem lo_att {l : List Pt} (h : 0 < l.length) : ∃ u ∈ l, u.x = (loOf l).x := by
  rcases fold_lox l (gp l 0) with e | e
  · exact ⟨gp l 0, gp_mem h, e.symm⟩
  · exact e
/-- A polygon between 0 and n along X: it is at most n wide before it is moved, too. -/
theorem width_le {p : Pu} {ps : List Pt} {n : Int} (hl : 0 < ps.length) (h : ∀ u ∈ placedPs p ps, 0 ≤ u.x ∧ u.x ≤ n) : (hiOf (turnPs p.fl p.q ps)).x - (loOf (turnPs p.fl p.q ps)).x ≤ n := by
  have hl' : 0 < (turnPs p.fl p.q ps).length := by unfold turnPs; split <;> simpa using hl
  obtain ⟨u, hu, e1⟩ := hi_att hl'
  obtain ⟨v, hv, e2⟩ := lo_att hl'
  have h1 := h (mvP ⟨p.x, p.y⟩ u) (List.mem_map_of_mem hu)
  have h2 := h (mvP ⟨p.x, p.y⟩ v) (List.mem_map_of_mem hv)
  unfold mvP at h1 h2
  simp only [] at h1 h2
  omega
theorem narrow_go_le {ps : List Pt} : ∀ (qs : List Int) (i : Nat) (m : Int), (i ≠ 0 → narrowGo ps qs i m ≤ m) ∧ ∀ q ∈ qs, narrowGo ps qs i m ≤ (hiOf (turnPs false q ps)).x - (loOf (turnPs false q ps)).x
  | [], i, m => ⟨fun _ => Int.le_refl _, by simp⟩
  | q :: qs, i, m => by
    rw [narrowGo]
    obtain ⟨h1, h2⟩ := narrow_go_le (ps := ps) qs (i + 1) (if i = 0 ∨ (hiOf (turnPs false q ps)).x - (loOf (turnPs false q ps)).x < m then (hiOf (turnPs false q ps)).x - (loOf (turnPs false q ps)).x else m)
    have h1' := h1 (by omega)
    refine ⟨fun hi => Int.le_trans h1' ?_, fun x hx => ?_⟩
    · split <;> omega
    · rcases List.mem_cons.1 hx with e | e
      · subst e
        refine Int.le_trans h1' ?_
        split <;> omega
      · exact h2 x e
theorem narrow_le {s : Sh} {q : Int} (h : (narrowR s).2 = 0) (hq : q ∈ turnsR s.gr) : (narrowR s).1 ≤ (hiOf (turnPs false q s.ps)).x - (loOf (turnPs false q s.ps)).x := by
  unfold narrowR at h ⊢
  split at h
  · rename_i h1; exact absurd h h1
  · rename_i h1
    rw [if_neg h1]
    split at h
    · cases h
    · rename_i h2
      rw [if_neg h2]
      split at h
      · rename_i h3; exact absurd h h3
      · rename_i h3
        rw [if_neg h3]
        exact (narrow_go_le _ _ _).2 q hq
def absArea (s : Sh) : Int := max (areaI s.ps) (-(areaI s.ps))
theorem bound_go {n : Int} : ∀ {l : List Sh} {a m : Int}, (boundGo l a m).2.2 = 0 → m ≤ n → (∀ s ∈ l, (narrowR s).2 = 0 → (narrowR s).1 ≤ n) →
    (boundGo l a m).1 = a + (l.map absArea).sum ∧ (boundGo l a m).2.1 ≤ n
  | [], a, m, _, hm, _ => ⟨by simp [boundGo], hm⟩
  | s :: l, a, m, h, hm, hs => by
    rw [boundGo] at h ⊢
    split at h
    · rename_i h1; exact absurd h h1
    · rename_i h1
      rw [if_neg h1]
      have h0 := hs s (List.mem_cons_self ..) (by simpa using h1)
      obtain ⟨g1, g2⟩ := bound_go (n := n) h (by omega) fun x hx => hs x (List.mem_cons_of_mem _ hx)
      refine ⟨?_, g2⟩
      rw [g1, List.map_cons, List.sum_cons]
      unfold absArea
      omega
theorem bound_le {b : Bd} {l : List Sh} {n : Int} (h : (boundR b l).2 = 0) (hn : 0 ≤ n) (ha : (l.map absArea).sum ≤ 2 * (n * b.w)) (hs : ∀ s ∈ l, (narrowR s).2 = 0 → (narrowR s).1 ≤ n) : (boundR b l).1 ≤ n := by
  unfold boundR at h ⊢
  split at h
  · cases h
  · rename_i h1
    rw [if_neg h1]
    split at h
    · cases h
    · rename_i h2
      rw [if_neg h2]
      split at h
      · rename_i h3; exact absurd h h3
      · rename_i h3
        rw [if_neg h3]
        obtain ⟨g1, g2⟩ := bound_go (n := n) (a := 0) (m := 0) (by simpa using h3) hn hs
        rw [g1]
        refine Int.max_le.2 ⟨?_, g2⟩
        have hw : 0 < 2 * b.w := by omega
        have : (0 + (l.map absArea).sum + 2 * b.w - 1) / (2 * b.w) < n + 1 := by
          rw [Int.ediv_lt_iff_lt_mul hw]
          have e : (n + 1) * (2 * b.w) = 2 * (n * b.w) + 2 * b.w := by grind
          omega
        omega
theorem sum_perm {α : Type} {f : α → Int} {l m : List α} (h : l.Perm m) : (l.map f).sum = (m.map f).sum := by
  induction h with
  | nil => rfl
  | cons a _ ih => simp [ih]
  | swap a b l => simp; omega
  | trans _ _ h1 h2 => exact h1.trans h2
theorem gs_range (l : List Sh) : ((List.range l.length).map fun i => gs l i) = l := by
  refine List.ext_getElem (by simp) fun i h1 h2 => ?_
  simp [gs, h2]
theorem check_len {ps : List Pt} (h : checkI ps = 0) : 3 ≤ ps.length := by
  unfold checkI at h
  split at h
  · cases h
  · split at h
    · cases h
    · omega
/-- A turned polygon that passes after a move passes before it, too. -/
theorem check_turned {p : Pu} {ps : List Pt} (h : checkI ps = 0) (h' : checkI (placedPs p ps) = 0) : checkI (turnPs p.fl p.q ps) = 0 := by
  unfold placedPs at h'
  have hn := turnPs_near (f := p.fl) (q := p.q) (near_of_check h)
  have := checkT (d := ⟨-p.x, -p.y⟩) h' (by
    intro u hu
    obtain ⟨v, hv, rfl⟩ := List.mem_map.1 hu
    have := hn v hv
    unfold NearP at this
    unfold mvP outsideB
    simp only [Bool.or_eq_false_iff, decide_eq_false_iff_not]
    omega)
  rw [List.map_map] at this
  rw [show (mvP (⟨-p.x, -p.y⟩ : Pt)) ∘ (mvP ⟨p.x, p.y⟩) = id by
    funext v
    obtain ⟨vx, vy⟩ := v
    simp only [Function.comp, mvP, id, Pt.mk.injEq]
    omega] at this
  rwa [List.map_id] at this

/-- What holds of the best order's placement. -/
structure Nested (b : Bd) (l : List Sh) (puts : List Pu) (n : Int) : Prop where
  len : puts.length = l.length
  n0 : 0 ≤ n
  nl : n ≤ max b.l 0
  bd : 1 ≤ b.w ∧ b.w ≤ 1048576
  bound : (boundR b l).1 ≤ n
  area : areaSum (puts.map fun p => (polyR l p).1) ≤ 2 * (n * b.w)
  sound : ∀ p ∈ puts, Sound b l p ∧ PutBy p.sh p
  box : ∀ p ∈ puts, 0 ≤ (loOf (polyR l p).1).x ∧ 0 ≤ (loOf (polyR l p).1).y ∧ (hiOf (polyR l p).1).x ≤ n ∧ (hiOf (polyR l p).1).y ≤ b.w
  pairs : puts.Pairwise fun o p => overR (polyR l o).1 (polyR l p).1 = (false, 0) ∧ blockB (regsR (turnPs o.fl o.q (gs l o.sh.toNat).ps) (turnPs p.fl p.q (gs l p.sh.toNat).ps)) ⟨p.x - o.x, p.y - o.y⟩ = false
theorem bound_bed {b : Bd} {l : List Sh} (h : (boundR b l).2 = 0) : 1 ≤ b.l ∧ 1 ≤ b.w ∧ b.w ≤ 1048576 := by
  unfold boundR at h
  split at h
  · cases h
  · omega
theorem nested_of {b : Bd} {l : List Sh} (h : (searchR b l).2.2 = 0) : Nested b l (runR b l (searchR b l).1).1 (searchR b l).2.1 := by
  obtain ⟨h1, h2, h3, h4⟩ := search_ok h
  obtain ⟨hperm, h5⟩ := orders_perm h2
  obtain ⟨r1, r2, r3, r4⟩ := run_ok h3
  generalize (searchR b l).1 = o at *
  generalize (searchR b l).2.1 = n at *
  generalize (runR b l o).1 = puts at *
  have hlen : puts.length = l.length := by
    have := congrArg List.length r3
    have := hperm.length_eq
    simp at *
    omega
  obtain ⟨c1, c2⟩ := (pcheck_pairs (by omega)).1 r2
  obtain ⟨b1, b2, b3⟩ := bound_bed h1
  have hx := (ext_ge puts 0 0 (by rw [show extGo l puts 0 0 = extR l puts from rfl, h4])).1
  rw [show extGo l puts 0 0 = extR l puts from rfl, h4] at hx
  simp only [] at hx
  have hle := (ext_valid c1).2
  rw [h4] at hle
  simp only [] at hle
  have hon : ∀ p ∈ puts, ∀ q ∈ (polyR l p).1, 0 ≤ q.x ∧ q.x ≤ n ∧ 0 ≤ q.y ∧ q.y ≤ b.w := fun p hp q hq => by
    obtain ⟨_, _, hs⟩ := c1 p hp
    obtain ⟨_, ho, _⟩ := self_zero.1 hs
    have h1 := onGo_iff.1 ho q hq
    exact ⟨h1.1, hx p hp q hq, h1.2.2⟩
  have hn0 : 0 ≤ n := by
    match puts, h4, hon, c1 with
    | [], h4, _, _ =>
      have : (0 : Int) = n := congrArg Prod.fst h4
      omega
    | p :: ps, _, hon, c1 =>
      obtain ⟨_, k2, _⟩ := sound_ok (c1 p (List.mem_cons_self ..))
      have := hon p (List.mem_cons_self ..) (gp (polyR l p).1 0) (gp_mem (by omega))
      omega
  have harea : areaSum (puts.map fun p => (polyR l p).1) ≤ 2 * (n * b.w) := by
    refine areas_fit hn0 (by omega) ?_ ?_ ?_
    · intro u hu
      obtain ⟨p, hp, rfl⟩ := List.mem_map.1 hu
      exact (sound_ok (c1 p hp)).1
    · intro u hu q hq
      obtain ⟨p, hp, rfl⟩ := List.mem_map.1 hu
      exact hon p hp q hq
    · exact List.pairwise_map.2 (c2.imp fun h => h.2)
  have hgs : ∀ p ∈ puts, ∃ j : Nat, j < l.length ∧ p.sh = (j : Int) := fun p hp => by
    obtain ⟨_, hp0, _⟩ := c1 p hp
    obtain ⟨g1, g2, _⟩ := poly_zero hp0
    exact ⟨p.sh.toNat, by omega, by omega⟩
  have hsum : (l.map absArea).sum ≤ 2 * (n * b.w) := by
    have e1 : (l.map absArea).sum = (puts.map fun p => max (areaI (polyR l p).1) (-(areaI (polyR l p).1))).sum := by
      have e2 : (puts.map fun p => max (areaI (polyR l p).1) (-(areaI (polyR l p).1))) = (puts.map Pu.sh).map fun i => absArea (gs l i.toNat) := by
        rw [List.map_map]
        refine List.map_congr_left fun p hp => ?_
        obtain ⟨_, hp0, _⟩ := c1 p hp
        obtain ⟨_, _, _, g4, _, g6⟩ := poly_zero hp0
        have := area_placed (p := p) (ps := (gs l p.sh.toNat).ps) (r4 p hp).2.1 (by have := check_len g4; omega)
        rw [g6, this]
        rfl
      rw [e2, r3, sum_perm hperm, List.map_map]
      have : ((fun i : Int => absArea (gs l i.toNat)) ∘ fun (i : Nat) => (i : Int)) = fun i => absArea (gs l i) := by
        funext i
        simp
      rw [this]
      have e3 := congrArg (fun m : List Sh => (m.map absArea).sum) (gs_range l)
      simp only [List.map_map] at e3
      exact e3.symm
    rw [e1]
    have e4 : areaSum (puts.map fun p => (polyR l p).1) = (puts.map fun p => max (areaI (polyR l p).1) (-(areaI (polyR l p).1))).sum := by
      unfold areaSum
      rw [List.map_map]
      rfl
    rw [← e4]
    exact harea
  refine ⟨hlen, hn0, hle, ⟨b2, b3⟩, bound_le h1 hn0 hsum ?_, harea, fun p hp => ⟨c1 p hp, r4 p hp⟩, ?_, ?_⟩
  · intro s hs hs0
    obtain ⟨i, hi, rfl⟩ := List.mem_iff_getElem.1 hs
    have hmem : ((i : Nat) : Int) ∈ o := hperm.mem_iff.2 (List.mem_map.2 ⟨i, List.mem_range.2 hi, rfl⟩)
    rw [← r3] at hmem
    obtain ⟨p, hp, hpi⟩ := List.mem_map.1 hmem
    have eg : gs l p.sh.toNat = l[i] := by rw [hpi]; simp [gs, hi]
    obtain ⟨_, hp0, hps⟩ := c1 p hp
    obtain ⟨ha, _, _⟩ := self_zero.1 hps
    obtain ⟨_, _, _, g4, _, g6⟩ := poly_zero hp0
    obtain ⟨_, f2, f3⟩ := r4 p hp
    rw [eg] at ha g4 g6
    rw [f2] at ha
    have hq : p.q ∈ turnsR l[i].gr := List.mem_filter.2 ⟨f3, ha⟩
    refine Int.le_trans (narrow_le hs0 hq) ?_
    have := width_le (p := p) (ps := l[i].ps) (n := n) (by have := check_len g4; omega) (by
      intro u hu
      rw [← g6] at hu
      have := hon p hp u hu
      exact ⟨this.1, this.2.1⟩)
    rwa [f2] at this
  · intro p hp
    obtain ⟨_, k2, _⟩ := sound_ok (c1 p hp)
    exact box_on (onGo_iff.2 (hon p hp)) (by omega)
  · refine (List.pairwise_iff_getElem.2 fun i j hi hj hij => ?_)
    have hp := List.pairwise_iff_getElem.1 c2 i j hi hj hij
    obtain ⟨_, o0, _⟩ := c1 _ (List.getElem_mem hi)
    obtain ⟨_, p0, _⟩ := c1 _ (List.getElem_mem hj)
    obtain ⟨_, _, _, o4, o5, o6⟩ := poly_zero o0
    obtain ⟨_, _, _, p4, p5, p6⟩ := poly_zero p0
    have hov := hp.2
    refine ⟨Prod.ext hp.2 hp.1, ?_⟩
    rw [o6, p6] at hov
    unfold placedPs at hov
    exact placed_clear (d := ⟨puts[i].x, puts[i].y⟩) (e := ⟨puts[j].x, puts[j].y⟩) (check_turned o4 o5) (check_turned p4 p5) o5 p5 hov

end Go.Proofs.YtdhakoecjmaebaaGreat
