/-
  Plain words for convex, nofit, fill and search: hull, sum, regions, spots, candidates, steps, runs, bound and best order. No program in sight.
-/
import Derived.Test.YtdhakoecjmaebaaGreatZTurnP
import Derived.Test.YtdhakoecjmaebaaGreatZMoveQ
import Derived.Test.YtdhakoecjmaebaaGreatZAreP
import Derived.Lib.Small
namespace Go.Proofs.YtdhakoecjmaebaaGreat
set_option linter.unusedSimpArgs false
set_option linter.unusedVariables false

/- Sorting. -/
def insP (p : Pt) : List Pt → List Pt
  | [] => [p]
  | q :: l => if lessP q p = true then q :: insP p l else p :: q :: l
def sortP : List Pt → List Pt
  | [] => []
  | p :: l => insP p (sortP l)
theorem less_iff (a b : Pt) : lessP a b = true ↔ a.x < b.x ∨ (a.x = b.x ∧ a.y < b.y) := by unfold lessP; simp
theorem less_not (a b : Pt) : lessP a b = false ↔ ¬ (a.x < b.x ∨ (a.x = b.x ∧ a.y < b.y)) := by rw [← less_iff]; simp
theorem less_anti {a b : Pt} (h1 : lessP a b = false) (h2 : lessP b a = false) : a = b := by
  rw [less_not] at h1 h2
  obtain ⟨ax, ay⟩ := a
  obtain ⟨bx, b_⟩ := b
  simp only [Pt.mk.injEq] at *
  omega
theorem ins_perm (p : Pt) : ∀ l : List Pt, (insP p l).Perm (p :: l)
  | [] => List.Perm.refl _
  | q :: l => by
    rw [insP]
    split
    · exact ((ins_perm p l).cons q).trans (List.Perm.swap p q l)
    · exact List.Perm.refl _
theorem sort_perm : ∀ l : List Pt, (sortP l).Perm l
  | [] => List.Perm.refl _
  | p :: l => (ins_perm p (sortP l)).trans ((sort_perm l).cons p)
/-- Ascending. -/
def Asc (l : List Pt) : Prop := l.Pairwise fun a b => lessP b a = false
theorem ins_asc (p : Pt) : ∀ {l : List Pt}, Asc l → Asc (insP p l)
  | [], _ => List.pairwise_singleton _ _
  | q :: l, h => by
    have h' := List.pairwise_cons.1 h
    rw [insP]
    split
    · rename_i hl
      refine List.pairwise_cons.2 ⟨fun b hb => ?_, ins_asc p h'.2⟩
      rcases List.mem_cons.1 ((ins_perm p l).mem_iff.1 hb) with e | e
      · subst e
        rw [less_iff] at hl
        rw [less_not]
        omega
      · exact h'.1 b e
    · rename_i hl
      have hl' : lessP q p = false := by simpa using hl
      refine List.pairwise_cons.2 ⟨fun b hb => ?_, h⟩
      rcases List.mem_cons.1 hb with e | e
      · subst e; exact hl'
      · have := h'.1 b e
        rw [less_not] at *
        omega
theorem sort_asc : ∀ l : List Pt, Asc (sortP l)
  | [] => List.Pairwise.nil
  | p :: l => ins_asc p (sort_asc l)
theorem asc_unique {l m : List Pt} (h : l.Perm m) (hl : Asc l) (hm : Asc m) : l = m :=
  List.Perm.eq_of_pairwise (le := fun a b => lessP b a = false) (fun a b _ _ h1 h2 => less_anti h2 h1) hl hm h
theorem sort_of {l m : List Pt} (h : m.Perm l) (hm : Asc m) : m = sortP l := asc_unique (h.trans (sort_perm l).symm) hm (sort_asc l)
theorem sort_mem {l : List Pt} {p : Pt} : p ∈ sortP l ↔ p ∈ l := (sort_perm l).mem_iff
theorem sort_len (l : List Pt) : (sortP l).length = l.length := (sort_perm l).length_eq

/- A bag: each element once, in the order in which they were added. -/
def addP (l : List Pt) (p : Pt) : List Pt := if p ∈ l then l else l ++ [p]
def addAll (l xs : List Pt) : List Pt := xs.foldl addP l
theorem add_mem {l : List Pt} {p q : Pt} : q ∈ addP l p ↔ q ∈ l ∨ q = p := by
  unfold addP
  split
  · constructor
    · exact .inl
    · rintro (h | rfl) <;> assumption
  · simp
theorem add_nodup {l : List Pt} {p : Pt} (h : l.Nodup) : (addP l p).Nodup := by
  unfold addP
  split
  · exact h
  · rename_i hp
    rw [List.nodup_append]
    exact ⟨h, by simp, fun a ha b hb => by rw [List.mem_singleton] at hb; subst hb; exact fun e => hp (e ▸ ha)⟩
theorem addAll_mem : ∀ {xs l : List Pt} {q : Pt}, q ∈ addAll l xs ↔ q ∈ l ∨ q ∈ xs
  | [], l, q => by simp [addAll]
  | x :: xs, l, q => by
    have := addAll_mem (xs := xs) (l := addP l x) (q := q)
    unfold addAll at *
    rw [List.foldl_cons, this, add_mem, List.mem_cons]
    constructor
    · rintro ((h | h) | h)
      · exact .inl h
      · exact .inr (.inl h)
      · exact .inr (.inr h)
    · rintro (h | h | h)
      · exact .inl (.inl h)
      · exact .inl (.inr h)
      · exact .inr h
theorem addAll_nodup : ∀ {xs l : List Pt}, l.Nodup → (addAll l xs).Nodup
  | [], _, h => h
  | x :: xs, l, h => addAll_nodup (xs := xs) (add_nodup h)
theorem addAll_len : ∀ (xs l : List Pt), (addAll l xs).length ≤ l.length + xs.length
  | [], l => by simp [addAll]
  | x :: xs, l => by
    have := addAll_len xs (addP l x)
    have h : (addP l x).length ≤ l.length + 1 := by unfold addP; split <;> simp
    unfold addAll at *
    rw [List.foldl_cons, List.length_cons]
    omega
/-- A list without doubles that has the elements of xs, sorted, is what sorting the bag gives. -/
theorem sort_bag {m xs : List Pt} (hn : m.Nodup) (h : ∀ p, p ∈ m ↔ p ∈ xs) (ha : Asc m) : m = sortP (addAll [] xs) := by
  refine sort_of ((List.perm_ext_iff_of_nodup hn (addAll_nodup List.nodup_nil)).2 fun p => ?_) ha
  rw [h, addAll_mem]
  simp

/- The hull. -/
def compGo (a : Pt) : List Pt → List Pt
  | [] => []
  | b :: l => if b = a then compGo a l else b :: compGo b l
/-- slices.Compact. -/
def compP : List Pt → List Pt
  | [] => []
  | a :: l => a :: compGo a l
/-- The stack, its last element first, after the turns to the right are taken off. -/
def popP (p : Pt) : List Pt → List Pt
  | [] => []
  | [a] => [a]
  | b :: a :: s => if crossP a b p ≤ 0 then popP p (a :: s) else b :: a :: s
def bordGo : List Pt → List Pt → List Pt
  | [], s => s
  | p :: l, s => bordGo l (p :: popP p s)
def bordP (l : List Pt) : List Pt := (bordGo l []).tail.reverse
def hullP (l : List Pt) : List Pt × Bool :=
  if (compP (sortP l)).length < 3 then ([], false)
  else if (bordP (compP (sortP l)) ++ bordP (compP (sortP l)).reverse).length < 3 then ([], false)
  else (bordP (compP (sortP l)) ++ bordP (compP (sortP l)).reverse, true)
def out4 (p : Pt) : Bool := decide (p.x < -4194304) || decide (4194304 < p.x) || decide (p.y < -4194304) || decide (4194304 < p.y)
def chullR (l : List Pt) : List Pt × Int :=
  if 160 < l.length then ([], 5) else if l.any out4 = true then ([], 3) else if (hullP l).2 = true then ((hullP l).1, 0) else ([], 11)
def plusP (p q : Pt) : Pt := ⟨p.x + q.x, p.y + q.y⟩
def sumsP (a b : List Pt) : List Pt := a.flatMap fun p => b.map (plusP p)
def msumR (a b : List Pt) : List Pt × Int :=
  if (chullR a).2 ≠ 0 then ([], (chullR a).2)
  else if (chullR b).2 ≠ 0 then ([], (chullR b).2)
  else if ((hullP (sumsP (chullR a).1 (chullR b).1)).1).any out4 = true then ([], 3)
  else if 160 < ((hullP (sumsP (chullR a).1 (chullR b).1)).1).length then ([], 5)
  else ((hullP (sumsP (chullR a).1 (chullR b).1)).1, 0)
theorem comp_sub : ∀ {l : List Pt} {a p : Pt}, p ∈ compGo a l → p ∈ l
  | b :: l, a, p, h => by
    rw [compGo] at h
    split at h
    · exact List.mem_cons_of_mem _ (comp_sub h)
    · rcases List.mem_cons.1 h with e | e
      · exact List.mem_cons.2 (.inl e)
      · exact List.mem_cons_of_mem _ (comp_sub e)
theorem compP_sub : ∀ {l : List Pt} {p : Pt}, p ∈ compP l → p ∈ l
  | a :: l, p, h => by
    rcases List.mem_cons.1 h with e | e
    · exact List.mem_cons.2 (.inl e)
    · exact List.mem_cons_of_mem _ (comp_sub e)
theorem comp_len : ∀ (l : List Pt) (a : Pt), (compGo a l).length ≤ l.length
  | [], _ => by simp [compGo]
  | b :: l, a => by
    rw [compGo]
    split
    · have := comp_len l a; simp; omega
    · have := comp_len l b; simp; omega
theorem compP_len : ∀ (l : List Pt), (compP l).length ≤ l.length
  | [] => by simp [compP]
  | a :: l => by have := comp_len l a; simp [compP]; omega
theorem pop_sub (p : Pt) : ∀ {s : List Pt} {q : Pt}, q ∈ popP p s → q ∈ s
  | [], q, h => h
  | [a], q, h => h
  | b :: a :: s, q, h => by
    rw [popP] at h
    split at h
    · exact List.mem_cons_of_mem _ (pop_sub p h)
    · exact h
theorem pop_len (p : Pt) : ∀ (s : List Pt), (popP p s).length ≤ s.length
  | [] => by simp [popP]
  | [a] => by simp [popP]
  | b :: a :: s => by
    rw [popP]
    split
    · have := pop_len p (a :: s); simp at *; omega
    · simp
theorem bord_sub : ∀ {l s : List Pt} {q : Pt}, q ∈ bordGo l s → q ∈ l ∨ q ∈ s
  | [], s, q, h => .inr h
  | p :: l, s, q, h => by
    rw [bordGo] at h
    rcases bord_sub h with e | e
    · exact .inl (List.mem_cons_of_mem _ e)
    · rcases List.mem_cons.1 e with e | e
      · exact .inl (List.mem_cons.2 (.inl e))
      · exact .inr (pop_sub p e)
theorem bord_len : ∀ (l s : List Pt), (bordGo l s).length ≤ l.length + s.length
  | [], s => by simp [bordGo]
  | p :: l, s => by
    rw [bordGo]
    have := bord_len l (p :: popP p s)
    have := pop_len p s
    simp at *
    omega
theorem bordP_sub {l : List Pt} {q : Pt} (h : q ∈ bordP l) : q ∈ l := by
  unfold bordP at h
  rw [List.mem_reverse] at h
  rcases bord_sub (List.mem_of_mem_tail h) with e | e
  · exact e
  · simp at e
theorem bordP_len (l : List Pt) : (bordP l).length ≤ l.length := by
  unfold bordP
  have := bord_len l []
  simp at *
  omega
theorem hull_sub {l : List Pt} {q : Pt} (h : q ∈ (hullP l).1) : q ∈ l := by
  unfold hullP at h
  have key : q ∈ compP (sortP l) → q ∈ l := fun h => sort_mem.1 (compP_sub h)
  split at h
  · simp at h
  · split at h
    · simp at h
    · rcases List.mem_append.1 h with e | e
      · exact key (bordP_sub e)
      · exact key (List.mem_reverse.1 (bordP_sub e))
theorem hull_len (l : List Pt) : (hullP l).1.length ≤ 2 * l.length := by
  unfold hullP
  have h1 := compP_len (sortP l)
  rw [sort_len] at h1
  have h2 := bordP_len (compP (sortP l))
  have h3 := bordP_len (compP (sortP l)).reverse
  rw [List.length_reverse] at h3
  split
  · simp
  · split
    · simp
    · simp only [List.length_append]
      omega

/-- The hull of a triangle's corners is there. -/
theorem hull_three {a b c : Pt} (h1 : lessP a b = true) (h2 : lessP b c = true) (h3 : crossP a b c ≠ 0) : 3 ≤ (bordP [a, b, c] ++ bordP [a, b, c].reverse).length := by
  have e : crossP c b a = -crossP a b c := by unfold crossP crossI; grind
  simp only [List.reverse_cons, List.reverse_nil, List.nil_append, List.cons_append]
  unfold bordP
  simp only [bordGo, popP, e]
  by_cases h : crossP a b c ≤ 0
  · rw [if_pos h, if_neg (by omega)]
    simp [bordGo, popP]
  · rw [if_neg h, if_pos (by omega)]
    simp [bordGo, popP]
theorem asc_three {l : List Pt} (h : Asc l) (hn : l.Nodup) : l.Pairwise fun a b => lessP a b = true := by
  refine (h.and hn).imp fun {a b} ⟨h1, h2⟩ => ?_
  rcases hl : lessP a b with _ | _
  · exact absurd (less_anti hl h1) h2
  · rfl
theorem comp_same : ∀ {l : List Pt} {a : Pt}, (a :: l).Nodup → compGo a l = l
  | [], _, _ => rfl
  | b :: l, a, h => by
    have h' := List.nodup_cons.1 h
    rw [compGo, if_neg (fun e => h'.1 (by rw [e]; exact List.mem_cons_self ..)), comp_same h'.2]
theorem compP_same : ∀ {l : List Pt}, l.Nodup → compP l = l
  | [], _ => rfl
  | a :: l, h => by rw [compP, comp_same h]
theorem hull_tri {a b c : Pt} (h : crossP a b c ≠ 0) : (hullP [a, b, c]).2 = true := by
  have hab : a ≠ b := by rintro rfl; exact h (by unfold crossP crossI; grind)
  have hac : a ≠ c := by rintro rfl; exact h (by unfold crossP crossI; grind)
  have hbc : b ≠ c := by rintro rfl; exact h (by unfold crossP crossI; grind)
  have hn : [a, b, c].Nodup := by simp [hab, hac, hbc]
  have hp := sort_perm [a, b, c]
  have ha := sort_asc [a, b, c]
  have hsn : (sortP [a, b, c]).Nodup := hp.nodup_iff.2 hn
  have hl := sort_len [a, b, c]
  have hc := compP_same hsn
  unfold hullP
  rw [hc]
  generalize sortP [a, b, c] = s at *
  obtain _ | ⟨x, _ | ⟨y, _ | ⟨z, _ | _⟩⟩⟩ := s <;> simp at hl
  have h3 := asc_three ha hsn
  simp only [List.pairwise_cons, List.mem_cons, List.not_mem_nil, or_false, forall_eq_or_imp, forall_eq] at h3
  have hx : crossP x y z ≠ 0 := by
    have mx : x = a ∨ x = b ∨ x = c := by have := hp.mem_iff.1 (List.mem_cons_self ..); simpa using this
    have my : y = a ∨ y = b ∨ y = c := by have := hp.mem_iff (a := y).1 (by simp); simpa using this
    have mz : z = a ∨ z = b ∨ z = c := by have := hp.mem_iff (a := z).1 (by simp); simpa using this
    simp only [List.nodup_cons, List.mem_cons, List.not_mem_nil, or_false, not_or, not_false_eq_true, List.nodup_nil, and_true] at hsn
    unfold crossP crossI at h ⊢
    rcases mx with rfl | rfl | rfl <;> rcases my with rfl | rfl | rfl <;> rcases mz with rfl | rfl | rfl <;> first | (exfalso; simp at hsn; done) | grind
  have := hull_three h3.1.1 h3.2.1 hx
  simp only [List.length_cons, List.length_nil]
  rw [if_neg (by omega), if_neg (by omega)]

/- Regions, blocked moves, spots. -/
def leftI (p q d : Pt) : Int := (q.x - p.x) * (d.y - p.y) - (q.y - p.y) * (d.x - p.x)
def interGo (r : List Pt) (d : Pt) : Nat → Nat → Bool
  | 0, _ => true
  | f + 1, i => if leftI (gp r i) (gp r ((i + 1) % r.length)) d ≤ 0 then false else interGo r d f (i + 1)
def interB (r : List Pt) (d : Pt) : Bool := interGo r d r.length 0 && decide (0 < r.length)
def farP (d : Pt) : Bool := decide (d.x < -2097152) || decide (2097152 < d.x) || decide (d.y < -2097152) || decide (2097152 < d.y)
def blockB (rs : List (List Pt)) (d : Pt) : Bool := if farP d = true then false else rs.any fun r => interB r d
def negP (p : Pt) : Pt := ⟨-p.x, -p.y⟩
def regsR (a b : List Pt) : List (List Pt) := (splitR a).1.flatMap fun s => (splitR b).1.map fun t => (msumR s (t.map negP)).1
def spotsOf (rs : List (List Pt)) : List Pt := sortP (addAll [] (rs.flatten.filter fun v => !blockB rs v))
def spotsR (a b : List Pt) : List Pt := spotsOf (regsR a b)
theorem block_congr {rs rs' : List (List Pt)} (h : ∀ r, r ∈ rs ↔ r ∈ rs') (d : Pt) : blockB rs d = blockB rs' d := by
  unfold blockB
  split
  · rfl
  · rw [Bool.eq_iff_iff, List.any_eq_true, List.any_eq_true]
    exact ⟨fun ⟨r, hr, k⟩ => ⟨r, (h r).1 hr, k⟩, fun ⟨r, hr, k⟩ => ⟨r, (h r).2 hr, k⟩⟩
theorem spots_mem {rs : List (List Pt)} {v : Pt} : v ∈ spotsOf rs ↔ (∃ r ∈ rs, v ∈ r) ∧ blockB rs v = false := by
  unfold spotsOf
  rw [sort_mem, addAll_mem, List.mem_filter, List.mem_flatten]
  simp
theorem spots_of {rs rs' : List (List Pt)} (h : ∀ r, r ∈ rs ↔ r ∈ rs') {m : List Pt} (hn : m.Nodup) (hm : ∀ v, v ∈ m ↔ (∃ r ∈ rs, v ∈ r) ∧ blockB rs v = false) (ha : Asc m) : m = spotsOf rs' := by
  refine sort_bag hn (fun v => ?_) ha
  rw [hm, List.mem_filter, List.mem_flatten, block_congr h]
  simp only [Bool.not_eq_true', h]

/- Candidates and steps. -/
def placesR (bw : Int) (t : List Pt) (placed : List (List Pt)) : List Pt :=
  placed.foldl (fun acc q => (spotsR q t).foldl (fun acc v => addAll acc [v, ⟨v.x, -(loOf t).y⟩, ⟨v.x, bw - (hiOf t).y⟩, ⟨-(loOf t).x, v.y⟩]) acc) (addAll [] [⟨-(loOf t).x, -(loOf t).y⟩, ⟨-(loOf t).x, bw - (hiOf t).y⟩])
def nextI (p a b : Int) : Int := a + modI (b - a) p
def nextP (rx ry : Int) (a b : Pt) : Pt := ⟨nextI (periodI rx) (limI a.x) (limI b.x), nextI (periodI ry) (limI a.y) (limI b.y)⟩
def settleR (rx ry : Int) (s : Sh) (f : Bool) (q : Int) (p : Pt) : Option Pt :=
  if s.mt = false then some p
  else if outsideB s.ax s.ay = true then none
  else if outsideB ((applyP f q ⟨s.ax, s.ay⟩).x + p.x) ((applyP f q ⟨s.ax, s.ay⟩).y + p.y) = true then none
  else some ⟨(nextP rx ry ⟨(applyP f q ⟨s.ax, s.ay⟩).x + p.x, (applyP f q ⟨s.ax, s.ay⟩).y + p.y⟩ ⟨0, 0⟩).x - (applyP f q ⟨s.ax, s.ay⟩).x, (nextP rx ry ⟨(applyP f q ⟨s.ax, s.ay⟩).x + p.x, (applyP f q ⟨s.ax, s.ay⟩).y + p.y⟩ ⟨0, 0⟩).y - (applyP f q ⟨s.ax, s.ay⟩).y⟩
def keptR (b : Bd) (s : Sh) (f : Bool) (q : Int) (l : List Pt) : List Pt :=
  l.foldl (fun acc p => match settleR b.rx b.ry s f q p with | some a => addP acc a | none => acc) []
def candR (b : Bd) (s : Sh) (f : Bool) (q : Int) (t : List Pt) (placed : List (List Pt)) : List Pt := sortP (keptR b s f q (placesR b.w t placed))
/-- The polygons of puts, or the first error. -/
def polysR (l : List Sh) : List Pu → List (List Pt) × Int
  | [] => ([], 0)
  | p :: ps => if (polyR l p).2 ≠ 0 then ([], (polyR l p).2) else if (polysR l ps).2 ≠ 0 then ([], (polysR l ps).2) else ((polyR l p).1 :: (polysR l ps).1, 0)
def prepE (b : Bd) (l : List Sh) (puts : List Pu) (sh : Int) (f : Bool) (q : Int) : Int :=
  if b.l < 1 ∨ 1048576 < b.l ∨ b.w < 1 ∨ 1048576 < b.w then 3
  else if (polyR l ⟨sh, f, q, 0, 0⟩).2 ≠ 0 then (polyR l ⟨sh, f, q, 0, 0⟩).2
  else (polysR l puts).2
def firstFit (b : Bd) (l : List Sh) (puts : List Pu) (sh : Int) (q : Int) : List Pt → Option Pu
  | [] => none
  | v :: vs => if fitsR b l puts ⟨sh, false, q, v.x, v.y⟩ = 0 then some ⟨sh, false, q, v.x, v.y⟩ else firstFit b l puts sh q vs
/-- A put that fits, and the greatest X of its polygon. -/
structure En where
  p : Pu
  r : Int
def turnsR (g : Int) : List Int := [0, 1, 2, 3].filter fun q => allowB g false q
def endsR (b : Bd) (l : List Sh) (puts : List Pu) (sh : Int) (s : Sh) (placed : List (List Pt)) : List Int → List En → List En × Int
  | [], acc => (acc, 0)
  | q :: qs, acc =>
    if (polyR l ⟨sh, false, q, 0, 0⟩).2 ≠ 0 then ([], (polyR l ⟨sh, false, q, 0, 0⟩).2)
    else match firstFit b l puts sh q (candR b s false q (polyR l ⟨sh, false, q, 0, 0⟩).1 placed) with
      | some p => endsR b l puts sh s placed qs (acc ++ [⟨p, p.x + (hiOf (polyR l ⟨sh, false, q, 0, 0⟩).1).x⟩])
      | none => endsR b l puts sh s placed qs acc
def cmpEn (a b : En) : Int :=
  if Lib.compareInt a.r b.r ≠ 0 then Lib.compareInt a.r b.r
  else if Lib.compareInt a.p.y b.p.y ≠ 0 then Lib.compareInt a.p.y b.p.y
  else if Lib.compareInt a.p.x b.p.x ≠ 0 then Lib.compareInt a.p.x b.p.x
  else Lib.compareInt a.p.q b.p.q
def leastEn (z : En) : List En → En
  | [] => z
  | e :: l => leastEn (if cmpEn e z < 0 then e else z) l
def zeroPu : Pu := ⟨0, false, 0, 0, 0⟩
def stepR (b : Bd) (l : List Sh) (puts : List Pu) (sh : Int) : Pu × Int :=
  if prepE b l puts sh false 0 ≠ 0 then (zeroPu, prepE b l puts sh false 0)
  else if (endsR b l puts sh (gs l sh.toNat) (polysR l puts).1 (turnsR (gs l sh.toNat).gr) []).2 ≠ 0 then (zeroPu, (endsR b l puts sh (gs l sh.toNat) (polysR l puts).1 (turnsR (gs l sh.toNat).gr) []).2)
  else match (endsR b l puts sh (gs l sh.toNat) (polysR l puts).1 (turnsR (gs l sh.toNat).gr) []).1 with
    | [] => (zeroPu, 18)
    | e :: es => ((leastEn e es).p, 0)
def runGo (b : Bd) (l : List Sh) : List Int → List Pu → List Pu × Int
  | [], acc => (acc, 0)
  | sh :: o, acc => if (stepR b l acc sh).2 ≠ 0 then ([], (stepR b l acc sh).2) else runGo b l o (acc ++ [(stepR b l acc sh).1])
def runR (b : Bd) (l : List Sh) (o : List Int) : List Pu × Int := if 60 < o.length then ([], 5) else runGo b l o []

/- Orders, the bound, the best order. -/
def extendO (n : Nat) (o : List Int) : List (List Int) := ((List.range n).filter fun (i : Nat) => !o.contains (i : Int)).map fun (i : Nat) => o ++ [(i : Int)]
def ordersGo (n : Nat) : Nat → List (List Int)
  | 0 => [[]]
  | k + 1 => (ordersGo n k).flatMap (extendO n)
def ordersR (n : Nat) : List (List Int) := if 5 < n then [] else ordersGo n n
def narrowGo (ps : List Pt) : List Int → Nat → Int → Int
  | [], _, m => m
  | q :: qs, i, m => narrowGo ps qs (i + 1) (if i = 0 ∨ (hiOf (turnPs false q ps)).x - (loOf (turnPs false q ps)).x < m then (hiOf (turnPs false q ps)).x - (loOf (turnPs false q ps)).x else m)
def narrowE (ps : List Pt) : List Int → Int
  | [] => 0
  | q :: qs => if checkI (turnPs false q ps) ≠ 0 then checkI (turnPs false q ps) else narrowE ps qs
def narrowR (s : Sh) : Int × Int :=
  if checkI s.ps ≠ 0 then (0, checkI s.ps)
  else if turnsR s.gr = [] then (0, 12)
  else if narrowE s.ps (turnsR s.gr) ≠ 0 then (0, narrowE s.ps (turnsR s.gr))
  else (narrowGo s.ps (turnsR s.gr) 0 0, 0)
def boundGo : List Sh → Int → Int → Int × Int × Int
  | [], a, m => (a, m, 0)
  | s :: l, a, m => if (narrowR s).2 ≠ 0 then (0, 0, (narrowR s).2) else boundGo l (a + max (areaI s.ps) (-(areaI s.ps))) (max m (narrowR s).1)
def boundR (b : Bd) (l : List Sh) : Int × Int :=
  if b.l < 1 ∨ 1048576 < b.l ∨ b.w < 1 ∨ 1048576 < b.w then (0, 3)
  else if 60 < l.length then (0, 5)
  else if (boundGo l 0 0).2.2 ≠ 0 then (0, (boundGo l 0 0).2.2)
  else (max (((boundGo l 0 0).1 + 2 * b.w - 1) / (2 * b.w)) (boundGo l 0 0).2.1, 0)
def bestOrd (b : Bd) (l : List Sh) : List (List Int) → Option (List Int × Int) → Option (List Int × Int)
  | [], z => z
  | o :: os, z =>
    if (runR b l o).2 ≠ 0 then bestOrd b l os z
    else if (extR l (runR b l o).1).2 ≠ 0 then bestOrd b l os z
    else match z with
      | none => bestOrd b l os (some (o, (extR l (runR b l o).1).1))
      | some (o', m) => if (extR l (runR b l o).1).1 < m then bestOrd b l os (some (o, (extR l (runR b l o).1).1)) else bestOrd b l os (some (o', m))
def searchR (b : Bd) (l : List Sh) : List Int × Int × Int :=
  if 5 < l.length then ([], 0, 5)
  else if (boundR b l).2 ≠ 0 then ([], 0, (boundR b l).2)
  else match bestOrd b l (ordersR l.length) none with
    | none => ([], 0, 18)
    | some (o, m) => (o, m, 0)

end Go.Proofs.YtdhakoecjmaebaaGreat
