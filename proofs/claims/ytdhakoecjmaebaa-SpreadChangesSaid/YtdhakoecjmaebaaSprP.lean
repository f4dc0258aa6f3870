/-
  Spreading, plain: what spread.Spread, spread.Check and spread.Rests return, as functions of lists; no program in sight.
-/
import Derived.Test.YtdhakoecjmaebaaSplP
import Derived.Test.YtdhakoecjmaebaaRoll
namespace Go.Proofs.Ytdhakoecjmaebaa
open Go.RowKit
set_option linter.unusedSimpArgs false
set_option linter.unusedVariables false

def gL (l : List Int) (j : Nat) : Int := l.getD j 0
def grl (rs : List Rl) (j : Nat) : Rl := rs.getD j ⟨⟨#[]⟩, 0, 0, 0, 0, 0, none, 0, []⟩
theorem grl_eq {rs : List Rl} {j : Nat} (h : j < rs.length) : grl rs j = rs[j] := by unfold grl; simp [h]
theorem gL_eq {l : List Int} {j : Nat} (h : j < l.length) : gL l j = l[j] := by unfold gL; simp [h]
def rollsErr : List Rl → Int
  | [] => 0
  | r :: l => if rollI r ≠ 0 then rollI r else rollsErr l
theorem rolls_bad {r : Rl} {l : List Rl} (h : rollI r ≠ 0) : rollsErr (r :: l) = rollI r := by rw [rollsErr, if_pos h]
theorem rolls_good {r : Rl} {l : List Rl} (h : rollI r = 0) : rollsErr (r :: l) = rollsErr l := by rw [rollsErr, if_neg (by simpa using h)]
theorem rolls_all {l : List Rl} : rollsErr l = 0 ↔ ∀ r ∈ l, rollI r = 0 := by
  induction l with
  | nil => simp [rollsErr]
  | cons r l ih =>
    by_cases h : rollI r = 0
    · rw [rolls_good h, ih]; simp [h]
    · rw [rolls_bad h]; simp [h]
def chkRollsR (rs : List Rl) (nl : Nat) : Int := if 20 < rs.length then 5 else if rollsErr rs ≠ 0 then rollsErr rs else if nl ≠ rs.length then 1 else 0
def chkClothR (len wd : Int) (polys : List (List Pt)) (rs : List Rl) (nl : Nat) : Int :=
  if (BackR len polys 0).2 ≠ 0 then (BackR len polys 0).2 else if chkRollsR rs nl ≠ 0 then chkRollsR rs nl else if wd < 1 ∨ 1048576 < wd then 3 else 0
def lotsBad : List Int → Bool
  | [] => false
  | n :: l => if n < 0 then true else lotsBad l
def pliesGo : Int → List Int → Int
  | _, [] => 0
  | s, n :: l => if n < 0 ∨ 40 - s < n then 3 else pliesGo (s + n) l
def chkPliesR (lots plies : List Int) : Int := if lotsBad lots = true then 3 else pliesGo 0 plies
/-- The rolls of a lot that are wide enough, whole: roll, lot, from, to. -/
def remGo (lot wd : Int) : List Rl → List Int → Nat → List Qd
  | r :: rs, t :: ts, i => if t = lot ∧ wd ≤ r.wd then ⟨(i : Int), lot, 0, r.ln⟩ :: remGo lot wd rs ts (i + 1) else remGo lot wd rs ts (i + 1)
  | _, _, _ => []
def remR (rs : List Rl) (lots : List Int) (lot wd : Int) : List Qd := remGo lot wd rs lots 0
/-- A ply from place at on: its parts and what is left. -/
def layR (len : Int) (polys : List (List Pt)) : List Qd → Int → Option (List Qd × List Qd)
  | [], _ => none
  | r :: l, at_ =>
    if len - at_ ≤ r.d - r.c then some ([⟨r.a, r.c, r.c + (len - at_), at_⟩], ⟨r.a, r.b, r.c + (len - at_), r.d⟩ :: l)
    else if 0 < r.d - r.c ∧ (BestR len polys at_ (at_ + (r.d - r.c))).2 = 0 then
      (layR len polys l (BestR len polys at_ (at_ + (r.d - r.c))).1.x).map fun x => (⟨r.a, r.c, r.c + ((BestR len polys at_ (at_ + (r.d - r.c))).1.y - at_), at_⟩ :: x.1, x.2)
    else layR len polys l at_
abbrev Pl := Int × List Qd
def pliesN (len : Int) (polys : List (List Pt)) (lot : Int) : Nat → List Qd → Option (List Pl)
  | 0, _ => some []
  | n + 1, left => (layR len polys left 0).bind fun x => (pliesN len polys lot n x.2).map fun r => (lot, x.1) :: r
def lotsGo (len wd : Int) (polys : List (List Pt)) (rs : List Rl) (lots : List Int) : List Int → Nat → Option (List Pl)
  | [], _ => some []
  | n :: l, k => (pliesN len polys k n.toNat (remR rs lots k wd)).bind fun x => (lotsGo len wd polys rs lots l (k + 1)).map fun r => x ++ r

def clothB (p : Qd) (rs : List Rl) : Bool := decide (0 ≤ p.a) && (decide (p.a < (rs.length : Int)) && (decide (0 ≤ p.b) && (decide (p.b < p.c) && decide (p.c ≤ (grl rs p.a.toNat).ln))))
def endQ (p : Qd) : Int := p.d + p.c - p.b
def joinsB (len : Int) (polys : List (List Pt)) (p q : Qd) : Bool :=
  if q.d ≤ p.d ∨ endQ p < q.d then false else (BackR len polys (endQ p)).2 == 0 && decide (q.d ≤ (BackR len polys (endQ p)).1)
def partErr (len wd : Int) (polys : List (List Pt)) (rs : List Rl) (lots : List Int) (lot : Int) (prev : Option Qd) (p : Qd) : Int :=
  if clothB p rs = false ∨ p.d < 0 ∨ len < p.d then 3 else if gL lots p.a.toNat ≠ lot then 16 else if (grl rs p.a.toNat).wd < wd then 13
  else match prev with
    | none => if p.d ≠ 0 then 20 else 0
    | some q => if joinsB len polys q p = true then 0 else 20
def plyGo (len wd : Int) (polys : List (List Pt)) (rs : List Rl) (lots : List Int) (lot : Int) : Option Qd → List Qd → Int
  | none, [] => 20
  | some q, [] => if endQ q ≠ len then 20 else 0
  | prev, p :: l => if partErr len wd polys rs lots lot prev p ≠ 0 then partErr len wd polys rs lots lot prev p else plyGo len wd polys rs lots lot (some p) l
def plyR (len wd : Int) (polys : List (List Pt)) (rs : List Rl) (lots : List Int) (y : Pl) : Int := plyGo len wd polys rs lots y.1 none y.2
def plysErr (len wd : Int) (polys : List (List Pt)) (rs : List Rl) (lots : List Int) : List Pl → Int
  | [] => 0
  | y :: l => if plyR len wd polys rs lots y ≠ 0 then plyR len wd polys rs lots y else plysErr len wd polys rs lots l
theorem plys_bad {len wd : Int} {polys : List (List Pt)} {rs : List Rl} {lots : List Int} {y : Pl} {l : List Pl} (h : plyR len wd polys rs lots y ≠ 0) : plysErr len wd polys rs lots (y :: l) = plyR len wd polys rs lots y := by rw [plysErr, if_pos h]
theorem plys_good {len wd : Int} {polys : List (List Pt)} {rs : List Rl} {lots : List Int} {y : Pl} {l : List Pl} (h : plyR len wd polys rs lots y = 0) : plysErr len wd polys rs lots (y :: l) = plysErr len wd polys rs lots l := by rw [plysErr, if_neg (by simpa using h)]
theorem plys_all {len wd : Int} {polys : List (List Pt)} {rs : List Rl} {lots : List Int} {l : List Pl} : plysErr len wd polys rs lots l = 0 ↔ ∀ y ∈ l, plyR len wd polys rs lots y = 0 := by
  induction l with
  | nil => simp [plysErr]
  | cons r l ih =>
    by_cases h : plyR len wd polys rs lots r = 0
    · rw [plys_good h, ih]; simp [h]
    · rw [plys_bad h]; simp [h]
def allQ (ys : List Pl) : List Qd := ys.flatMap (·.2)
/-- Two parts use the same cloth. -/
def Clash (p q : Qd) : Prop := p.a = q.a ∧ p.b < q.c ∧ q.b < p.c
instance (p q : Qd) : Decidable (Clash p q) := by unfold Clash; exact inferInstance
def NoTwice (l : List Qd) : Prop := l.Pairwise fun p q => ¬ Clash p q
instance (l : List Qd) : Decidable (NoTwice l) := by unfold NoTwice; exact inferInstance
def scheckR (len wd : Int) (polys : List (List Pt)) (rs : List Rl) (lots : List Int) (ys : List Pl) : Int :=
  if chkClothR len wd polys rs lots.length ≠ 0 then chkClothR len wd polys rs lots.length else if 40 < ys.length then 5
  else if plysErr len wd polys rs lots ys ≠ 0 then plysErr len wd polys rs lots ys else if NoTwice (allQ ys) then 0 else 14

/- What is left of the rolls. -/
def insZ (z : Pt) : List Pt → List Pt
  | [] => [z]
  | y :: l => if z.x ≤ y.x then z :: y :: l else y :: insZ z l
def sortZ (l : List Pt) : List Pt := l.foldr insZ []
def zonesOf (i : Int) (parts : List Qd) : List Pt := (parts.filter fun q => decide (q.a = i)).map fun q => ⟨q.b, q.c⟩
def restGo (i lot ln : Int) : Int → List Pt → List Qd
  | f, [] => if f < ln then [⟨i, lot, f, ln⟩] else []
  | f, z :: l => (if f < z.x then [⟨i, lot, f, z.x⟩] else []) ++ restGo i lot ln z.y l
def restsFrom (parts : List Qd) : List Rl → List Int → Nat → List Qd
  | r :: rs, t :: ts, i => restGo i t r.ln 0 (sortZ (zonesOf i parts)) ++ restsFrom parts rs ts (i + 1)
  | _, _, _ => []
def restsR (rs : List Rl) (lots : List Int) (ys : List Pl) : List Qd × Int :=
  if chkRollsR rs lots.length ≠ 0 then ([], chkRollsR rs lots.length) else if 40 < ys.length then ([], 5)
  else if (allQ ys).all (fun p => clothB p rs) = false then ([], 3) else if NoTwice (allQ ys) then (restsFrom (allQ ys) rs lots 0, 0) else ([], 14)
def spreadR (len wd : Int) (polys : List (List Pt)) (rs : List Rl) (lots plies : List Int) : List Pl × List Qd × Int :=
  if chkClothR len wd polys rs lots.length ≠ 0 then ([], [], chkClothR len wd polys rs lots.length) else if chkPliesR lots plies ≠ 0 then ([], [], chkPliesR lots plies)
  else match lotsGo len wd polys rs lots plies 0 with
    | none => ([], [], 17)
    | some ys => if (restsR rs lots ys).2 ≠ 0 then ([], [], (restsR rs lots ys).2) else (ys, (restsR rs lots ys).1, 0)

/- Sorting. -/
theorem insZ_perm (z : Pt) (l : List Pt) : (insZ z l).Perm (z :: l) := by
  induction l with
  | nil => exact List.Perm.refl _
  | cons y l ih =>
    rw [insZ]
    split
    · exact List.Perm.refl _
    · exact (ih.cons y).trans (List.Perm.swap ..)
theorem sortZ_perm (l : List Pt) : (sortZ l).Perm l := by
  induction l with
  | nil => exact List.Perm.refl _
  | cons y l ih => exact (insZ_perm y _).trans (ih.cons y)
theorem insZ_sorted (z : Pt) {l : List Pt} (h : l.Pairwise fun a b => a.x ≤ b.x) : (insZ z l).Pairwise fun a b => a.x ≤ b.x := by
  induction l with
  | nil => exact List.pairwise_singleton ..
  | cons y l ih =>
    rw [List.pairwise_cons] at h
    rw [insZ]
    split
    · rename_i hz
      rw [List.pairwise_cons]
      refine ⟨fun a ha => ?_, List.pairwise_cons.2 h⟩
      rcases List.mem_cons.1 ha with rfl | ha
      · exact hz
      · have := h.1 a ha; omega
    · rename_i hz
      rw [List.pairwise_cons]
      refine ⟨fun a ha => ?_, ih h.2⟩
      rcases List.mem_cons.1 ((insZ_perm z l).subset ha) with rfl | ha
      · omega
      · exact h.1 a ha
theorem sortZ_sorted (l : List Pt) : (sortZ l).Pairwise fun a b => a.x ≤ b.x := by
  induction l with
  | nil => exact List.Pairwise.nil
  | cons y l ih => exact insZ_sorted y ih
/-- Zones one behind the other. -/
def Apt (l : List Pt) : Prop := l.Pairwise fun a b => a.y ≤ b.x
/-- Two lists of the same zones, sorted by their beginnings, of which one has them apart, are one. -/
theorem sorted_unique : ∀ {l m : List Pt}, l.Perm m → (∀ z ∈ m, z.x < z.y) → (l.Pairwise fun a b => a.x ≤ b.x) → Apt m → l = m := by
  intro l m
  induction m generalizing l with
  | nil => intro h _ _ _; exact h.eq_nil
  | cons z m ih =>
    intro h hz hl hm
    unfold Apt at hm
    rw [List.pairwise_cons] at hm
    cases l with
    | nil => exact absurd h.symm.eq_nil (by simp)
    | cons y l =>
      rw [List.pairwise_cons] at hl
      have hy : y = z := by
        rcases List.mem_cons.1 (h.subset (List.mem_cons_self ..)) with k | k
        · exact k
        · rcases List.mem_cons.1 (h.symm.subset (List.mem_cons_self ..)) with j | j
          · exact j.symm
          · have := hl.1 z j
            have := hm.1 y k
            have := hz z (List.mem_cons_self ..)
            omega
      subst hy
      rw [ih (List.Perm.cons_inv h) (fun z hz' => hz z (List.mem_cons_of_mem _ hz')) hl.2 hm.2]
theorem zones_mem {i : Int} {parts : List Qd} {z : Pt} : z ∈ zonesOf i parts ↔ ∃ q ∈ parts, q.a = i ∧ z = ⟨q.b, q.c⟩ := by
  unfold zonesOf
  rw [List.mem_map]
  constructor
  · rintro ⟨q, hq, rfl⟩
    rw [List.mem_filter] at hq
    exact ⟨q, hq.1, by simpa using hq.2, rfl⟩
  · rintro ⟨q, hq, h, rfl⟩
    exact ⟨q, List.mem_filter.2 ⟨hq, by simpa using h⟩, rfl⟩
theorem zones_append (i : Int) (a b : List Qd) : zonesOf i (a ++ b) = zonesOf i a ++ zonesOf i b := by unfold zonesOf; rw [List.filter_append, List.map_append]
theorem zones_cons (i : Int) (p : Qd) (b : List Qd) : zonesOf i (p :: b) = (if p.a = i then [⟨p.b, p.c⟩] else []) ++ zonesOf i b := by
  unfold zonesOf
  rw [List.filter_cons]
  by_cases h : p.a = i <;> simp [h]
/-- Zones do not overlap. -/
def Disj (l : List Pt) : Prop := l.Pairwise fun a b => ¬ (a.x < b.y ∧ b.x < a.y)
theorem disj_perm {l m : List Pt} (h : l.Perm m) : Disj l → Disj m := by
  intro hl
  unfold Disj at *
  exact (h.pairwise_iff (fun {a b} hab => by intro k; exact hab ⟨k.2, k.1⟩)).1 hl
theorem apt_disj {l : List Pt} (hz : ∀ z ∈ l, z.x < z.y) (hs : l.Pairwise fun a b => a.x ≤ b.x) : Disj l ↔ Apt l := by
  unfold Disj Apt
  constructor
  · intro h
    refine (List.Pairwise.and h hs).imp_of_mem fun {a b} ha hb hab => ?_
    have := hz a ha
    have := hz b hb
    omega
  · intro h
    exact h.imp fun hab k => by omega
theorem noTwice_disj {l : List Qd} (h : NoTwice l) (i : Int) : Disj (zonesOf i l) := by
  unfold Disj zonesOf
  rw [List.pairwise_map]
  have := (List.Pairwise.filter (fun q => decide (q.a = i)) h)
  refine this.imp_of_mem fun {a b} ha hb hab k => hab ⟨?_, k.1, k.2⟩
  rw [List.mem_filter] at ha hb
  have h1 : a.a = i := by simpa using ha.2
  have h2 : b.a = i := by simpa using hb.2
  rw [h1, h2]
theorem noTwice_of {l : List Qd} {n : Nat} (hn : ∀ p ∈ l, 0 ≤ p.a ∧ p.a < (n : Int)) (h : ∀ i : Nat, i < n → Disj (zonesOf i l)) : NoTwice l := by
  unfold NoTwice
  induction l with
  | nil => exact List.Pairwise.nil
  | cons p l ih =>
    rw [List.pairwise_cons]
    refine ⟨fun q hq hc => ?_, ih (fun r hr => hn r (List.mem_cons_of_mem _ hr)) (fun i hi => ?_)⟩
    · have hp := hn p (List.mem_cons_self ..)
      have := h p.a.toNat (by omega)
      rw [show ((p.a.toNat : Nat) : Int) = p.a by omega, zones_cons, if_pos rfl] at this
      unfold Disj at this
      rw [List.singleton_append, List.pairwise_cons] at this
      exact this.1 ⟨q.b, q.c⟩ (zones_mem.2 ⟨q, hq, hc.1.symm, rfl⟩) ⟨hc.2.1, hc.2.2⟩
    · have := h i hi
      rw [zones_cons] at this
      unfold Disj at *
      exact (List.pairwise_append.1 this).2.1
theorem noTwice_perm {l m : List Qd} (h : l.Perm m) : NoTwice l ↔ NoTwice m := by
  unfold NoTwice
  exact h.pairwise_iff (fun {a b} hab k => hab ⟨k.1.symm, k.2.2, k.2.1⟩)

end Go.Proofs.Ytdhakoecjmaebaa
