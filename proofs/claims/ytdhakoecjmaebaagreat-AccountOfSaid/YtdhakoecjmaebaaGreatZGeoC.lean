/-
 Plain facts on the account of a lay: what it takes, what lies double, pieces and damaged pieces.
-/
import Derived.Test.YtdhakoecjmaebaaGreatZSplP
import Derived.Test.YtdhakoecjmaebaaGreatZSprR
import Derived.Test.YtdhakoecjmaebaaGreatZGeoB
namespace Go.Proofs.YtdhakoecjmaebaaGreat
open Go.RowKit
set_option linter.unusedSimpArgs false
set_option linter.unusedVariables false
def ckYGo (W : Int) : List (List Pt) → Int
 | [] => 0
 | p :: l => if checkI p ≠ 0 then checkI p else if (loOf p).y < 0 ∨ W < (hiOf p).y then 13 else ckYGo W l
def ckORow (p : List Pt) : List (List Pt) → Int
 | [] => 0
 | q :: l => if (overR p q).2 ≠ 0 then (overR p q).2 else if (overR p q).1 = true then 14 else ckORow p l
def ckOGo (ps : List (List Pt)) : Nat → Nat → Int
 | 0, _ => 0
 | f + 1, i => if ckORow (ps.getD i []) (ps.take i) ≠ 0 then ckORow (ps.getD i []) (ps.take i) else ckOGo ps f (i + 1)
def ckPolysR (ps : List (List Pt)) (W : Int) : Int := if ckYGo W ps ≠ 0 then ckYGo W ps else ckOGo ps ps.length 0
theorem over_zero {a b : List Pt} (ha : checkI a = 0) (hb : checkI b = 0) : (overR a b).2 = 0 := by
 simp only [overR, relationR, splitR_err, ha, hb, ne_eq, not_true_eq_false, if_false]
theorem over_comm {a b : List Pt} (ha : checkI a = 0) (hb : checkI b = 0) : (overR a b).1 = (overR b a).1 := by
 have h1 := over_zero ha hb
 have h2 := over_zero hb ha
 rcases h : (overR a b).1 with _ | _
 ·exact ((Apart.symm ⟨h1, h⟩).2).symm
 ·rcases h' : (overR b a).1 with _ | _
  ·rw [(Apart.symm ⟨h2, h'⟩).2] at h; cases h
  ·rfl
theorem ckY_zero {W : Int} : ∀ {ps : List (List Pt)}, ckYGo W ps = 0 → ∀ p ∈ ps, checkI p = 0 ∧ 0 ≤ (loOf p).y ∧ (hiOf p).y ≤ W := by
 intro ps
 induction ps with
 | nil => intro _ p hp; cases hp
 | cons a l ih =>
  intro h p hp
  rw [ckYGo] at h
  split at h
  ·exact absurd h (by assumption)
  ·rename_i h0
   split at h
   ·cases h
   ·rename_i h1
    rcases List.mem_cons.1 hp with rfl | hp
    ·exact ⟨Classical.byContradiction h0, by omega, by omega⟩
    ·exact ih h p hp
theorem ckORow_zero {p : List Pt} : ∀ {l : List (List Pt)}, ckORow p l = 0 → ∀ q ∈ l, (overR p q).1 = false := by
 intro l
 induction l with
 | nil => intro _ q hq; cases hq
 | cons a l ih =>
  intro h q hq
  rw [ckORow] at h
  split at h
  ·exact absurd h (by assumption)
  ·split at h
   ·cases h
   ·rename_i h1
    rcases List.mem_cons.1 hq with rfl | hq
    ·simpa using h1
    ·exact ih h q hq
theorem ckOGo_zero {ps : List (List Pt)} : ∀ {f i : Nat}, ckOGo ps f i = 0 → ∀ k, i ≤ k → k < i + f → ckORow (ps.getD k []) (ps.take k) = 0 := by
 intro f
 induction f with
 | zero => intro i _ k h1 h2; omega
 | succ f ih =>
  intro i h k h1 h2
  rw [ckOGo] at h
  split at h
  ·exact absurd h (by assumption)
  ·rename_i h0
   by_cases e : k = i
   ·subst e; exact Classical.byContradiction h0
   ·exact ih h k (by omega) (by omega)
theorem ckPolys_zero {ps : List (List Pt)} {W : Int} (h : ckPolysR ps W = 0) : (∀ p ∈ ps, checkI p = 0 ∧ 0 ≤ (loOf p).y ∧ (hiOf p).y ≤ W) ∧ ps.Pairwise fun a b => (overR a b).1 = false := by
 unfold ckPolysR at h
 split at h
 ·exact absurd h (by assumption)
 ·rename_i h0
  have hy := ckY_zero (Classical.byContradiction h0)
  refine ⟨hy, List.pairwise_iff_getElem.2 fun i j hi hj hij => ?_⟩
  have hr := ckOGo_zero h j (Nat.zero_le _) (by omega)
  have e : ps.getD j [] = ps[j] := by simp [hj]
  rw [e] at hr
  have hm : ps[i] ∈ ps.take j := by
   have : (ps.take j)[i]'(by rw [List.length_take]; omega) = ps[i] := List.getElem_take
   rw [← this]
   exact List.getElem_mem _
  rw [over_comm (hy _ (List.getElem_mem hi)).1 (hy _ (List.getElem_mem hj)).1]
  exact ckORow_zero hr _ hm
def wdOf (rs : List Rl) (p : Qd) : Int := (grl rs p.a.toNat).wd
def tknQ (rs : List Rl) (l : List Qd) : Int := (l.map fun q => 2 * (q.c - q.b) * wdOf rs q).sum
def dblGo (rs : List Rl) : Qd → List Qd → Int
 | _, [] => 0
 | p, q :: l => 2 * (endQ p - q.d) * wdOf rs p + dblGo rs q l
def dblQ (rs : List Rl) : List Qd → Int
 | [] => 0
 | p :: l => dblGo rs p l
theorem tknQ_take {rs : List Rl} {l : List Qd} {k : Nat} (h : k < l.length) : tknQ rs (l.take (k + 1)) = tknQ rs (l.take k) + 2 * (l[k].c - l[k].b) * wdOf rs l[k] := by
 unfold tknQ
 rw [List.take_succ_eq_append_getElem h, List.map_append, List.sum_append]
 simp
theorem dblGo_take {rs : List Rl} : ∀ {l : List Qd} {p : Qd} {k : Nat} (h : k < l.length), dblGo rs p (l.take (k + 1)) = dblGo rs p (l.take k) + 2 * (endQ ((p :: l)[k]'(by simp; omega)) - l[k].d) * wdOf rs ((p :: l)[k]'(by simp; omega)) := by
 intro l
 induction l with
 | nil => intro p k h; simp at h
 | cons q l ih =>
  intro p k h
  rcases k with _ | k
  ·simp [dblGo]
  ·have := ih (p := q) (k := k) (by simpa using h)
   rw [List.take_succ_cons, List.take_succ_cons, dblGo, dblGo, this]
   simp only [List.getElem_cons_succ]
   omega
theorem dblQ_one {rs : List Rl} {l : List Qd} : dblQ rs (l.take 1) = 0 := by cases l <;> rfl
theorem dblQ_take {rs : List Rl} {l : List Qd} {k : Nat} (h : k + 1 < l.length) : dblQ rs (l.take (k + 1 + 1)) = dblQ rs (l.take (k + 1)) + 2 * (endQ l[k] - l[k + 1].d) * wdOf rs l[k] := by
 cases l with
 | nil => simp at h
 | cons p l =>
  have := dblGo_take (rs := rs) (l := l) (p := p) (k := k) (by simpa using h)
  rw [List.take_succ_cons, List.take_succ_cons]
  exact this
def arA (p : List Pt) : Int := max (areaI p) (-(areaI p))
def sumHit (b : Bool) : List (List Pt) → List Bool → Int
 | p :: ps, x :: r => (if x = b then arA p else 0) + sumHit b ps r
 | _, _ => 0
theorem arA_pos (p : List Pt) : 0 ≤ arA p := by unfold arA; omega
theorem sumHit_pos (b : Bool) : ∀ (ps : List (List Pt)) (r : List Bool), 0 ≤ sumHit b ps r := by
 intro ps
 induction ps with
 | nil => intro r; exact Int.le_refl _
 | cons p ps ih =>
  intro r
  cases r with
  | nil => exact Int.le_refl _
  | cons x r =>
   have := ih r
   have := arA_pos p
   rw [sumHit]
   split <;> omega
theorem sumHit_take {b : Bool} : ∀ {ps : List (List Pt)} {r : List Bool} {k : Nat} (h1 : k < r.length) (h2 : k < ps.length), sumHit b ps (r.take (k + 1)) = sumHit b ps (r.take k) + if r[k] = b then arA ps[k] else 0 := by
 intro ps
 induction ps with
 | nil => intro r k h1 h2; simp at h2
 | cons p ps ih =>
  intro r k h1 h2
  cases r with
  | nil => simp at h1
  | cons x r =>
   rcases k with _ | k
   ·cases ps <;> simp [sumHit]
   ·have := ih (r := r) (k := k) (by simpa using h1) (by simpa using h2)
    rw [List.take_succ_cons, List.take_succ_cons, sumHit, sumHit, this]
    simp only [List.getElem_cons_succ]
    omega
def areaTot (ps : List (List Pt)) : Int := (ps.map arA).sum
theorem areaTot_cons (p : List Pt) (ps : List (List Pt)) : areaTot (p :: ps) = arA p + areaTot ps := by simp [areaTot]
theorem sumHit_both : ∀ {ps : List (List Pt)} {r : List Bool}, r.length = ps.length → sumHit false ps r + sumHit true ps r = areaTot ps := by
 intro ps
 induction ps with
 | nil => intro r h; cases r <;> rfl
 | cons p ps ih =>
  intro r h
  cases r with
  | nil => simp at h
  | cons x r =>
   have := ih (r := r) (by simpa using h)
   rw [sumHit, sumHit, areaTot_cons]
   cases x <;> simp <;> omega
structure Bal where
 t : Int
 p : Int
 d : Int
 w : Int
 s : Int
theorem Bal.ext' {a b : Bal} (h1 : a.t = b.t) (h2 : a.p = b.p) (h3 : a.d = b.d) (h4 : a.w = b.w) (h5 : a.s = b.s) : a = b := by cases a; cases b; simp_all
def Bal.agg (b : Bal) : Value := .agg #[.int .i64 b.t, .int .i64 b.p, .int .i64 b.d, .int .i64 b.w, .int .i64 b.s]
def tknA (rs : List Rl) (ys : List Py) : Int := (ys.map fun y => tknQ rs y.parts).sum
def dblA (rs : List Rl) (ys : List Py) : Int := (ys.map fun y => dblQ rs y.parts).sum
def hitRow (rs : List Rl) (polys : List (List Pt)) (y : Py) : List Bool := polys.map fun q => (hitR y.parts rs q).1
def hitA (b : Bool) (rs : List Rl) (polys : List (List Pt)) (ys : List Py) : Int := (ys.map fun y => sumHit b polys (hitRow rs polys y)).sum
def balR (rs : List Rl) (polys : List (List Pt)) (ys : List Py) : Bal :=
 ⟨tknA rs ys, hitA false rs polys ys, hitA true rs polys ys, tknA rs ys - dblA rs ys - hitA true rs polys ys - hitA false rs polys ys, dblA rs ys⟩
def accE (len wd : Int) (polys : List (List Pt)) (rs : List Rl) (lots : List Int) (ys : List Py) : Int :=
 if scheckR len wd polys rs lots (ys.map Py.pl) ≠ 0 then scheckR len wd polys rs lots (ys.map Py.pl) else ckPolysR polys wd
def accR (len wd : Int) (polys : List (List Pt)) (rs : List Rl) (lots : List Int) (ys : List Py) : Bal × Int :=
 if accE len wd polys rs lots ys = 0 then (balR rs polys ys, 0) else (⟨0, 0, 0, 0, 0⟩, accE len wd polys rs lots ys)
theorem scheck_iff {len wd : Int} {polys : List (List Pt)} {rs : List Rl} {lots : List Int} {ys : List Pl} :
  scheckR len wd polys rs lots ys = 0 ↔ chkClothR len wd polys rs lots.length = 0 ∧ ys.length ≤ 40 ∧ (∀ y ∈ ys, plyR len wd polys rs lots y = 0) ∧ NoTwice (allQ ys) := by
 constructor
 ·intro h
  obtain ⟨a, b, c, d⟩ := scheck_zero h
  exact ⟨a, b, plys_all.1 c, d⟩
 ·rintro ⟨a, b, c, d⟩
  unfold scheckR
  rw [if_neg (by simpa using a), if_neg (by omega), if_neg (by simpa using plys_all.2 c), if_pos d]
end Go.Proofs.YtdhakoecjmaebaaGreat
namespace Go.Proofs.YtdhakoecjmaebaaGreat.Geo
set_option linter.unusedVariables false
set_option linter.unusedSimpArgs false
def ct (u v w q : V) : Int := cs u v q + cs v w q + cs w u q
theorem wn_cut (v w u : V) (m : List V) (q : V) : wn q (poly (v :: w :: (m ++ [u]))) = wn q (poly (w :: (m ++ [u]))) + ct u v w q := by
 have e1 : poly (w :: (m ++ [u])) = edg w m u ++ [(u, w)] := by rw [poly, edg_append]; rfl
 rw [poly_four, e1]
 unfold ct
 simp only [wn, wn_append]
 have := cs_swap w u q
 omega
theorem tri_01 {u v w q : V} (h : 0 < cr u v w) : (ct u v w q = 0 ∨ ct u v w q = 1) ∧ (ct u v w q = 1 → InT u v w q) := by
 by_cases hx : cr u v q < 0 ∨ cr v w q < 0 ∨ cr w u q < 0
 ·have := tri_out h hx
  unfold ct
  omega
 ·have hI : InT u v w q := by unfold InT; grind
  refine ⟨?_, fun _ => hI⟩
  obtain ⟨h1, h2, h3⟩ := hI
  unfold ct cs
  clear hx h
  generalize cr u v q = A at *
  generalize cr v w q = B at *
  generalize cr w u q = C at *
  generalize u.y = a at *
  generalize v.y = b at *
  generalize w.y = c at *
  generalize q.y = d at *
  by_cases k1 : a ≤ d <;> by_cases k2 : b ≤ d <;> by_cases k3 : c ≤ d <;> grind
def Gen (q : V) (l : List V) : Prop := ∀ u ∈ l, ∀ w ∈ l, u ≠ w → cr u w q ≠ 0
theorem edg_ne : ∀ {l : List V} {x b : V}, (x :: l).Nodup → b ∉ x :: l → ∀ e ∈ edg x l b, e.1 ≠ e.2 := by
 intro l
 induction l with
 | nil => intro x b h hb e he; simp [edg] at he; subst he; simp at hb; exact fun k => hb k.symm
 | cons y l ih =>
  intro x b h hb e he
  rw [edg] at he
  rcases List.mem_cons.1 he with rfl | he
  ·exact fun k => (List.nodup_cons.1 h).1 (by simp only [] at k; rw [k]; simp)
  ·exact ih (List.nodup_cons.1 h).2 (fun k => hb (List.mem_cons_of_mem _ k)) e he
theorem poly_ne {l : List V} (h : l.Nodup) (h2 : 2 ≤ l.length) : ∀ e ∈ poly l, e.1 ≠ e.2 ∧ e.1 ∈ l ∧ e.2 ∈ l := by
 intro e he
 match l, h2 with
 | v :: x :: r, _ =>
  have hm := edg_mem (a := v) (l := x :: r) (b := v) he
  refine ⟨?_, hm.1, by have := hm.2; simp at this ⊢; grind⟩
  rw [poly_two] at he
  have hn := List.nodup_cons.1 h
  rcases List.mem_cons.1 he with rfl | he
  ·exact fun k => hn.1 (by simp only [] at k; rw [k]; simp)
  ·exact edg_ne hn.2 hn.1 e he
theorem Gen.off {q : V} {l : List V} (h : Gen q l) (hn : l.Nodup) (h2 : 2 ≤ l.length) : ∀ e ∈ poly l, ¬ On e q := by
 rintro ⟨a, b⟩ he ho
 obtain ⟨h1, h3, h4⟩ := poly_ne hn h2 _ he
 exact h a h3 b h4 h1 ho.cr0
theorem wn_01 : ∀ (n : Nat) (l : List V), l.length = n → Simple l → lam l = 1 → ∀ q, Gen q l → wn q (poly l) = 0 ∨ wn q (poly l) = 1 := by
 intro n
 induction n with
 | zero => intro l h hs; rw [List.eq_nil_of_length_eq_zero h] at hs; simp [Simple] at hs
 | succ n ih =>
  intro l hlen hs hl q hq
  by_cases h3 : l.length = 3
  ·obtain ⟨v, w, m, u, hr, hs0, ht, hl0⟩ := top_form hs
   have hm : m = [] := by
    have := hr.len
    simp at this
    exact List.eq_nil_of_length_eq_zero (by omega)
   subst hm
   rw [← hr.wn, wn_cut]
   rcases lam_top hs0 ht with k | k
   ·have e : wn q (poly (w :: ([] ++ [u]))) = 0 := by
     have := cs_swap w u q
     simp only [poly, edg, wn, List.nil_append]
     omega
    have := (tri_01 (q := q) k.2).1
    rw [e]
    omega
   ·rw [← hl0] at k; omega
  ·have h4 : 4 ≤ l.length := by have := hs.1; omega
   obtain ⟨e, he⟩ : ∃ e, e ∈ poly l := by
    cases l with
    | nil => simp at h4
    | cons v r => cases r with
     | nil => simp at h4
     | cons w r => exact ⟨(v, w), by simp [poly, edg]⟩
   obtain ⟨i, ⟨b, m, a, hr, hD, hfree⟩, _⟩ := ears _ l rfl hs hl e he
   obtain ⟨k1, k2⟩ := ear_cut hs h4 hr hD hfree
   obtain ⟨r1, r2, _⟩ := hr.simple hs
   by_cases hin : InT a i b q
   ·have := ear_sees r1 hD hfree hin (fun e he => by
     have hg : Gen q (i :: b :: (m ++ [a])) := fun x hx y hy hne => hq x ((hr.mem x).1 hx) y ((hr.mem y).1 hy) hne
     exact hg.off r1.2.1 (by simp) e he)
    rw [hr.wn, r2, hl] at this
    exact .inr this
   ·have hz : ct a i b q = 0 := tri_out hD (by unfold InT at hin; grind)
    rw [← hr.wn, wn_cut, hz]
    have := ih (b :: (m ++ [a])) (by have := hr.len; simp at this ⊢; omega) k1 (by rw [k2, hl]) q (fun x hx y hy hne => hq x ((hr.mem x).1 (List.mem_cons_of_mem _ hx)) y ((hr.mem y).1 (List.mem_cons_of_mem _ hy)) hne)
    omega
theorem half_line {a b x v : V} {l : List V} (h : ∀ p ∈ v :: l, 0 ≤ cr a b p) (hx : cr a b x = 0) (hup : a.y < b.y ∨ (a.y = b.y ∧ b.x < a.x)) : wn x (edg v l v) = 0 := by
 rcases hup with hup | ⟨hy, hxx⟩
 ·-- all crossings lie to the left
  have key : ∀ e ∈ edg v l v, cs e.1 e.2 x = 0 := by
   rintro ⟨p, q⟩ he
   have hm := edg_mem he
   have h1 := h p hm.1
   have hq : q ∈ v :: l := by
    rcases List.mem_append.1 hm.2 with k | k
    ·exact List.mem_cons_of_mem _ k
    ·have k' : q = v := List.mem_singleton.1 k
     rw [k']; simp
   have h2 := h q hq
   have id : (b.y - a.y) * cr p q x = (q.y - p.y) * cr a b x + (x.y - q.y) * cr a b p + (p.y - x.y) * cr a b q := by unfold cr; grind
   rw [hx] at id
   simp only []
   unfold cs
   by_cases c1 : p.y ≤ x.y ∧ x.y < q.y
   ·have m1 := Rat.mul_nonneg h1 (show 0 ≤ q.y - x.y by grind)
    have m2 := Rat.mul_nonneg h2 (show 0 ≤ x.y - p.y by grind)
    have m3 : (b.y - a.y) * cr p q x ≤ 0 := by grind
    have m4 : ¬ 0 < cr p q x := fun k => by have := Rat.mul_pos (show 0 < b.y - a.y by grind) k; grind
    grind
   ·by_cases c2 : q.y ≤ x.y ∧ x.y < p.y
    ·have m1 := Rat.mul_nonneg h1 (show 0 ≤ x.y - q.y by grind)
     have m2 := Rat.mul_nonneg h2 (show 0 ≤ p.y - x.y by grind)
     have m3 : 0 ≤ (b.y - a.y) * cr p q x := by grind
     have m4 : ¬ cr p q x < 0 := fun k => by have := (mul_signs (b.y - a.y) (cr p q x)).2.1 (by grind) k; grind
     grind
    ·grind
  have : ∀ L : List (V × V), (∀ e ∈ L, cs e.1 e.2 x = 0) → wn x L = 0 := by
   intro L
   induction L with
   | nil => intro _; rfl
   | cons e L ih => intro hL; rw [wn, hL e (List.mem_cons_self ..), ih (fun f hf => hL f (List.mem_cons_of_mem _ hf))]; rfl
  exact this _ key
 ·have hc : ∀ p : V, cr a b p = (b.x - a.x) * (p.y - a.y) := by intro p; unfold cr; rw [hy]; grind
  have hxy : x.y = a.y := by
   have := hc x
   rw [hx] at this
   have : (b.x - a.x) * (x.y - a.y) = 0 := by grind
   rcases Rat.mul_eq_zero.1 this with k | k <;> grind
  have hp : ∀ p ∈ v :: l, p.y ≤ x.y := by
   intro p hp
   have h1 := h p hp
   rw [hc p] at h1
   by_cases hh : p.y ≤ x.y
   ·exact hh
   ·have := (mul_signs (b.x - a.x) (p.y - a.y)).2.2.1 (by grind) (by grind); grind
  exact wn_low (hp v (by simp)) (hp v (by simp)) (fun p hq => hp p (by simp [hq]))
theorem ct_edg (u v w q : V) : wn q (edg u [v, w] u) = ct u v w q := by unfold ct; simp only [edg, wn]; omega
theorem both_side {u v w d e f q : V} (h : 0 < cr u v w) (h1 : ct u v w q = 1) (h2 : ct d e f q = 1) : 0 < cr u v d ∨ 0 < cr u v e ∨ 0 < cr u v f := by
 by_cases hn : 0 < cr u v d ∨ 0 < cr u v e ∨ 0 < cr u v f
 ·exact hn
 ·exfalso
  have z1 : cr u v u = 0 := by unfold cr; grind
  have z2 : cr u v v = 0 := by unfold cr; grind
  have s : ∀ p, cr v u p = - cr u v p := fun p => cr_swap u v p
  have hT : ∀ p ∈ u :: [v, w], 0 ≤ cr u v p := by intro p hp; simp at hp; rcases hp with rfl | rfl | rfl <;> grind
  have hT' : ∀ p ∈ d :: [e, f], 0 ≤ cr v u p := by
   intro p hp
   have := s p
   simp at hp
   rcases hp with rfl | rfl | rfl <;> grind
  rcases tri (cr u v q) 0 with k | k | k
  ·have := half_plane hT k
   rw [ct_edg] at this
   omega
  ·have hne : u.y ≠ v.y ∨ u.x ≠ v.x := by
    by_cases h5 : u.y = v.y
    ·by_cases h6 : u.x = v.x
     ·unfold cr at h; rw [h5, h6] at h; grind
     ·exact .inr h6
    ·exact .inl h5
   by_cases hup : u.y < v.y ∨ (u.y = v.y ∧ v.x < u.x)
   ·have := half_line hT k hup
    rw [ct_edg] at this
    omega
   ·have hup' : v.y < u.y ∨ (v.y = u.y ∧ u.x < v.x) := by grind
    have := half_line (a := v) (b := u) hT' (by rw [s, k]; grind) hup'
    rw [ct_edg] at this
    omega
  ·have := half_plane (a := v) (b := u) (x := q) hT' (by rw [s]; grind)
   rw [ct_edg] at this
   omega
end Go.Proofs.YtdhakoecjmaebaaGreat.Geo
