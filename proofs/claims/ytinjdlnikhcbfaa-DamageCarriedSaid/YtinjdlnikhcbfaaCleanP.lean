/-
  Plain facts for DamageClean: a rectangle that is wider than a polygon hits it as one that is just as wide.
-/
import Derived.Test.YtinjdlnikhcbfaaMeetP
import Derived.Test.YtinjdlnikhcbfaaFlawP
namespace Go.Proofs.Ytinjdlnikhcbfaa
open Go.RowKit
set_option linter.unusedSimpArgs false
set_option linter.unusedVariables false

def mirP (p : Pt) : Pt := ⟨-p.x, p.y⟩
theorem cross_mir (a b v : Pt) : crossP (mirP b) (mirP a) (mirP v) = crossP a b v := by unfold crossP crossI mirP; grind
theorem contact_mir {a b c : Pt} {x y z w : Int} (hx : x < z) (hy : y < w) : contactI [a, b, c] (rectPts x y z w) = 1 ↔ contactI [mirP c, mirP b, mirP a] (rectPts (-z) y (-x) w) = 1 := by
  rw [contact_one, contact_one, reaches3, reaches3, reaches_rect hx hy, reaches_rect (by omega) hy]
  have hr : ∀ p q : Pt, (∃ v ∈ rectPts (-z) y (-x) w, 0 < crossP (mirP q) (mirP p) v) ↔ ∃ v ∈ rectPts x y z w, 0 < crossP p q v := by
    intro p q
    have e1 := cross_mir p q ⟨x, y⟩
    have e2 := cross_mir p q ⟨z, y⟩
    have e3 := cross_mir p q ⟨z, w⟩
    have e4 := cross_mir p q ⟨x, w⟩
    unfold mirP at e1 e2 e3 e4 ⊢
    simp only [rectPts, List.mem_cons, List.not_mem_nil, or_false, exists_eq_or_imp, exists_eq_left] at *
    rw [e1, e2, e3, e4]
    omega
  rw [hr b c, hr a b, hr c a]
  simp only [List.mem_cons, List.not_mem_nil, or_false, exists_eq_or_imp, exists_eq_left, mirP]
  constructor <;> rintro ⟨⟨h1, h2, h3⟩, k1, k2, k3, k4⟩ <;> refine ⟨⟨?_, ?_, ?_⟩, ?_, ?_, ?_, ?_⟩ <;> first | assumption | omega
theorem contact_right {a b c : Pt} {M x y w : Int} (ht : 0 < crossP a b c) (ma : a.x ≤ M) (mb : b.x ≤ M) (mc : c.x ≤ M) (hx : x < M) (hy : y < w) :
    ∀ n : Nat, contactI [a, b, c] (rectPts x y M w) = 1 ↔ contactI [a, b, c] (rectPts x y (M + n) w) = 1 := by
  intro n
  induction n with
  | zero => simp
  | succ n ih =>
    rw [ih, clip_contact ht (by omega) (by omega) (by omega) (by omega) hy, show M + (n : Int) + 1 = M + ((n + 1 : Nat) : Int) by omega]
theorem contact_wide {a b c : Pt} {l r L R y w : Int} (ht : 0 < crossP a b c) (hl : l ≤ a.x ∧ l ≤ b.x ∧ l ≤ c.x) (hr : a.x ≤ r ∧ b.x ≤ r ∧ c.x ≤ r) (hlr : l < r) (hL : L ≤ l) (hR : r ≤ R) (hy : y < w) :
    contactI [a, b, c] (rectPts l y r w) = 1 ↔ contactI [a, b, c] (rectPts L y R w) = 1 := by
  have h1 := contact_right ht hr.1 hr.2.1 hr.2.2 hlr hy (R - r).toNat
  rw [show r + ((R - r).toNat : Int) = R by omega] at h1
  have ht2 : 0 < crossP (mirP c) (mirP b) (mirP a) := by
    have e : crossP (mirP c) (mirP b) (mirP a) = crossP a b c := by unfold crossP crossI mirP; grind
    rw [e]; exact ht
  have h2 := contact_right (M := -l) (x := -R) (y := y) (w := w) ht2 (by simp [mirP]; omega) (by simp [mirP]; omega) (by simp [mirP]; omega) (by omega) hy (l - L).toNat
  rw [show -l + ((l - L).toNat : Int) = -L by omega, ← contact_mir (by omega) hy, ← contact_mir (by omega) hy] at h2
  rw [h1, h2]

theorem corn_mem {ps : List Pt} : ∀ f i acc, i + f = ps.length → (∀ p ∈ acc, p ∈ ps) → ∀ p ∈ cornGo ps f i acc, p ∈ ps := by
  intro f
  induction f with
  | zero => intro i acc _ h; exact h
  | succ f ih =>
    intro i acc hi h
    rw [cornGo]
    refine ih (i + 1) _ (by omega) ?_
    split
    · exact h
    · intro p hp
      rcases List.mem_append.1 hp with k | k
      · exact h p k
      · rw [List.mem_singleton.1 k, gp_eq (by omega)]; exact List.getElem_mem _
theorem normal_mem {ps : List Pt} : ∀ p ∈ normalOf ps, p ∈ ps := by
  have hc : ∀ p ∈ cornersOf ps, p ∈ ps := corn_mem _ _ _ (by omega) (by intro p hp; cases hp)
  have h2 : ∀ p ∈ ccwOf ps, p ∈ ps := by
    unfold ccwOf
    split
    · intro p hp; exact hc p (by rw [rev_reverse] at hp; simpa using hp)
    · exact hc
  intro p hp
  unfold normalOf rotOf at hp
  rcases List.mem_append.1 hp with k | k
  · exact h2 p (List.mem_of_mem_drop k)
  · exact h2 p (List.mem_of_mem_take k)
theorem splitGo_mem {Q : Pt → Prop} : ∀ f l acc ts, (∀ p ∈ l, Q p) → (∀ t ∈ acc, ∀ p ∈ t, Q p) → splitGo f l acc = some ts → ∀ t ∈ ts, ∀ p ∈ t, Q p := by
  have last : ∀ (l : List Pt) (acc ts : List (List Pt)), (∀ p ∈ l, Q p) → (∀ t ∈ acc, ∀ p ∈ t, Q p) → some (acc ++ [l]) = some ts → ∀ t ∈ ts, ∀ p ∈ t, Q p := by
    intro l acc ts hl ha he t ht
    cases he
    rcases List.mem_append.1 ht with ht | ht
    · exact ha t ht
    · rw [List.mem_singleton.1 ht]; exact hl
  intro f
  induction f with
  | zero => intro l acc ts hl ha he; exact last l acc ts hl ha he
  | succ f ih =>
    intro l acc ts hl ha he
    rw [splitGo] at he
    split at he
    · exact last l acc ts hl ha he
    · rename_i h3
      split at he
      · exact ih _ _ _ (eraseIdx_all hl) ha he
      · split at he
        · rename_i hf
          refine ih _ _ _ (eraseIdx_all hl) ?_ he
          intro t ht
          rcases List.mem_append.1 ht with ht | ht
          · exact ha t ht
          · rw [List.mem_singleton.1 ht]
            intro p hp
            rcases free_bd l with k | ⟨j, k1, k2, _⟩
            · omega
            · rw [k2, Int.toNat_natCast] at hp
              have hg : ∀ k, k < l.length → Q (gp l k) := fun k hk => by rw [gp_eq hk]; exact hl _ (List.getElem_mem _)
              simp only [triOf, List.mem_cons, List.not_mem_nil, or_false] at hp
              rcases hp with rfl | rfl | rfl
              · exact hg _ (Nat.mod_lt _ (by omega))
              · exact hg _ k1
              · exact hg _ (Nat.mod_lt _ (by omega))
        · cases he
theorem splitR_mem (ps : List Pt) : ∀ t ∈ (splitR ps).1, ∀ p ∈ t, p ∈ ps := by
  unfold splitR
  by_cases h : checkI ps = 0
  · rw [if_pos h]
    cases hs : splitOf ps with
    | none => intro t ht; cases ht
    | some ts => exact splitGo_mem (Q := fun p => p ∈ ps) _ _ _ ts (fun p hp => normal_mem p hp) (by intro t ht; cases ht) hs
  · rw [if_neg h]; intro t ht; cases ht

theorem lo_le (l : List Pt) : ∀ a : Pt, (l.foldl loP a).x ≤ a.x ∧ ∀ p ∈ l, (l.foldl loP a).x ≤ p.x := by
  induction l with
  | nil => intro a; exact ⟨Int.le_refl _, by intro p hp; cases hp⟩
  | cons q l ih =>
    intro a
    obtain ⟨h1, h2⟩ := ih (loP a q)
    have e1 : (loP a q).x ≤ a.x := by unfold loP; simp only []; omega
    have e2 : (loP a q).x ≤ q.x := by unfold loP; simp only []; omega
    rw [List.foldl_cons]
    refine ⟨by omega, fun p hp => ?_⟩
    rcases List.mem_cons.1 hp with rfl | k
    · omega
    · exact h2 p k
theorem hi_le (l : List Pt) : ∀ a : Pt, a.x ≤ (l.foldl hiP a).x ∧ ∀ p ∈ l, p.x ≤ (l.foldl hiP a).x := by
  induction l with
  | nil => intro a; exact ⟨Int.le_refl _, by intro p hp; cases hp⟩
  | cons q l ih =>
    intro a
    obtain ⟨h1, h2⟩ := ih (hiP a q)
    have e1 : a.x ≤ (hiP a q).x := by unfold hiP; simp only []; omega
    have e2 : q.x ≤ (hiP a q).x := by unfold hiP; simp only []; omega
    rw [List.foldl_cons]
    refine ⟨by omega, fun p hp => ?_⟩
    rcases List.mem_cons.1 hp with rfl | k
    · omega
    · exact h2 p k
theorem box_x {ps : List Pt} {p : Pt} (h : p ∈ ps) : (loOf ps).x ≤ p.x ∧ p.x ≤ (hiOf ps).x := ⟨(lo_le ps _).2 p h, (hi_le ps _).2 p h⟩

theorem anyHit_wide {l r L R y w : Int} (hlr : l < r) (hL : L ≤ l) (hR : r ≤ R) (hy : y < w) : ∀ ts : List (List Pt), (∀ t ∈ ts, TriL t) → (∀ t ∈ ts, ∀ p ∈ t, l ≤ p.x ∧ p.x ≤ r) → anyHit (rectPts l y r w) ts = anyHit (rectPts L y R w) ts := by
  intro ts
  induction ts with
  | nil => intro _ _; rfl
  | cons t ts ih =>
    intro h1 h2
    obtain ⟨a, b, c, rfl, ht⟩ := h1 t (by simp)
    have ha := h2 [a, b, c] (by simp) a (by simp)
    have hb := h2 [a, b, c] (by simp) b (by simp)
    have hc := h2 [a, b, c] (by simp) c (by simp)
    have he := contact_wide (l := l) (r := r) (L := L) (R := R) (y := y) (w := w) ht ⟨ha.1, hb.1, hc.1⟩ ⟨ha.2, hb.2, hc.2⟩ hlr hL hR hy
    rw [anyHit, anyHit, ih (fun t ht => h1 t (by simp [ht])) (fun t ht => h2 t (by simp [ht]))]
    by_cases k : contactI [a, b, c] (rectPts l y r w) = 1
    · rw [if_pos k, if_pos (he.1 k)]
    · rw [if_neg k, if_neg (fun q => k (he.2 q))]
/-- A rectangle from L on, of the length n, that covers a polygon's extent hits it as the extent does. -/
theorem hits_wide {ps : List Pt} {L n wd : Int} (hc : checkI ps = 0) (h1 : L ≤ (loOf ps).x) (h2 : (hiOf ps).x ≤ L + n) (hL : -1048576 ≤ L) (hL2 : L ≤ 1048576) (hn : 1 ≤ n) (hn2 : n ≤ 1048576) (hw : 1 ≤ wd) (hw2 : wd ≤ 1048576) (hlo : -1048576 ≤ (loOf ps).x) (hhi : (hiOf ps).x ≤ 1048576) :
    (hitsR ps L 0 n wd).1 = (hitsR ps (loOf ps).x 0 ((hiOf ps).x - (loOf ps).x) wd).1 := by
  have hs : (splitR ps).2 = 0 := by rw [splitR_err]; exact hc
  have htri := splitR_tri ps
  have hmem := fun t ht p hp => box_x (splitR_mem ps t ht p hp)
  unfold hitsR
  have hs' : ¬ (splitR ps).2 ≠ 0 := by simpa using hs
  rw [if_neg hs', if_neg hs', if_neg (show ¬ (n < 1 ∨ wd < 1) by omega)]
  have y0 : spanLo 0 = 0 := by unfold spanLo; omega
  have y1 : spanHi 0 wd = wd := by unfold spanHi; split <;> omega
  have x0 : spanLo L = L := by unfold spanLo; omega
  have x1 : spanHi L n = min (L + n) 1048576 := by unfold spanHi; split <;> omega
  have x2 : spanLo (loOf ps).x = (loOf ps).x := by unfold spanLo; omega
  rw [y0, y1, x0, x1, x2]
  by_cases hz : (loOf ps).x < (hiOf ps).x
  · have x3 : spanHi (loOf ps).x ((hiOf ps).x - (loOf ps).x) = (hiOf ps).x := by unfold spanHi; split <;> omega
    rw [x3, if_neg (show ¬ ((hiOf ps).x - (loOf ps).x < 1 ∨ wd < 1) by omega), if_neg (by omega), if_neg (by omega)]
    exact (anyHit_wide hz h1 (by omega) (by omega) _ htri hmem).symm
  · have hemp : (splitR ps).1 = [] := by
      rcases hsp : (splitR ps).1 with _ | ⟨t, ts⟩
      · rfl
      · exfalso
        obtain ⟨a, b, c, rfl, ht⟩ := htri t (by rw [hsp]; simp)
        have ha := hmem [a, b, c] (by rw [hsp]; simp) a (by simp)
        have hb := hmem [a, b, c] (by rw [hsp]; simp) b (by simp)
        have hc := hmem [a, b, c] (by rw [hsp]; simp) c (by simp)
        have e1 : b.x = a.x := by omega
        have e2 : c.x = a.x := by omega
        unfold crossP crossI at ht
        rw [e1, e2] at ht
        simp at ht
    rw [if_pos (show (hiOf ps).x - (loOf ps).x < 1 ∨ wd < 1 by omega), hemp]
    split <;> rfl

theorem hi_bd (M : Int) (l : List Pt) : ∀ a : Pt, a.x ≤ M → (∀ p ∈ l, p.x ≤ M) → (l.foldl hiP a).x ≤ M := by
  induction l with
  | nil => intro a h _; exact h
  | cons q l ih =>
    intro a h hl
    rw [List.foldl_cons]
    refine ih _ ?_ (fun p hp => hl p (by simp [hp]))
    have := hl q (by simp)
    unfold hiP
    simp only []
    omega
theorem check_out {ps : List Pt} (h : checkI ps = 0) : ∀ p ∈ ps, outP p = false := by
  unfold checkI at h
  split at h
  · cases h
  · split at h
    · cases h
    · split at h
      · cases h
      · rename_i h'
        intro p hp
        have h'' : ps.any (fun p => outsideB p.x p.y) = false := by simpa using h'
        rw [List.any_eq_false] at h''
        simpa [outP] using h'' p hp
theorem out_xr {p : Pt} (h : outP p = false) : -1048576 ≤ p.x ∧ p.x ≤ 1048576 := by
  unfold outP outsideB at h
  simp only [Bool.or_eq_false_iff, decide_eq_false_iff_not] at h
  omega
theorem hi_check {ps : List Pt} (h : checkI ps = 0) : (hiOf ps).x ≤ 1048576 := by
  refine hi_bd 1048576 ps _ ?_ (fun p hp => (out_xr (check_out h p hp)).2)
  unfold gp
  rw [List.getD_eq_getElem?_getD]
  cases hq : ps[0]? with
  | none => simp
  | some q => exact (out_xr (check_out h q (List.mem_of_getElem? hq))).2
theorem rollI_bare {r : Rl} (h : rollI r = 0) : rollI (bare r) = 0 := rollI_with (A := none) (c := 0) (fl := []) h (by simp) (by intro q hq; cases hq)
theorem bare_base {r : Rl} (h : rollI (bare r) = 0) : baseI r = 0 ∧ (1 ≤ r.ln ∧ r.ln ≤ 1048576) ∧ (1 ≤ r.wd ∧ r.wd ≤ 1048576) := by
  obtain ⟨h1, _, _, h2, h3⟩ := roll_ok h
  exact ⟨h1, h2, h3⟩
theorem rollI_whole {r : Rl} (h : rollI (bare r) = 0) (A : Option Addr) (c : Nat) : rollI (withFl r A c [⟨0, 0, r.ln, r.wd⟩]) = 0 := by
  obtain ⟨h1, h2, h3⟩ := bare_base h
  unfold rollI
  rw [baseI_with, h1, if_neg (by simp), if_neg (show ¬ 20 < (withFl r A c [⟨0, 0, r.ln, r.wd⟩]).fl.length by show ¬ 20 < 1; omega)]
  have : flawsBad (withFl r A c [⟨0, 0, r.ln, r.wd⟩]).ln (withFl r A c [⟨0, 0, r.ln, r.wd⟩]).wd (withFl r A c [⟨0, 0, r.ln, r.wd⟩]).fl = false := by
    refine flawsBad_all.2 fun q hq => ?_
    have hq : q ∈ [(⟨0, 0, r.ln, r.wd⟩ : Qd)] := hq
    rw [List.mem_singleton.1 hq]
    simp only [flawBad, Bool.or_eq_false_iff, decide_eq_false_iff_not]
    refine ⟨⟨⟨⟨⟨?_, ?_⟩, ?_⟩, ?_⟩, ?_⟩, ?_⟩ <;> ((try simp only [withFl]); omega)
  rw [this]
  rfl
/-- The rolls without flaws, each that passes with one flaw over all of it. -/
def wholeR (F : Nat → Nat) (i : Nat) (r : Rl) : Rl := if rollI (bare r) = 0 then withFl r (some ⟨F i, 0, none⟩) 1 [⟨0, 0, r.ln, r.wd⟩] else bare r
def wholeL (rs : List Rl) (F : Nat → Nat) : List Rl := rs.mapIdx (wholeR F)
theorem wholeL_len (rs : List Rl) (F : Nat → Nat) : (wholeL rs F).length = rs.length := by simp [wholeL]
theorem wholeL_at {rs : List Rl} {n : Nat} (hn : n < rs.length) (F : Nat → Nat) : ∃ h : n < (wholeL rs F).length, (wholeL rs F)[n] = wholeR F n rs[n] := by
  refine ⟨by rw [wholeL_len]; exact hn, ?_⟩
  simp [wholeL]
theorem rowErr_zero {qs : List Qd} {rs : List Rl} : ∀ {l : List (List Pt)}, rowErr qs rs l = 0 ↔ ∀ q ∈ l, (hitR qs rs q).2 = 0 := by
  intro l
  induction l with
  | nil => simp [rowErr]
  | cons p l ih =>
    rw [rowErr]
    by_cases h : (hitR qs rs p).2 = 0
    · rw [if_neg (by simpa using h), ih]
      constructor
      · intro k q hq
        rcases List.mem_cons.1 hq with rfl | k2
        · exact h
        · exact k q k2
      · intro k q hq; exact k q (by simp [hq])
    · rw [if_pos h]
      exact ⟨fun k => absurd k h, fun k => absurd (k p (by simp)) h⟩
theorem tabErr_zero {rs : List Rl} {polys : List (List Pt)} : ∀ {ys : List Py}, tabErr rs polys ys = 0 ↔ ∀ y ∈ ys, ∀ q ∈ polys, (hitR y.parts rs q).2 = 0 := by
  intro ys
  induction ys with
  | nil => simp [tabErr]
  | cons y l ih =>
    rw [tabErr]
    by_cases h : rowErr y.parts rs polys = 0
    · rw [if_neg (by simpa using h), ih]
      constructor
      · intro k z hz
        rcases List.mem_cons.1 hz with rfl | k2
        · exact rowErr_zero.1 h
        · exact k z k2
      · intro k z hz; exact k z (by simp [hz])
    · rw [if_pos h]
      exact ⟨fun k => absurd k h, fun k => absurd (rowErr_zero.2 (k y (by simp))) h⟩
/-- What is so of a polygon in a ply where no error is. -/
theorem clean_facts {qs : List Qd} {rs : List Rl} {ps : List Pt} (F : Nat → Nat) (h : (hitR qs rs ps).2 = 0) :
    ∃ j n : Nat, ∃ hj : j < qs.length, ∃ hn : n < rs.length, carrierR qs ps = ((j : Int), 0) ∧ (qs[j]).a = (n : Int) ∧ (checkI ps = 0 ∧ 0 ≤ (qs[j]).b ∧ 0 ≤ (loOf ps).x ∧ (loOf ps).x ≤ (hiOf ps).x ∧ (hiOf ps).x ≤ 1048576) ∧ (1 ≤ (rs[n]).wd ∧ (rs[n]).wd ≤ 1048576) ∧ hitR qs (rs.map bare) ps = (false, 0) ∧
      (hitsR ps (loOf ps).x 0 ((hiOf ps).x - (loOf ps).x) (rs[n]).wd).2 = 0 ∧ (hitR qs (wholeL rs F) ps).2 = 0 ∧
      (0 ≤ (qs[j]).b → (qs[j]).c ≤ (rs[n]).ln → (hitR qs (wholeL rs F) ps).1 = (hitsR ps (loOf ps).x 0 ((hiOf ps).x - (loOf ps).x) (rs[n]).wd).1) := by
  obtain ⟨j, n, hj, hn, hcar, ha, hr, hcb, _⟩ := hitR_ok h
  obtain ⟨hck, _⟩ := carrier_ok (qs := qs) (ps := ps) (by rw [hcar])
  have hb := rollI_bare hr
  obtain ⟨_, hln, hwd⟩ := bare_base hb
  have hbd := carries_bd hcb
  have hs : (splitR ps).2 = 0 := by rw [splitR_err]; exact hck
  have h1 : hitR qs (rs.map bare) ps = (false, 0) := by
    rw [hitR_at (rs := rs.map bare) hj (by simpa using hn) hcar ha (by simpa using hb)]
    simp [bare, flawGo]
  obtain ⟨hn2, e2⟩ := wholeL_at hn F
  have h2 : hitR qs (wholeL rs F) ps = ((hitsR ps ((qs[j]).d - (qs[j]).b) 0 (rs[n]).ln (rs[n]).wd).1, 0) := by
    rw [hitR_at (rs := wholeL rs F) hj hn2 hcar ha (by rw [e2, wholeR, if_pos hb]; exact rollI_whole hb _ _), e2, wholeR, if_pos hb, flawGo_ok hs]
    show (([(⟨0, 0, (rs[n]).ln, (rs[n]).wd⟩ : Qd)]).any _, 0) = _
    rw [List.any_cons, List.any_nil, Bool.or_false, hitF]
    simp
  refine ⟨j, n, hj, hn, hcar, ha, ⟨hck, by omega, by omega, Int.le_trans (lo_le ps _).1 (hi_le ps _).1, hi_check hck⟩, hwd, h1, by rw [hits_err]; exact hs, by rw [h2], fun k1 k2 => ?_⟩
  rw [h2]
  refine hits_wide hck (by omega) (by omega) (by omega) (by omega) (by omega) (by omega) (by omega) (by omega) ?_ ?_
  · omega
  · exact hi_check hck
theorem tab_clean {rs : List Rl} {polys : List (List Pt)} {ys : List Py} (h : tabErr rs polys ys = 0) : tabErr (rs.map bare) polys ys = 0 := by
  rw [tabErr_zero] at h ⊢
  intro y hy q hq
  obtain ⟨_, _, _, _, _, _, _, _, e, _⟩ := clean_facts (fun _ => 0) (h y hy q hq)
  rw [e]
theorem tab_whole {rs : List Rl} {polys : List (List Pt)} {ys : List Py} (F : Nat → Nat) (h : tabErr rs polys ys = 0) : tabErr (wholeL rs F) polys ys = 0 := by
  rw [tabErr_zero] at h ⊢
  intro y hy q hq
  obtain ⟨_, _, _, _, _, _, _, _, _, _, e, _⟩ := clean_facts F (h y hy q hq)
  exact e

end Go.Proofs.Ytinjdlnikhcbfaa
