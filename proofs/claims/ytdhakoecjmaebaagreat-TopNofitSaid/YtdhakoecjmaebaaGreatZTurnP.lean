/-
  Overlap and the number of turns: two polygons overlap if and only if both turn about some point; so half a turn changes nothing that overlap.Overlap says, and the areas of polygons that lie apart in a rectangle fit into it.
-/
import Derived.Test.YtdhakoecjmaebaaGreatZGeoE
import Derived.Test.YtdhakoecjmaebaaGreatZRefT
import Derived.Test.YtdhakoecjmaebaaGreatZMoveP
namespace Go.Proofs.YtdhakoecjmaebaaGreat
open Go.RowKit
set_option linter.unusedSimpArgs false
set_option linter.unusedVariables false

/- How often a polygon turns about a point, from its triangles. -/
def wnP (l : List Pt) (q : Geo.V) : Int := Geo.wn q (Geo.poly (l.map vp))
def ctT (t : List Pt) (q : Geo.V) : Int := wnP t q
theorem ctT_tri (a b c : Pt) (q : Geo.V) : ctT [a, b, c] q = Geo.ct (vp a) (vp b) (vp c) q := Geo.ct_edg (vp a) (vp b) (vp c) q
theorem wn_erase {l : List Pt} {j : Nat} (hj : j < l.length) (h3 : 3 ≤ l.length) (q : Geo.V) : wnP l q = wnP (l.eraseIdx j) q + ctT (triOf l j) q := by
  obtain ⟨w, m, u, h, e1, e2⟩ := around hj h3
  obtain ⟨r1, r2, _⟩ := rot_of hj h
  unfold wnP
  rw [← r1.wn q, ← r2.wn q, Geo.wn_cut]
  unfold triOf
  rw [e1, e2, ctT_tri]
theorem flat_ct {l : List Pt} {j : Nat} (hg : Good l) (hj : j < l.length) (h3 : 3 ≤ l.length) (hb : bendI l j = 0) (q : Geo.V) : ctT (triOf l j) q = 0 := by
  obtain ⟨w, m, u, h, e1, e2⟩ := around hj h3
  obtain ⟨r1, r2, _⟩ := rot_of hj h
  unfold bendI at hb
  unfold triOf
  rw [e1, e2] at hb ⊢
  have := Geo.flat_cs (Geo.flat_of (Geo.nf_of_simple (r1.simple hg.1).1) (cr_zero.2 hb)) q
  rw [ctT_tri]
  exact this
theorem splitGo_wn (q : Geo.V) : ∀ (f : Nat) (l : List Pt) (acc ts : List (List Pt)), Good l → l.length ≤ f + 3 → splitGo f l acc = some ts → (ts.map fun t => ctT t q).sum = (acc.map fun t => ctT t q).sum + wnP l q := by
  intro f
  induction f with
  | zero =>
    intro l acc ts hg hf he
    cases he
    rw [List.map_append, List.sum_append]
    simp [ctT]
  | succ f ih =>
    intro l acc ts hg hf he
    rw [splitGo] at he
    split at he
    · cases he
      rw [List.map_append, List.sum_append]
      simp [ctT]
    · rename_i h3
      have hel : ∀ j, j < l.length → (l.eraseIdx j).length ≤ f + 3 := fun j hj => by rw [List.length_eraseIdx, if_pos hj]; omega
      split at he
      · rename_i hs
        obtain ⟨k1, k2⟩ := straight_flat hs
        rw [ih _ _ ts (good_flat hg (by omega) k1 k2) (hel _ k1) he, wn_erase k1 (by omega) q, flat_ct hg k1 (by omega) k2]
        omega
      · split at he
        · rcases free_bd l with k | ⟨j', k1, k2, k3⟩
          · rename_i hf2; omega
          · rw [k2, Int.toNat_natCast] at he
            rw [ih _ _ ts (good_free hg (by omega) k1 k3) (hel _ k1) he, wn_erase k1 (by omega) q, List.map_append, List.sum_append]
            simp
            omega
        · cases he
theorem split_wn {ps : List Pt} (h : checkI ps = 0) (q : Geo.V) : ((splitR ps).1.map fun t => ctT t q).sum = wnP (normalOf ps) q := by
  obtain ⟨ts, hts⟩ := splitOf_some h
  unfold splitR
  rw [if_pos h, hts]
  have := splitGo_wn q _ _ [] ts (normal_good h) (by omega) hts
  simpa using this
theorem tri_ct {t : List Pt} (h : TriL t) (q : Geo.V) : ctT t q = 0 ∨ ctT t q = 1 := by
  obtain ⟨a, b, c, rfl, h⟩ := h
  rw [ctT_tri]
  exact (Geo.tri_01 (cr_pos.2 h)).1
theorem one_of_sum {q : Geo.V} : ∀ {ts : List (List Pt)}, (∀ t ∈ ts, TriL t) → 1 ≤ (ts.map fun t => ctT t q).sum → ∃ t ∈ ts, ctT t q = 1 := by
  intro ts
  induction ts with
  | nil => intro _ h; simp at h
  | cons t ts ih =>
    intro ht h
    rw [List.map_cons, List.sum_cons] at h
    rcases tri_ct (ht t (List.mem_cons_self ..)) q with k | k
    · obtain ⟨s, hs, e⟩ := ih (fun s hs => ht s (List.mem_cons_of_mem _ hs)) (by omega)
      exact ⟨s, List.mem_cons_of_mem _ hs, e⟩
    · exact ⟨t, List.mem_cons_self .., k⟩
/- Overlap from contacts. -/
theorem relRow_top (s : List Pt) : ∀ (ts : List (List Pt)) (m : Int), m ≤ 1 → relRow s ts m ≤ 1 ∧ (relRow s ts m = 1 ↔ m = 1 ∨ ∃ t ∈ ts, contactI s t = 1) := by
  intro ts
  induction ts with
  | nil => intro m hm; simp [relRow]; exact hm
  | cons t ts ih =>
    intro m hm
    have hc : contactI s t ≤ 1 := by have := (reach_one s t).1; unfold contactI; omega
    obtain ⟨h1, h2⟩ := ih (max m (contactI s t)) (by omega)
    rw [relRow]
    refine ⟨h1, h2.trans ?_⟩
    constructor
    · rintro (h | ⟨u, hu, h⟩)
      · by_cases k : m = 1
        · exact .inl k
        · exact .inr ⟨t, List.mem_cons_self .., by omega⟩
      · exact .inr ⟨u, List.mem_cons_of_mem _ hu, h⟩
    · rintro (h | ⟨u, hu, h⟩)
      · left; omega
      · rcases List.mem_cons.1 hu with rfl | hu
        · left; omega
        · exact .inr ⟨u, hu, h⟩
theorem relGo_top (ts : List (List Pt)) : ∀ (l : List (List Pt)) (m : Int), m ≤ 1 → relGo ts l m ≤ 1 ∧ (relGo ts l m = 1 ↔ m = 1 ∨ ∃ s ∈ l, ∃ t ∈ ts, contactI s t = 1) := by
  intro l
  induction l with
  | nil => intro m hm; simp [relGo]; exact hm
  | cons s l ih =>
    intro m hm
    obtain ⟨r1, r2⟩ := relRow_top s ts m hm
    obtain ⟨h1, h2⟩ := ih (relRow s ts m) r1
    rw [relGo]
    refine ⟨h1, h2.trans ?_⟩
    rw [r2]
    constructor
    · rintro ((h | ⟨t, ht, h⟩) | ⟨u, hu, h⟩)
      · exact .inl h
      · exact .inr ⟨s, List.mem_cons_self .., t, ht, h⟩
      · exact .inr ⟨u, List.mem_cons_of_mem _ hu, h⟩
    · rintro (h | ⟨u, hu, h⟩)
      · exact .inl (.inl h)
      · rcases List.mem_cons.1 hu with rfl | hu
        · exact .inl (.inr h)
        · exact .inr ⟨u, hu, h⟩
theorem over_iff {a b : List Pt} (ha : checkI a = 0) (hb : checkI b = 0) : (overR a b).1 = true ↔ ∃ s ∈ (splitR a).1, ∃ t ∈ (splitR b).1, contactI s t = 1 := by
  have e : (overR a b).1 = ((relGo (splitR b).1 (splitR a).1 (-1)) == 1) := by
    unfold overR relationR
    rw [splitR_err, splitR_err, ha, hb]
    simp
  rw [e, beq_iff_eq, (relGo_top _ _ _ (by omega)).2]
  constructor
  · rintro (h | h)
    · omega
    · exact h
  · exact .inr
theorem reaches_of {t s : List Pt} {q : Geo.V} (ht : TriL t) (hs : TriL s) (h1 : ctT t q = 1) (h2 : ctT s q = 1) : Reaches t s := by
  obtain ⟨a, b, c, rfl, h⟩ := ht
  obtain ⟨d, e, f, rfl, h'⟩ := hs
  rw [ctT_tri] at h1 h2
  have hp := cr_pos.2 h
  have e1 : Geo.cr (vp b) (vp c) (vp a) = Geo.cr (vp a) (vp b) (vp c) := Geo.cr_rot _ _ _
  have e2 : Geo.cr (vp c) (vp a) (vp b) = Geo.cr (vp a) (vp b) (vp c) := by rw [Geo.cr_rot (vp b) (vp c) (vp a), e1]
  have c1 : Geo.ct (vp b) (vp c) (vp a) q = 1 := by rw [← h1]; unfold Geo.ct; omega
  have c2 : Geo.ct (vp c) (vp a) (vp b) q = 1 := by rw [← h1]; unfold Geo.ct; omega
  rw [reaches3]
  have get : ∀ {x y : Pt}, (0 < Geo.cr (vp x) (vp y) (vp d) ∨ 0 < Geo.cr (vp x) (vp y) (vp e) ∨ 0 < Geo.cr (vp x) (vp y) (vp f)) → ∃ v ∈ [d, e, f], 0 < crossP x y v := by
    rintro x y (k | k | k)
    · exact ⟨d, by simp, cr_pos.1 k⟩
    · exact ⟨e, by simp, cr_pos.1 k⟩
    · exact ⟨f, by simp, cr_pos.1 k⟩
  exact ⟨get (Geo.both_side hp h1 h2), get (Geo.both_side (by rw [e1]; exact hp) c1 h2), get (Geo.both_side (by rw [e2]; exact hp) c2 h2)⟩
/-- Polygons that do not overlap do not both turn about one point. -/
theorem not_both {a b : List Pt} (ha : checkI a = 0) (hb : checkI b = 0) (h : (overR a b).1 = false) (q : Geo.V) : ¬ (1 ≤ wnP (normalOf a) q ∧ 1 ≤ wnP (normalOf b) q) := by
  rintro ⟨h1, h2⟩
  rw [← split_wn ha] at h1
  rw [← split_wn hb] at h2
  obtain ⟨s, hs, e1⟩ := one_of_sum (splitR_tri a) h1
  obtain ⟨t, ht, e2⟩ := one_of_sum (splitR_tri b) h2
  have : (overR a b).1 = true := (over_iff ha hb).2 ⟨s, hs, t, ht, (contact_one s t).2 ⟨reaches_of (splitR_tri a s hs) (splitR_tri b t ht) e1 e2, reaches_of (splitR_tri b t ht) (splitR_tri a s hs) e2 e1⟩⟩
  rw [h] at this
  cases this
/- Half a turn. -/
section
variable (d : Pt)
end
/- Areas. -/
theorem corn_flat {ps : List Pt} {i : Nat} {acc : List Pt} (hps : Geo.Simple (ps.map vp)) (h : CornInv ps i acc) (hi : i < ps.length) (hb : bendI ps i = 0) : Geo.ar (Geo.poly ((acc ++ ps.drop (i + 1)).map vp)) = Geo.ar (Geo.poly ((acc ++ ps.drop i).map vp)) := by
  have h3 : 3 ≤ ps.length := by have := hps.1; simpa using this
  have e : acc ++ ps.drop i = acc ++ gp ps i :: ps.drop (i + 1) := by rw [drop_gp hi]
  -- the flat corner of the polygon itself
  obtain ⟨w0, m0, u0, a0, a1, a2⟩ := around hi h3
  obtain ⟨r1, _, _⟩ := rot_of hi a0
  unfold bendI at hb
  rw [a1, a2] at hb
  have hflat0 := Geo.flat_of (Geo.nf_of_simple (r1.simple hps).1) (cr_zero.2 hb)
  have hpar0 := flat_par hflat0
  rw [← a1, ← a2] at hpar0
  have hb' := cr_zero.2 hb
  rw [← a1, ← a2] at hb'
  -- the polygon so far
  have hlen := h.simple.1
  have hl2 : 2 ≤ (ps.drop (i + 1) ++ acc).length := by
    rw [e] at hlen
    simp at hlen ⊢
    omega
  obtain ⟨w, m, u, hw⟩ := form2 hl2
  have hrot : Geo.IsRot ((acc ++ ps.drop i).map vp) (vp (gp ps i) :: vp w :: (m.map vp ++ [vp u])) := by
    refine ⟨acc.map vp, (gp ps i :: ps.drop (i + 1)).map vp, by rw [← List.map_append, e], ?_⟩
    rw [← List.map_append, List.cons_append, hw]; simp
  have hrot2 : Geo.IsRot ((acc ++ ps.drop (i + 1)).map vp) (vp w :: (m.map vp ++ [vp u])) := by
    refine ⟨acc.map vp, (ps.drop (i + 1)).map vp, by rw [← List.map_append], ?_⟩
    rw [← List.map_append, hw]; simp
  have hprev := h.prev hi w m u hw
  have hnext : Par (vp (gp ps i)) (vp w) (vp (gp ps i)) (vp (gp ps ((i + 1) % ps.length))) := by
    rcases Nat.lt_or_ge (i + 1) ps.length with q | q
    · rw [drop_gp q, List.cons_append] at hw
      injection hw with hw1 hw2
      rw [Nat.mod_eq_of_lt q, ← hw1]
      exact Par.refl _ _
    · have hn : i = ps.length - 1 := by omega
      have hd : ps.drop (i + 1) = [] := List.drop_eq_nil_of_le q
      rw [hd, List.nil_append] at hw
      have := h.head hi w (m ++ [u] ++ ps.drop i) (by rw [hw]; simp)
      rw [show (i + 1) % ps.length = 0 by rw [show i + 1 = ps.length by omega, Nat.mod_self], hn]
      exact this
  have hc := par_cr hprev hnext hb'
  rw [← hrot2.ar, ← hrot.ar, Geo.ar_cut, hc]
  grind
theorem corn_ar {ps : List Pt} (hps : Geo.Simple (ps.map vp)) : ∀ f i acc, i + f = ps.length → CornInv ps i acc → Geo.ar (Geo.poly ((cornGo ps f i acc).map vp)) = Geo.ar (Geo.poly ((acc ++ ps.drop i).map vp)) := by
  intro f
  induction f with
  | zero =>
    intro i acc hi h
    rw [List.drop_eq_nil_of_le (by omega), List.append_nil]
    rfl
  | succ f ih =>
    intro i acc hi h
    rw [cornGo]
    split
    · rename_i hb
      rw [ih _ _ (by omega) (corn_drop hps h (by omega) hb), corn_flat hps h (by omega) hb]
    · rw [ih _ _ (by omega) (corn_keep h (by omega)), drop_gp (show i < ps.length by omega)]
      simp
theorem corn_start {ps : List Pt} (hps : Geo.Simple (ps.map vp)) : CornInv ps 0 [] := by
  have h3 : 3 ≤ ps.length := by have := hps.1; simpa using this
  refine ⟨by simpa using hps, by simp, ?_, ?_⟩
  · intro hi w m u hw
    rw [List.append_nil] at hw
    have hu : u = gp ps (ps.length - 1) := by
      have e1 : (ps.drop (0 + 1)).getLast? = some u := by rw [hw]; exact last_form _ _ _
      rw [List.getLast?_drop, if_neg (by omega)] at e1
      rw [List.getLast?_eq_getElem?, List.getElem?_eq_getElem (by omega)] at e1
      rw [gp_eq (by omega)]
      simpa using e1.symm
    rw [hu, show (0 + ps.length - 1) % ps.length = ps.length - 1 by rw [Nat.zero_add]; exact Nat.mod_eq_of_lt (by omega)]
    exact Par.refl _ _
  · intro hi y r hy
    rw [List.nil_append, drop_gp hi] at hy
    injection hy with hy1 hy2
    rw [← hy1]
    exact Par.refl _ _
theorem corners_ar {ps : List Pt} (hps : Geo.Simple (ps.map vp)) : Geo.ar (Geo.poly ((cornersOf ps).map vp)) = ((areaI ps : Int) : Rat) := by
  have h3 : 3 ≤ ps.length := by have := hps.1; simpa using this
  have := corn_ar hps ps.length 0 [] (by omega) (corn_start hps)
  unfold cornersOf
  rw [this, area_vp (ps := ps) (by omega)]
  simp
theorem normal_ar {ps : List Pt} (h : checkI ps = 0) : Geo.ar (Geo.poly ((normalOf ps).map vp)) = ((max (areaI ps) (-(areaI ps)) : Int) : Rat) := by
  have hs := check_simple h
  have e1 : Geo.ar (Geo.poly ((normalOf ps).map vp)) = Geo.ar (Geo.poly ((ccwOf ps).map vp)) := (rot_isRot (ccwOf ps)).ar
  rw [e1]
  unfold ccwOf
  split
  · rename_i hn
    rw [rev_reverse, List.map_reverse, Geo.ar_rev, corners_ar hs, show max (areaI ps) (-(areaI ps)) = -(areaI ps) by omega, Rat.intCast_neg]
  · rename_i hn
    rw [corners_ar hs, show max (areaI ps) (-(areaI ps)) = areaI ps by omega]
theorem corn_sub {ps : List Pt} : ∀ f i acc, i + f ≤ ps.length → (∀ p ∈ acc, p ∈ ps) → ∀ p ∈ cornGo ps f i acc, p ∈ ps := by
  intro f
  induction f with
  | zero => intro i acc _ h; exact h
  | succ f ih =>
    intro i acc hi h
    rw [cornGo]
    split
    · exact ih _ _ (by omega) h
    · refine ih _ _ (by omega) (fun p hp => ?_)
      rcases List.mem_append.1 hp with hp | hp
      · exact h p hp
      · rw [List.mem_singleton.1 hp, gp_eq (by omega)]
        exact List.getElem_mem _
theorem normal_sub {ps : List Pt} : ∀ p ∈ normalOf ps, p ∈ ps := by
  intro p hp
  have h1 : p ∈ ccwOf ps := by
    unfold normalOf rotOf at hp
    rcases List.mem_append.1 hp with hp | hp
    · exact List.mem_of_mem_drop hp
    · exact List.mem_of_mem_take hp
  have h2 : p ∈ cornersOf ps := by
    unfold ccwOf at h1
    split at h1
    · rw [rev_reverse] at h1; exact List.mem_reverse.1 h1
    · exact h1
  exact corn_sub _ 0 [] (by omega) (fun p hp => by cases hp) p h2
def areaSum (pss : List (List Pt)) : Int := (pss.map fun p => max (areaI p) (-(areaI p))).sum
/-- Polygons that lie apart in a rectangle have together at most its area. -/
theorem areas_fit {pss : List (List Pt)} {L W : Int} (hL : 0 ≤ L) (hW : 0 ≤ W) (hc : ∀ p ∈ pss, checkI p = 0) (hb : ∀ l ∈ pss, ∀ p ∈ l, 0 ≤ p.x ∧ p.x ≤ L ∧ 0 ≤ p.y ∧ p.y ≤ W) (ho : pss.Pairwise fun a b => (overR a b).1 = false) : areaSum pss ≤ 2 * (L * W) := by
  obtain ⟨n, rfl⟩ : ∃ n : Nat, W = (n : Int) := ⟨W.toNat, by omega⟩
  have h01 : ∀ l ∈ pss, ∀ p ∈ normalOf l, 0 ≤ p.x ∧ p.x ≤ L ∧ 0 ≤ p.y ∧ p.y ≤ (n : Int) := fun l hl p hp => hb l hl p (normal_sub p hp)
  have := Geo.area_fit (Ps := pss.map fun l => (normalOf l).map vp) (L := (L : Rat)) (W := n) (by exact_mod_cast hL)
    (fun P hP => by
      obtain ⟨l, hl, rfl⟩ := List.mem_map.1 hP
      exact normal_good (hc l hl))
    (fun P hP p hp => by
      obtain ⟨l, hl, rfl⟩ := List.mem_map.1 hP
      obtain ⟨q, hq, rfl⟩ := List.mem_map.1 hp
      have := h01 l hl q hq
      unfold vp
      simp only []
      exact ⟨by exact_mod_cast this.1, by exact_mod_cast this.2.1⟩)
    (fun P hP p hp => by
      obtain ⟨l, hl, rfl⟩ := List.mem_map.1 hP
      obtain ⟨q, hq, rfl⟩ := List.mem_map.1 hp
      have := h01 l hl q hq
      refine ⟨q.y.toNat, by omega, ?_⟩
      unfold vp
      simp only []
      have e : ((q.y.toNat : Int) : Rat) = ((q.y.toNat : Nat) : Rat) := rfl
      rw [← e, show ((q.y.toNat : Nat) : Int) = q.y by omega])
    (fun q => by
      rw [List.pairwise_map]
      refine ho.imp_of_mem fun {a b} ha hb' hab => ?_
      rintro ⟨k1, k2⟩
      exact not_both (hc a ha) (hc b hb') hab q ⟨by unfold wnP; omega, by unfold wnP; omega⟩)
  have e : ((pss.map fun l => (normalOf l).map vp).map fun P => Geo.ar (Geo.poly P)).sum = ((areaSum pss : Int) : Rat) := by
    unfold areaSum
    clear this ho h01 hb
    induction pss with
    | nil => rfl
    | cons l pss ih =>
      simp only [List.map_cons, List.sum_cons]
      rw [ih (fun p hp => hc p (List.mem_cons_of_mem _ hp)), normal_ar (hc l (List.mem_cons_self ..)), Rat.intCast_add]
  rw [e] at this
  have e2 : (2 : Rat) * ((n : Rat) * (L : Rat)) = ((2 * (L * (n : Int)) : Int) : Rat) := by
    have e3 : ((n : Int) : Rat) = (n : Rat) := rfl
    rw [Rat.intCast_mul, Rat.intCast_mul, e3]
    have : ((2 : Int) : Rat) = 2 := rfl
    rw [this]
    grind
  rw [e2] at this
  exact_mod_cast this

end Go.Proofs.YtdhakoecjmaebaaGreat
