/-
  The walk of garmentlaw39.plain: the rolls without their flaws, in new memory.
-/
import Derived.Test.YtpiniflhaokkaaaZAppR
import Derived.Test.YtpiniflhaokkaaaZDam
import Derived.Test.YtpiniflhaokkaaaZDTab
import Derived.Test.YtpiniflhaokkaaaZRefT
import Derived.Test.YtpiniflhaokkaaaZSprD
import Derived.Test.YtpiniflhaokkaaaZSprQ
namespace Go.Proofs.Ytpiniflhaokkaaa
open Go.RowKit
set_option linter.unusedSimpArgs false
set_option linter.unusedVariables false

def bare (r : Rl) : Rl := ⟨r.id, r.wd, r.ln, r.tl, r.ta, r.tb, none, 0, []⟩
end Go.Proofs.Ytpiniflhaokkaaa
/-
  Plain facts on the flaws of a roll: what one flaw alone, the first ones, and all together do; rolls with other flaws in memory.
-/
namespace Go.Proofs.Ytpiniflhaokkaaa
open Go.RowKit
set_option linter.unusedSimpArgs false
set_option linter.unusedVariables false

theorem hits_err (ps : List Pt) (x y ww h : Int) : (hitsR ps x y ww h).2 = (splitR ps).2 := by
  unfold hitsR
  by_cases hs : (splitR ps).2 = 0
  · rw [if_neg (by simpa using hs), hs]
    split
    · rfl
    · split <;> rfl
  · rw [if_pos hs]
/-- One flaw hits. -/
def hitF (ps : List Pt) (d : Int) (f : Qd) : Bool := (hitsR ps (f.a + d) f.b f.c f.d).1
theorem flawGo_ok {ps : List Pt} {d : Int} (h : (splitR ps).2 = 0) : ∀ l, flawGo ps d l = (l.any (hitF ps d), 0) := by
  intro l
  induction l with
  | nil => rfl
  | cons f l ih =>
    rw [flawGo, if_neg (by rw [hits_err]; simpa using h)]
    by_cases hf : (hitsR ps (f.a + d) f.b f.c f.d).1 = true
    · rw [if_pos hf, List.any_cons, hitF, hf]; rfl
    · rw [if_neg hf, ih, List.any_cons, hitF]
      have : (hitsR ps (f.a + d) f.b f.c f.d).1 = false := by simpa using hf
      rw [this]; rfl
/-- The same with other rolls, of which the carrier's passes. -/
theorem hitR_at {qs : List Qd} {rs : List Rl} {ps : List Pt} {j n : Nat} (hj : j < qs.length) (hn : n < rs.length) (hok : carrierR qs ps = ((j : Int), 0)) (ha : (qs[j]).a = (n : Int)) (hr : rollI (rs[n]) = 0) :
    hitR qs rs ps = flawGo ps ((qs[j]).d - (qs[j]).b) (rs[n]).fl := by
  unfold hitR
  have hg : gq qs (carrierR qs ps).1.toNat = qs[j] := by rw [hok, Int.toNat_natCast, gq]; simp [hj]
  rw [hg, hok, if_neg (by simp), if_neg (by rw [ha]; omega), ha]
  have hg2 : gr rs ((n : Int)).toNat = rs[n] := by rw [Int.toNat_natCast, gr]; simp [hn]
  rw [hg2, rollHit, if_neg (by simpa using hr)]

/-- A roll with other flaws. -/
def withFl (r : Rl) (A : Option Addr) (c : Nat) (fl : List Qd) : Rl := ⟨r.id, r.wd, r.ln, r.tl, r.ta, r.tb, A, c, fl⟩
theorem baseI_with (r : Rl) (A : Option Addr) (c : Nat) (fl : List Qd) : baseI (withFl r A c fl) = baseI r := rfl
theorem rollI_with {r : Rl} (h : rollI r = 0) {A : Option Addr} {c : Nat} {fl : List Qd} (hl : fl.length ≤ 20) (hs : ∀ q ∈ fl, q ∈ r.fl) : rollI (withFl r A c fl) = 0 := by
  obtain ⟨hb, _, hf, _⟩ := roll_ok h
  unfold rollI
  rw [baseI_with, hb, if_neg (by simp), if_neg (show ¬ 20 < (withFl r A c fl).fl.length by show ¬ 20 < fl.length; omega)]
  have : flawsBad (withFl r A c fl).ln (withFl r A c fl).wd (withFl r A c fl).fl = false := flawsBad_all.2 fun q hq => flawsBad_all.1 hf q (hs q hq)
  rw [this]
  rfl

theorem bare_ok {w : World} {r : Rl} (h : RlOk w r) (W : World) : RlOk W (bare r) :=
  ⟨h.1, Nat.le_refl _, Nat.zero_le _, fun hn => by simp [bare] at hn, fun q hq => by simp [bare] at hq, h.2.2.2.2.2⟩
end Go.Proofs.Ytpiniflhaokkaaa
/-
  Plain facts for DamageClean: a rectangle that is wider than a polygon hits it as one that is just as wide.
-/
namespace Go.Proofs.Ytpiniflhaokkaaa
open Go.RowKit
set_option linter.unusedSimpArgs false
set_option linter.unusedVariables false

theorem rowErr_zero {qs : List Qd} {rs : List Rl} : ∀ {l : List (List Pt)}, rowErr qs rs l = 0 ↔ ∀ q ∈ l, (hitR qs rs q).2 = 0 := by
  intro l
  induction l with
  | nil => simp [rowErr]
  | cons p l ih =>
    rw [rowErr]
    by_cases h : (hitR qs rs p).2 = 0
    · rw [if_neg (by simpa using h), ih]
      constructor
      · intro k q hq
        rcases List.mem_cons.1 hq with rfl | k2
        · exact h
        · exact k q k2
      · intro k q hq; exact k q (by simp [hq])
    · rw [if_pos h]
      exact ⟨fun k => absurd k h, fun k => absurd (k p (by simp)) h⟩
theorem tabErr_zero {rs : List Rl} {polys : List (List Pt)} : ∀ {ys : List Py}, tabErr rs polys ys = 0 ↔ ∀ y ∈ ys, ∀ q ∈ polys, (hitR y.parts rs q).2 = 0 := by
  intro ys
  induction ys with
  | nil => simp [tabErr]
  | cons y l ih =>
    rw [tabErr]
    by_cases h : rowErr y.parts rs polys = 0
    · rw [if_neg (by simpa using h), ih]
      constructor
      · intro k z hz
        rcases List.mem_cons.1 hz with rfl | k2
        · exact rowErr_zero.1 h
        · exact k z k2
      · intro k z hz; exact k z (by simp [hz])
    · rw [if_pos h]
      exact ⟨fun k => absurd k h, fun k => absurd (rowErr_zero.2 (k y (by simp))) h⟩
end Go.Proofs.Ytpiniflhaokkaaa
/-
  In a lay that spread.Check accepts each polygon has a carrier of the ply's lot in each ply, and the table of damages has no error.
-/
namespace Go.Proofs.Ytpiniflhaokkaaa
open Go.RowKit
set_option linter.unusedSimpArgs false
set_option linter.unusedVariables false

theorem scheck_zero {len wd : Int} {polys : List (List Pt)} {rs : List Rl} {lots : List Int} {ys : List Pl} (h : scheckR len wd polys rs lots ys = 0) : chkClothR len wd polys rs lots.length = 0 ∧ ys.length ≤ 40 ∧ plysErr len wd polys rs lots ys = 0 ∧ NoTwice (allQ ys) := by
  unfold scheckR at h
  split at h
  · rename_i h1; exact absurd h h1
  · rename_i h1
    split at h
    · cases h
    · rename_i h2
      split at h
      · rename_i h3; exact absurd h h3
      · rename_i h3
        split at h
        · rename_i h4; exact ⟨by simpa using h1, by omega, by simpa using h3, h4⟩
        · cases h
/-- A zone that is not within the part before lies within one of the parts. -/
theorem ply_whole {len wd : Int} {polys : List (List Pt)} {rs : List Rl} {lots : List Int} {lot : Int} (he : (extentsR len polys).2 = 0) {z : Pt} (hz : z ∈ (extentsR len polys).1) (h0 : 0 ≤ z.x) (hl : z.y ≤ len) :
    ∀ {l : List Qd} {prev : Option Qd}, plyGo len wd polys rs lots lot prev l = 0 → (∀ q, prev = some q → endQ q < z.y) → ∃ p ∈ l, p.d ≤ z.x ∧ z.y ≤ endQ p := by
  intro l
  induction l with
  | nil =>
    intro prev h hq
    cases prev with
    | none => cases h
    | some q =>
      rw [plyGo] at h
      split at h
      · cases h
      · rename_i hn
        have := hq q rfl
        omega
  | cons p l ih =>
    intro prev h hq
    have hpe : partErr len wd polys rs lots lot prev p = 0 := by
      rcases Classical.em (partErr len wd polys rs lots lot prev p = 0) with k | k
      · exact k
      · rw [ply_bad k] at h; exact absurd h k
    have hd : p.d ≤ z.x := by
      unfold partErr at hpe
      split at hpe
      · cases hpe
      · split at hpe
        · cases hpe
        · split at hpe
          · cases hpe
          · cases prev with
            | none =>
              simp only [] at hpe
              split at hpe
              · cases hpe
              · omega
            | some q =>
              simp only [] at hpe
              split at hpe
              · rename_i hj
                unfold joinsB at hj
                split at hj
                · cases hj
                · rw [Bool.and_eq_true, beq_iff_eq, decide_eq_true_eq] at hj
                  obtain ⟨_, b1, b2, b3⟩ := back_zero hj.1
                  have := (back_spec (extentsR len polys).1 (endQ q)).1 z hz (hq q rfl)
                  omega
              · cases hpe
    by_cases hy : z.y ≤ endQ p
    · exact ⟨p, List.mem_cons_self .., hd, hy⟩
    · rw [ply_ok hpe] at h
      obtain ⟨q, hq', k⟩ := ih h (fun q e => by cases e; omega)
      exact ⟨q, List.mem_cons_of_mem _ hq', k⟩
theorem carrier_found {lo hi : Int} : ∀ {l : List Qd} {k : Nat}, (∃ p ∈ l, carriesB p lo hi = true) → (carrierGo lo hi l k).2 = 0 := by
  intro l
  induction l with
  | nil => rintro k ⟨p, hp, _⟩; cases hp
  | cons q l ih =>
    rintro k ⟨p, hp, hc⟩
    rw [carrierGo]
    split
    · rfl
    · rename_i hn
      rcases List.mem_cons.1 hp with rfl | hp
      · exact absurd hc hn
      · exact ih ⟨p, hp, hc⟩
/-- What DamageCarried asks of a ply and a polygon. -/
structure Carried (rs : List Rl) (lots : List Int) (y : Py) (q : List Pt) (j n : Nat) : Prop where
  ck : checkI q = 0
  jl : j < y.parts.length
  nl : n < lots.length
  car : carrierR y.parts q = ((j : Int), 0)
  roll : (gq y.parts j).a = (n : Int)
  lot : gL lots n = y.lot
  carry : carriesB (gq y.parts j) (loOf q).x (hiOf q).x = true
  hit : (hitR y.parts rs q).2 = 0
theorem gq_at {qs : List Qd} {j : Nat} (h : j < qs.length) : gq qs j = qs[j] := by unfold gq; simp [h]
theorem carried {len wd : Int} {polys : List (List Pt)} {rs : List Rl} {lots : List Int} {ys : List Py} (h : scheckR len wd polys rs lots (ys.map Py.pl) = 0) : ∀ y ∈ ys, ∀ q ∈ polys, ∃ j n, Carried rs lots y q j n := by
  intro y hy q hq
  obtain ⟨hc, _, hpz, _⟩ := scheck_zero h
  obtain ⟨hext, hcr, _, _⟩ := cloth_zero hc
  obtain ⟨hr20, hrz, hnl⟩ := chkRolls_zero hcr
  obtain ⟨hl1, hl2, _⟩ := ext_zero hext
  obtain ⟨e1, e2⟩ := ext_zones hext
  obtain ⟨c1, c2, c3⟩ := e2 q hq
  have hpy : plyGo len wd polys rs lots y.lot none y.parts = 0 := plys_all.1 hpz (y.lot, y.parts) (List.mem_map.2 ⟨y, hy, rfl⟩)
  have hz : (⟨(loOf q).x, (hiOf q).x⟩ : Pt) ∈ (extentsR len polys).1 := by rw [e1]; exact List.mem_map.2 ⟨q, hq, rfl⟩
  obtain ⟨p, hp, k1, k2⟩ := ply_whole hext hz c2 c3 hpy (fun q e => by cases e)
  simp only [] at k1 k2
  obtain ⟨f1, f2, f3, f4, f5⟩ := ply_facts hpy p hp
  obtain ⟨b1, b2, b3, b4, b5⟩ := clothB_in f1
  have hln : (grl rs p.a.toNat).ln ≤ 1048576 := by
    rw [grl_eq (by omega)]
    exact (roll_ok (hrz _ (List.getElem_mem _))).2.2.2.1.2
  have hcar : carriesB p (loOf q).x (hiOf q).x = true := by
    unfold carriesB coordB
    unfold endQ at k2
    simp only [Bool.and_eq_true, decide_eq_true_eq]
    omega
  have hz2 : (carrierR y.parts q).2 = 0 := by
    unfold carrierR
    rw [if_pos c1]
    exact carrier_found ⟨p, hp, hcar⟩
  obtain ⟨_, j, j1, jl, jc⟩ := carrier_ok hz2
  have hok : carrierR y.parts q = ((j : Int), 0) := by rw [← j1, ← hz2]
  obtain ⟨g1, g2, g3, g4, g5⟩ := ply_facts hpy _ (List.getElem_mem jl)
  obtain ⟨a1, a2, a3, a4, a5⟩ := clothB_in g1
  obtain ⟨n, hn⟩ : ∃ n : Nat, (y.parts[j]).a = (n : Int) := ⟨(y.parts[j]).a.toNat, by omega⟩
  have hnr : n < rs.length := by omega
  have hs : (splitR q).2 = 0 := by rw [splitR_err]; exact c1
  refine ⟨j, n, c1, jl, by omega, hok, by rw [gq_at jl]; exact hn, by rw [hn, Int.toNat_natCast] at g4; exact g4, by rw [gq_at jl]; exact jc, ?_⟩
  rw [hitR_at jl hnr hok hn (hrz _ (List.getElem_mem hnr)), flawGo_ok hs]
theorem carried_tab {len wd : Int} {polys : List (List Pt)} {rs : List Rl} {lots : List Int} {ys : List Py} (h : scheckR len wd polys rs lots (ys.map Py.pl) = 0) : tabErr rs polys ys = 0 := by
  rw [tabErr_zero]
  intro y hy q hq
  obtain ⟨_, _, k⟩ := carried h y hy q hq
  exact k.hit

end Go.Proofs.Ytpiniflhaokkaaa
/-
  Plain facts for the laws of spreading that need no reference: the lots of the plies, what is left of the rolls, joints, changed lays, less plies, more rolls, enough rolls.
-/
namespace Go.Proofs.Ytpiniflhaokkaaa
open Go.RowKit
set_option linter.unusedSimpArgs false
set_option linter.unusedVariables false

/- The lots of the plies. -/
def expandL : List Int → Nat → List Int
  | [], _ => []
  | n :: l, j => List.replicate n.toNat (j : Int) ++ expandL l (j + 1)
theorem pliesN_lots {len : Int} {polys : List (List Pt)} {k : Int} : ∀ {n : Nat} {left : List Qd} {ys : List Pl}, pliesN len polys k n left = some ys → ys.map (·.1) = List.replicate n k := by
  intro n
  induction n with
  | zero => intro left ys h; cases h; rfl
  | succ n ih =>
    intro left ys h
    rw [pliesN, Option.bind_eq_some_iff] at h
    obtain ⟨x, hx, h⟩ := h
    rw [Option.map_eq_some_iff] at h
    obtain ⟨r, hr, rfl⟩ := h
    rw [List.map_cons, ih hr]
    rfl
theorem lotsGo_lots {len wd : Int} {polys : List (List Pt)} {rs : List Rl} {lots : List Int} : ∀ {pl : List Int} {j : Nat} {ys : List Pl}, lotsGo len wd polys rs lots pl j = some ys → ys.map (·.1) = expandL pl j := by
  intro pl
  induction pl with
  | nil => intro j ys h; cases h; rfl
  | cons n pl ih =>
    intro j ys h
    rw [lotsGo, Option.bind_eq_some_iff] at h
    obtain ⟨x, hx, h⟩ := h
    rw [Option.map_eq_some_iff] at h
    obtain ⟨r, hr, rfl⟩ := h
    rw [List.map_append, pliesN_lots hx, ih hr]
    rfl

/- What is left of the rolls. -/
def lenQ (l : List Qd) : Int := (l.map fun q => q.c - q.b).sum
def lenR (l : List Qd) : Int := (l.map fun q => q.d - q.c).sum
def lenZ (l : List Pt) : Int := (l.map fun z => z.y - z.x).sum
theorem lenQ_append (a b : List Qd) : lenQ (a ++ b) = lenQ a + lenQ b := by simp [lenQ]
theorem lenR_append (a b : List Qd) : lenR (a ++ b) = lenR a + lenR b := by simp [lenR]
theorem lenZ_cons (z : Pt) (l : List Pt) : lenZ (z :: l) = (z.y - z.x) + lenZ l := by simp [lenZ]
theorem lenZ_perm {a b : List Pt} (h : a.Perm b) : lenZ a = lenZ b := by
  unfold lenZ
  induction h with
  | nil => rfl
  | cons x _ ih => simp [ih]
  | swap x y l => simp; omega
  | trans _ _ h1 h2 => rw [h1, h2]
theorem restGo_spec {i lot ln : Int} : ∀ {zs : List Pt} {f : Int}, f ≤ ln → Apt zs → (∀ z ∈ zs, f ≤ z.x ∧ z.x < z.y ∧ z.y ≤ ln) →
    (∀ q ∈ restGo i lot ln f zs, q.a = i ∧ q.b = lot ∧ f ≤ q.c ∧ q.c < q.d ∧ q.d ≤ ln ∧ ∀ z ∈ zs, ¬ (q.c < z.y ∧ z.x < q.d)) ∧ ((restGo i lot ln f zs).Pairwise fun p q => p.d ≤ q.c) ∧ lenR (restGo i lot ln f zs) + lenZ zs = ln - f := by
  intro zs
  induction zs with
  | nil =>
    intro f hf _ _
    rw [restGo]
    by_cases h : f < ln
    · rw [if_pos h]
      refine ⟨fun q hq => ?_, List.pairwise_singleton .., by simp [lenR, lenZ]⟩
      rw [List.mem_singleton.1 hq]
      refine ⟨rfl, rfl, Int.le_refl _, h, Int.le_refl _, fun z hz => by cases hz⟩
    · rw [if_neg h]
      exact ⟨fun q hq => (by cases hq), List.Pairwise.nil, by simp [lenR, lenZ]; omega⟩
  | cons z l ih =>
    intro f hf ha hz
    have h1 := hz z (List.mem_cons_self ..)
    have ha' := List.pairwise_cons.1 ha
    obtain ⟨k1, k2, k3⟩ := ih (f := z.y) h1.2.2 ha'.2 (fun y hy => by have := hz y (List.mem_cons_of_mem _ hy); have := ha'.1 y hy; omega)
    rw [restGo]
    have hrest : ∀ q ∈ restGo i lot ln z.y l, q.a = i ∧ q.b = lot ∧ f ≤ q.c ∧ q.c < q.d ∧ q.d ≤ ln ∧ ∀ y ∈ z :: l, ¬ (q.c < y.y ∧ y.x < q.d) := by
      intro q hq
      obtain ⟨m1, m2, m3, m4, m5, m6⟩ := k1 q hq
      refine ⟨m1, m2, by omega, m4, m5, fun y hy => ?_⟩
      rcases List.mem_cons.1 hy with rfl | hy
      · omega
      · exact m6 y hy
    by_cases h : f < z.x
    · rw [if_pos h]
      refine ⟨fun q hq => ?_, ?_, ?_⟩
      · rcases List.mem_append.1 hq with hq | hq
        · rw [List.mem_singleton.1 hq]
          refine ⟨rfl, rfl, Int.le_refl _, h, by show z.x ≤ ln; omega, fun y hy => ?_⟩
          show ¬ (f < y.y ∧ y.x < z.x)
          rcases List.mem_cons.1 hy with rfl | hy
          · omega
          · have := ha'.1 y hy; omega
        · exact hrest q hq
      · rw [List.singleton_append, List.pairwise_cons]
        refine ⟨fun q hq => ?_, k2⟩
        have := (k1 q hq).2.2.1
        show z.x ≤ q.c
        omega
      · rw [lenR_append, lenZ_cons]
        have : lenR [(⟨i, lot, f, z.x⟩ : Qd)] = z.x - f := by simp [lenR]
        omega
    · rw [if_neg h, List.nil_append]
      refine ⟨hrest, k2, ?_⟩
      rw [lenZ_cons]
      omega
def zTot (parts : List Qd) : List Rl → Nat → Int
  | [], _ => 0
  | _ :: rs, i => lenZ (zonesOf i parts) + zTot parts rs (i + 1)
def lnSum (rs : List Rl) : Int := (rs.map (·.ln)).sum
theorem restsFrom_spec {parts : List Qd} : ∀ {rs : List Rl} {ts : List Int} {i : Nat}, ts.length = rs.length →
    (∀ j (hj : j < rs.length), 0 ≤ rs[j].ln ∧ Disj (zonesOf ((i + j : Nat) : Int) parts) ∧ ∀ z ∈ zonesOf ((i + j : Nat) : Int) parts, 0 ≤ z.x ∧ z.x < z.y ∧ z.y ≤ (rs[j]).ln) →
    (∀ q ∈ restsFrom parts rs ts i, ∃ j, ∃ (hj : j < rs.length) (hj' : j < ts.length), q.a = ((i + j : Nat) : Int) ∧ q.b = ts[j] ∧ 0 ≤ q.c ∧ q.c < q.d ∧ q.d ≤ rs[j].ln ∧ ∀ z ∈ zonesOf q.a parts, ¬ (q.c < z.y ∧ z.x < q.d)) ∧
    ((restsFrom parts rs ts i).Pairwise fun p q => ¬ (p.a = q.a ∧ p.c < q.d ∧ q.c < p.d)) ∧ lenR (restsFrom parts rs ts i) + zTot parts rs i = lnSum rs := by
  intro rs
  induction rs with
  | nil =>
    intro ts i _ _
    have : restsFrom parts [] ts i = [] := by cases ts <;> rfl
    rw [this]
    exact ⟨fun q hq => (by cases hq), List.Pairwise.nil, rfl⟩
  | cons r rs ih =>
    intro ts i hl h
    cases ts with
    | nil => simp at hl
    | cons t ts =>
      obtain ⟨a1, a2, a3⟩ := h 0 (by simp)
      simp only [Nat.add_zero, List.getElem_cons_zero] at a1 a2 a3
      have hperm := sortZ_perm (zonesOf (i : Int) parts)
      have hm : ∀ z ∈ sortZ (zonesOf (i : Int) parts), 0 ≤ z.x ∧ z.x < z.y ∧ z.y ≤ r.ln := fun z hz => a3 z (hperm.subset hz)
      have hap : Apt (sortZ (zonesOf (i : Int) parts)) := (apt_disj (fun z hz => (hm z hz).2.1) (sortZ_sorted _)).1 (disj_perm hperm.symm a2)
      obtain ⟨k1, k2, k3⟩ := restGo_spec (i := (i : Int)) (lot := t) a1 hap hm
      obtain ⟨m1, m2, m3⟩ := ih (ts := ts) (i := i + 1) (by simpa using hl) (fun j hj => by
        have := h (j + 1) (by simpa using hj)
        rw [show i + (j + 1) = i + 1 + j by omega] at this
        simpa using this)
      rw [restsFrom]
      have hA : ∀ q ∈ restGo (i : Int) t r.ln 0 (sortZ (zonesOf (i : Int) parts)), q.a = (i : Int) := fun q hq => (k1 q hq).1
      refine ⟨fun q hq => ?_, ?_, ?_⟩
      · rcases List.mem_append.1 hq with hq | hq
        · obtain ⟨c1, c2, c3, c4, c5, c6⟩ := k1 q hq
          exact ⟨0, by simp, by simp, by simpa using c1, by simpa using c2, c3, c4, by simpa using c5, fun z hz => c6 z (hperm.symm.subset (by rw [c1] at hz; exact hz))⟩
        · obtain ⟨j, hj, hj', c1, c2, c3, c4, c5, c6⟩ := m1 q hq
          exact ⟨j + 1, by simpa using hj, by simpa using hj', by rw [c1]; congr 1; omega, by simpa using c2, c3, c4, by simpa using c5, c6⟩
      · rw [List.pairwise_append]
        refine ⟨k2.imp fun hab k => by omega, m2, fun p hp q hq k => ?_⟩
        obtain ⟨j, _, _, c1, _⟩ := m1 q hq
        have := hA p hp
        omega
      · rw [lenR_append, zTot]
        have e1 : lnSum (r :: rs) = r.ln + lnSum rs := by simp [lnSum]
        have e2 := lenZ_perm hperm
        omega
theorem zTot_cons (p : Qd) (parts : List Qd) : ∀ (rs : List Rl) (i : Nat), zTot (p :: parts) rs i = (if (i : Int) ≤ p.a ∧ p.a < ((i + rs.length : Nat) : Int) then p.c - p.b else 0) + zTot parts rs i := by
  intro rs
  induction rs with
  | nil => intro i; rw [zTot, zTot, if_neg (by simp; try omega)]; rfl
  | cons r rs ih =>
    intro i
    rw [zTot, zTot, ih, zones_cons]
    by_cases h : p.a = (i : Int)
    · rw [if_pos h, if_neg (by simp; omega), if_pos (by simp; omega), List.singleton_append, lenZ_cons]
      simp only []
      omega
    · rw [if_neg h, List.nil_append]
      by_cases h2 : ((i + 1 : Nat) : Int) ≤ p.a ∧ p.a < ((i + 1 + rs.length : Nat) : Int)
      · rw [if_pos h2, if_pos (by simp; omega)]; omega
      · rw [if_neg h2, if_neg (by simp; omega)]; omega
theorem zTot_all {rs : List Rl} : ∀ {parts : List Qd}, (∀ p ∈ parts, 0 ≤ p.a ∧ p.a < (rs.length : Int)) → zTot parts rs 0 = lenQ parts := by
  intro parts
  induction parts with
  | nil =>
    intro _
    have : ∀ (rs : List Rl) (i : Nat), zTot [] rs i = 0 := by
      intro rs
      induction rs with
      | nil => intro i; rfl
      | cons r rs ih => intro i; rw [zTot, ih]; rfl
    rw [this]; rfl
  | cons p parts ih =>
    intro h
    have hp := h p (List.mem_cons_self ..)
    rw [zTot_cons, ih (fun q hq => h q (List.mem_cons_of_mem _ hq)), if_pos (by simp; omega)]
    simp [lenQ]
def restPart (q : Qd) : Qd := ⟨q.a, q.c, q.d, 0⟩
theorem lenQ_rest (l : List Qd) : lenQ (l.map restPart) = lenR l := by
  unfold lenQ lenR
  rw [List.map_map]
  rfl
/-- Parts and rests together are the rolls, no cloth twice. -/
theorem once_all {rs : List Rl} {lots : List Int} {parts : List Qd} (hl : lots.length = rs.length) (hp : ∀ p ∈ parts, clothB p rs = true) (h2 : NoTwice parts) (hln : ∀ r ∈ rs, 0 ≤ r.ln) :
    (∀ q ∈ restsFrom parts rs lots 0, 0 ≤ q.a ∧ q.a < (rs.length : Int) ∧ q.b = gL lots q.a.toNat ∧ 0 ≤ q.c ∧ q.c < q.d ∧ q.d ≤ (grl rs q.a.toNat).ln) ∧
    NoTwice (parts ++ (restsFrom parts rs lots 0).map restPart) ∧ lenQ (parts ++ (restsFrom parts rs lots 0).map restPart) = lnSum rs := by
  have hcl : ∀ p ∈ parts, 0 ≤ p.a ∧ p.a < (rs.length : Int) ∧ 0 ≤ p.b ∧ p.b < p.c ∧ p.c ≤ (grl rs p.a.toNat).ln := fun p hq => by
    have h := hp p hq
    unfold clothB at h
    simp only [Bool.and_eq_true, decide_eq_true_eq] at h
    exact ⟨h.1, h.2.1, h.2.2.1, h.2.2.2.1, h.2.2.2.2⟩
  obtain ⟨m1, m2, m3⟩ := restsFrom_spec (parts := parts) (rs := rs) (ts := lots) (i := 0) hl (fun j hj => by
    refine ⟨hln _ (List.getElem_mem hj), noTwice_disj h2 _, fun z hz => ?_⟩
    obtain ⟨q, hq, h3, rfl⟩ := zones_mem.1 hz
    have := hcl q hq
    rw [h3] at this
    simp only [Nat.zero_add, Int.toNat_natCast] at this
    rw [grl_eq hj] at this
    exact ⟨this.2.2.1, this.2.2.2.1, this.2.2.2.2⟩)
  refine ⟨fun q hq => ?_, ?_, ?_⟩
  · obtain ⟨j, hj, hj', c1, c2, c3, c4, c5, _⟩ := m1 q hq
    rw [Nat.zero_add] at c1
    have e : q.a.toNat = j := by omega
    rw [e, grl_eq hj, gL_eq hj']
    exact ⟨by omega, by omega, c2, c3, c4, c5⟩
  · unfold NoTwice
    rw [List.pairwise_append]
    refine ⟨h2, ?_, fun p hp' q hq k => ?_⟩
    · rw [List.pairwise_map]
      exact m2.imp fun hab k => hab ⟨k.1, k.2.1, k.2.2⟩
    · obtain ⟨r, hr, rfl⟩ := List.mem_map.1 hq
      obtain ⟨j, hj, hj', c1, c2, c3, c4, c5, c6⟩ := m1 r hr
      exact c6 ⟨p.b, p.c⟩ (zones_mem.2 ⟨p, hp', k.1, rfl⟩) ⟨k.2.2, k.2.1⟩
  · rw [lenQ_append, lenQ_rest]
    have := zTot_all (rs := rs) (parts := parts) (fun p hq => ⟨(hcl p hq).1, (hcl p hq).2.1⟩)
    omega

/- Joints. -/
/- Changed lays. -/
/- Less plies. -/
theorem sum_toNat : ∀ {pl : List Int}, (∀ n ∈ pl, 0 ≤ n) → (pl.map fun n => (n.toNat : Int)).sum = pl.sum := by
  intro pl
  induction pl with
  | nil => intro _; rfl
  | cons n pl ih =>
    intro h
    have := h n (List.mem_cons_self ..)
    rw [List.map_cons, List.sum_cons, List.sum_cons, ih (fun m hm => h m (List.mem_cons_of_mem _ hm))]
    omega
theorem chkPlies_lots {lots plies : List Int} (h : chkPliesR lots plies = 0) : lotsBad lots = false ∧ pliesGo 0 plies = 0 := by
  unfold chkPliesR at h
  split at h
  · cases h
  · rename_i h1; exact ⟨by simpa using h1, h⟩
/- One more roll. -/
/- Enough rolls. -/
end Go.Proofs.Ytpiniflhaokkaaa
