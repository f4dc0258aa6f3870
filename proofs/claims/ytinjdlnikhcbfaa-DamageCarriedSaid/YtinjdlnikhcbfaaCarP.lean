/-
  In a lay that spread.Check accepts each polygon has a carrier of the ply's lot in each ply, and the table of damages has no error.
-/
import Derived.Test.YtinjdlnikhcbfaaSprD
import Derived.Test.YtinjdlnikhcbfaaCleanP
namespace Go.Proofs.Ytinjdlnikhcbfaa
open Go.RowKit
set_option linter.unusedSimpArgs false
set_option linter.unusedVariables false

theorem scheck_zero {len wd : Int} {polys : List (List Pt)} {rs : List Rl} {lots : List Int} {ys : List Pl} (h : scheckR len wd polys rs lots ys = 0) : chkClothR len wd polys rs lots.length = 0 ∧ ys.length ≤ 40 ∧ plysErr len wd polys rs lots ys = 0 ∧ NoTwice (allQ ys) := by
  unfold scheckR at h
  split at h
  · rename_i h1; exact absurd h h1
  · rename_i h1
    split at h
    · cases h
    · rename_i h2
      split at h
      · rename_i h3; exact absurd h h3
      · rename_i h3
        split at h
        · rename_i h4; exact ⟨by simpa using h1, by omega, by simpa using h3, h4⟩
        · cases h
/-- A zone that is not within the part before lies within one of the parts. -/
theorem ply_whole {len wd : Int} {polys : List (List Pt)} {rs : List Rl} {lots : List Int} {lot : Int} (he : (extentsR len polys).2 = 0) {z : Pt} (hz : z ∈ (extentsR len polys).1) (h0 : 0 ≤ z.x) (hl : z.y ≤ len) :
    ∀ {l : List Qd} {prev : Option Qd}, plyGo len wd polys rs lots lot prev l = 0 → (∀ q, prev = some q → endQ q < z.y) → ∃ p ∈ l, p.d ≤ z.x ∧ z.y ≤ endQ p := by
  intro l
  induction l with
  | nil =>
    intro prev h hq
    cases prev with
    | none => cases h
    | some q =>
      rw [plyGo] at h
      split at h
      · cases h
      · rename_i hn
        have := hq q rfl
        omega
  | cons p l ih =>
    intro prev h hq
    have hpe : partErr len wd polys rs lots lot prev p = 0 := by
      rcases Classical.em (partErr len wd polys rs lots lot prev p = 0) with k | k
      · exact k
      · rw [ply_bad k] at h; exact absurd h k
    have hd : p.d ≤ z.x := by
      unfold partErr at hpe
      split at hpe
      · cases hpe
      · split at hpe
        · cases hpe
        · split at hpe
          · cases hpe
          · cases prev with
            | none =>
              simp only [] at hpe
              split at hpe
              · cases hpe
              · omega
            | some q =>
              simp only [] at hpe
              split at hpe
              · rename_i hj
                unfold joinsB at hj
                split at hj
                · cases hj
                · rw [Bool.and_eq_true, beq_iff_eq, decide_eq_true_eq] at hj
                  obtain ⟨_, b1, b2, b3⟩ := back_zero hj.1
                  have := (back_spec (extentsR len polys).1 (endQ q)).1 z hz (hq q rfl)
                  omega
              · cases hpe
    by_cases hy : z.y ≤ endQ p
    · exact ⟨p, List.mem_cons_self .., hd, hy⟩
    · rw [ply_ok hpe] at h
      obtain ⟨q, hq', k⟩ := ih h (fun q e => by cases e; omega)
      exact ⟨q, List.mem_cons_of_mem _ hq', k⟩
theorem carrier_found {lo hi : Int} : ∀ {l : List Qd} {k : Nat}, (∃ p ∈ l, carriesB p lo hi = true) → (carrierGo lo hi l k).2 = 0 := by
  intro l
  induction l with
  | nil => rintro k ⟨p, hp, _⟩; cases hp
  | cons q l ih =>
    rintro k ⟨p, hp, hc⟩
    rw [carrierGo]
    split
    · rfl
    · rename_i hn
      rcases List.mem_cons.1 hp with rfl | hp
      · exact absurd hc hn
      · exact ih ⟨p, hp, hc⟩
/-- What DamageCarried asks of a ply and a polygon. -/
structure Carried (rs : List Rl) (lots : List Int) (y : Py) (q : List Pt) (j n : Nat) : Prop where
  ck : checkI q = 0
  jl : j < y.parts.length
  nl : n < lots.length
  car : carrierR y.parts q = ((j : Int), 0)
  roll : (gq y.parts j).a = (n : Int)
  lot : gL lots n = y.lot
  carry : carriesB (gq y.parts j) (loOf q).x (hiOf q).x = true
  hit : (hitR y.parts rs q).2 = 0
theorem gq_at {qs : List Qd} {j : Nat} (h : j < qs.length) : gq qs j = qs[j] := by unfold gq; simp [h]
theorem carried {len wd : Int} {polys : List (List Pt)} {rs : List Rl} {lots : List Int} {ys : List Py} (h : scheckR len wd polys rs lots (ys.map Py.pl) = 0) : ∀ y ∈ ys, ∀ q ∈ polys, ∃ j n, Carried rs lots y q j n := by
  intro y hy q hq
  obtain ⟨hc, _, hpz, _⟩ := scheck_zero h
  obtain ⟨hext, hcr, _, _⟩ := cloth_zero hc
  obtain ⟨hr20, hrz, hnl⟩ := chkRolls_zero hcr
  obtain ⟨hl1, hl2, _⟩ := ext_zero hext
  obtain ⟨e1, e2⟩ := ext_zones hext
  obtain ⟨c1, c2, c3⟩ := e2 q hq
  have hpy : plyGo len wd polys rs lots y.lot none y.parts = 0 := plys_all.1 hpz (y.lot, y.parts) (List.mem_map.2 ⟨y, hy, rfl⟩)
  have hz : (⟨(loOf q).x, (hiOf q).x⟩ : Pt) ∈ (extentsR len polys).1 := by rw [e1]; exact List.mem_map.2 ⟨q, hq, rfl⟩
  obtain ⟨p, hp, k1, k2⟩ := ply_whole hext hz c2 c3 hpy (fun q e => by cases e)
  simp only [] at k1 k2
  obtain ⟨f1, f2, f3, f4, f5⟩ := ply_facts hpy p hp
  obtain ⟨b1, b2, b3, b4, b5⟩ := clothB_in f1
  have hln : (grl rs p.a.toNat).ln ≤ 1048576 := by
    rw [grl_eq (by omega)]
    exact (roll_ok (hrz _ (List.getElem_mem _))).2.2.2.1.2
  have hcar : carriesB p (loOf q).x (hiOf q).x = true := by
    unfold carriesB coordB
    unfold endQ at k2
    simp only [Bool.and_eq_true, decide_eq_true_eq]
    omega
  have hz2 : (carrierR y.parts q).2 = 0 := by
    unfold carrierR
    rw [if_pos c1]
    exact carrier_found ⟨p, hp, hcar⟩
  obtain ⟨_, j, j1, jl, jc⟩ := carrier_ok hz2
  have hok : carrierR y.parts q = ((j : Int), 0) := by rw [← j1, ← hz2]
  obtain ⟨g1, g2, g3, g4, g5⟩ := ply_facts hpy _ (List.getElem_mem jl)
  obtain ⟨a1, a2, a3, a4, a5⟩ := clothB_in g1
  obtain ⟨n, hn⟩ : ∃ n : Nat, (y.parts[j]).a = (n : Int) := ⟨(y.parts[j]).a.toNat, by omega⟩
  have hnr : n < rs.length := by omega
  have hs : (splitR q).2 = 0 := by rw [splitR_err]; exact c1
  refine ⟨j, n, c1, jl, by omega, hok, by rw [gq_at jl]; exact hn, by rw [hn, Int.toNat_natCast] at g4; exact g4, by rw [gq_at jl]; exact jc, ?_⟩
  rw [hitR_at jl hnr hok hn (hrz _ (List.getElem_mem hnr)), flawGo_ok hs]
theorem carried_tab {len wd : Int} {polys : List (List Pt)} {rs : List Rl} {lots : List Int} {ys : List Py} (h : scheckR len wd polys rs lots (ys.map Py.pl) = 0) : tabErr rs polys ys = 0 := by
  rw [tabErr_zero]
  intro y hy q hq
  obtain ⟨_, _, k⟩ := carried h y hy q hq
  exact k.hit

end Go.Proofs.Ytinjdlnikhcbfaa
