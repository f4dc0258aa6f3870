/-
  Plain facts on the flaws of a roll: what one flaw alone, the first ones, and all together do; rolls with other flaws in memory.
-/
import Derived.Test.YtinjdlnikhcbfaaPlain
import Derived.Test.YtinjdlnikhcbfaaDTab
namespace Go.Proofs.Ytinjdlnikhcbfaa
open Go.RowKit
set_option linter.unusedSimpArgs false
set_option linter.unusedVariables false

theorem hits_err (ps : List Pt) (x y ww h : Int) : (hitsR ps x y ww h).2 = (splitR ps).2 := by
  unfold hitsR
  by_cases hs : (splitR ps).2 = 0
  · rw [if_neg (by simpa using hs), hs]
    split
    · rfl
    · split <;> rfl
  · rw [if_pos hs]
/-- One flaw hits. -/
def hitF (ps : List Pt) (d : Int) (f : Qd) : Bool := (hitsR ps (f.a + d) f.b f.c f.d).1
theorem flawGo_ok {ps : List Pt} {d : Int} (h : (splitR ps).2 = 0) : ∀ l, flawGo ps d l = (l.any (hitF ps d), 0) := by
  intro l
  induction l with
  | nil => rfl
  | cons f l ih =>
    rw [flawGo, if_neg (by rw [hits_err]; simpa using h)]
    by_cases hf : (hitsR ps (f.a + d) f.b f.c f.d).1 = true
    · rw [if_pos hf, List.any_cons, hitF, hf]; rfl
    · rw [if_neg hf, ih, List.any_cons, hitF]
      have : (hitsR ps (f.a + d) f.b f.c f.d).1 = false := by simpa using hf
      rw [this]; rfl
theorem flawGo_split {ps : List Pt} {d : Int} {l : List Qd} (h : (flawGo ps d l).2 = 0) (hl : 0 < l.length) : (splitR ps).2 = 0 := by
  cases l with
  | nil => cases hl
  | cons f l =>
    rw [flawGo] at h
    by_cases hs : (hitsR ps (f.a + d) f.b f.c f.d).2 = 0
    · rwa [hits_err] at hs
    · rw [if_pos hs] at h; exact absurd h hs
theorem flawGo_no {ps : List Pt} {d : Int} : ∀ {l : List Qd}, (flawGo ps d l).2 ≠ 0 → (flawGo ps d l).1 = false := by
  intro l
  induction l with
  | nil => intro h; exact absurd rfl h
  | cons f l ih =>
    intro h
    rw [flawGo] at h ⊢
    split
    · rfl
    · rename_i h1
      rw [if_neg h1] at h
      split
      · rename_i h2; rw [if_pos h2] at h; exact absurd rfl h
      · rename_i h2; rw [if_neg h2] at h; exact ih h
theorem hitR_no {qs : List Qd} {rs : List Rl} {ps : List Pt} (h : (hitR qs rs ps).2 ≠ 0) : (hitR qs rs ps).1 = false := by
  unfold hitR at h ⊢
  split
  · rfl
  · rename_i h1
    rw [if_neg h1] at h
    split
    · rfl
    · rename_i h2
      rw [if_neg h2] at h
      unfold rollHit at h ⊢
      split
      · rfl
      · rename_i h3
        rw [if_neg h3] at h
        exact flawGo_no h
/-- What a hit without an error says: a carrier, its roll, a roll that passes. -/
theorem hitR_ok {qs : List Qd} {rs : List Rl} {ps : List Pt} (h : (hitR qs rs ps).2 = 0) :
    ∃ j n : Nat, ∃ hj : j < qs.length, ∃ hn : n < rs.length, carrierR qs ps = ((j : Int), 0) ∧ (qs[j]).a = (n : Int) ∧ rollI (rs[n]) = 0 ∧ carriesB qs[j] (loOf ps).x (hiOf ps).x = true ∧
      hitR qs rs ps = flawGo ps ((qs[j]).d - (qs[j]).b) (rs[n]).fl := by
  have h' := h
  unfold hitR at h
  split at h
  · rename_i h1; exact absurd h h1
  · rename_i h1
    have h1 : (carrierR qs ps).2 = 0 := by simpa using h1
    obtain ⟨_, j, hj1, hj, hcar⟩ := carrier_ok h1
    have hok : carrierR qs ps = ((j : Int), 0) := by rw [← hj1, ← h1]
    have hg : gq qs (carrierR qs ps).1.toNat = qs[j] := by rw [hj1, Int.toNat_natCast, gq]; simp [hj]
    rw [hg] at h
    split at h
    · cases h
    · rename_i h2
      have hnr : (qs[j]).a.toNat < rs.length := by omega
      have hg2 : gr rs (qs[j]).a.toNat = rs[(qs[j]).a.toNat] := by rw [gr]; simp [hnr]
      rw [hg2] at h
      unfold rollHit at h
      split at h
      · rename_i h3; exact absurd h h3
      · rename_i h3
        refine ⟨j, (qs[j]).a.toNat, hj, hnr, hok, by omega, by simpa using h3, hcar, ?_⟩
        unfold hitR
        rw [if_neg (by simpa using h1), hg, if_neg h2, hg2, rollHit, if_neg h3]
/-- The same with other rolls, of which the carrier's passes. -/
theorem hitR_at {qs : List Qd} {rs : List Rl} {ps : List Pt} {j n : Nat} (hj : j < qs.length) (hn : n < rs.length) (hok : carrierR qs ps = ((j : Int), 0)) (ha : (qs[j]).a = (n : Int)) (hr : rollI (rs[n]) = 0) :
    hitR qs rs ps = flawGo ps ((qs[j]).d - (qs[j]).b) (rs[n]).fl := by
  unfold hitR
  have hg : gq qs (carrierR qs ps).1.toNat = qs[j] := by rw [hok, Int.toNat_natCast, gq]; simp [hj]
  rw [hg, hok, if_neg (by simp), if_neg (by rw [ha]; omega), ha]
  have hg2 : gr rs ((n : Int)).toNat = rs[n] := by rw [Int.toNat_natCast, gr]; simp [hn]
  rw [hg2, rollHit, if_neg (by simpa using hr)]

/-- A roll with other flaws. -/
def withFl (r : Rl) (A : Option Addr) (c : Nat) (fl : List Qd) : Rl := ⟨r.id, r.wd, r.ln, r.tl, r.ta, r.tb, A, c, fl⟩
theorem baseI_with (r : Rl) (A : Option Addr) (c : Nat) (fl : List Qd) : baseI (withFl r A c fl) = baseI r := rfl
theorem rollI_with {r : Rl} (h : rollI r = 0) {A : Option Addr} {c : Nat} {fl : List Qd} (hl : fl.length ≤ 20) (hs : ∀ q ∈ fl, q ∈ r.fl) : rollI (withFl r A c fl) = 0 := by
  obtain ⟨hb, _, hf, _⟩ := roll_ok h
  unfold rollI
  rw [baseI_with, hb, if_neg (by simp), if_neg (show ¬ 20 < (withFl r A c fl).fl.length by show ¬ 20 < fl.length; omega)]
  have : flawsBad (withFl r A c fl).ln (withFl r A c fl).wd (withFl r A c fl).fl = false := flawsBad_all.2 fun q hq => flawsBad_all.1 hf q (hs q hq)
  rw [this]
  rfl

/-- The bare rolls, one of them with flaws again. -/
def oneWith (rs : List Rl) (n : Nat) (A : Option Addr) (c : Nat) (fl : List Qd) : List Rl := (rs.map bare).set n (withFl (rs.getD n ⟨⟨#[]⟩, 0, 0, 0, 0, 0, none, 0, []⟩) A c fl)
theorem oneWith_len (rs : List Rl) (n : Nat) (A : Option Addr) (c : Nat) (fl : List Qd) : (oneWith rs n A c fl).length = rs.length := by simp [oneWith]
theorem oneWith_at {rs : List Rl} {n : Nat} (hn : n < rs.length) (A : Option Addr) (c : Nat) (fl : List Qd) : ∃ h : n < (oneWith rs n A c fl).length, (oneWith rs n A c fl)[n] = withFl rs[n] A c fl := by
  refine ⟨by rw [oneWith_len]; exact hn, ?_⟩
  simp [oneWith, hn]
theorem bare_ok {w : World} {r : Rl} (h : RlOk w r) (W : World) : RlOk W (bare r) :=
  ⟨h.1, Nat.le_refl _, Nat.zero_le _, fun hn => by simp [bare] at hn, fun q hq => by simp [bare] at hq, h.2.2.2.2.2⟩
/-- A row of bare rolls into one of which a flaws' header has been stored. -/
theorem rolls_with {w W : World} {C : Option Addr} {rs : List Rl} (hrs : Rolls w C rs) {g n : Nat} (hn : n < rs.length) {A : Option Addr} {c : Nat} {fl : List Qd}
    (hcell : ∀ i a, (rs.map bare)[i]? = some a → ∀ j u, (Rl.cells a)[j]? = some u → (i ≠ n ∨ j ≠ 6) → W.cell? ⟨g, 0 + i * 7 + j, none⟩ = some u)
    (h6 : W.cell? ⟨g, n * 7 + 6, none⟩ = some (.slice A fl.length c))
    (hq : Qds W A fl) (hl : fl.length ≤ c) (hm : c ≤ maxLen) (hi : ∀ q ∈ fl, QdI q) : Rolls W (some ⟨g, 0, none⟩) (oneWith rs n A c fl) := by
  have hok : ∀ i (h : i < rs.length), RlOk w rs[i] := fun i h => by obtain ⟨_, _, _, _, _, _, _, _, _, _, ho⟩ := hrs.at_ h; exact ho
  intro _
  refine ⟨g, 0, rfl, fun i a ha => ?_⟩
  have hil : i < rs.length := by rw [← oneWith_len rs n A c fl]; exact (List.getElem?_eq_some_iff.1 ha).1
  by_cases hin : i = n
  · subst hin
    obtain ⟨h, e⟩ := oneWith_at hn A c fl
    rw [List.getElem?_eq_getElem h, e] at ha
    cases ha
    refine ⟨fun j v hv => ?_, ?_⟩
    · by_cases hj : j = 6
      · subst hj
        cases hv
        rw [Nat.zero_add]
        exact h6
      · refine hcell i (bare rs[i]) (by simp [hn]) j v ?_ (.inr hj)
        rcases j with _ | _ | _ | _ | _ | _ | _ | j
        · exact hv
        · exact hv
        · exact hv
        · exact hv
        · exact hv
        · exact hv
        · exact absurd rfl hj
        · exact hv
    · have ho := hok i hn
      exact ⟨ho.1, hl, hm, hq, hi, ho.2.2.2.2.2⟩
  · have : (oneWith rs n A c fl)[i]? = (rs.map bare)[i]? := by
      unfold oneWith
      rw [List.getElem?_set_ne (by omega)]
    rw [this] at ha
    refine ⟨fun j v hv => hcell i a ha j v hv (.inl hin), ?_⟩
    rw [List.getElem?_map, List.getElem?_eq_getElem hil] at ha
    cases ha
    exact bare_ok (hok i hil) W
theorem hit_with {qs : List Qd} {rs : List Rl} {ps : List Pt} {j n : Nat} (hj : j < qs.length) (hn : n < rs.length) (hok : carrierR qs ps = ((j : Int), 0)) (ha : (qs[j]).a = (n : Int)) (hr : rollI (rs[n]) = 0)
    (hs : (splitR ps).2 = 0) (A : Option Addr) (c : Nat) {fl : List Qd} (hl : fl.length ≤ 20) (hsub : ∀ q ∈ fl, q ∈ (rs[n]).fl) :
    hitR qs (oneWith rs n A c fl) ps = (fl.any (hitF ps ((qs[j]).d - (qs[j]).b)), 0) := by
  obtain ⟨h, e⟩ := oneWith_at hn A c fl
  rw [hitR_at hj h hok ha (by rw [e]; exact rollI_with hr hl hsub), e]
  exact flawGo_ok hs _
theorem any_take_succ {l : List Qd} {p : Qd → Bool} {k : Nat} (h : k < l.length) : (l.take (k + 1)).any p = ((l.take k).any p || p l[k]) := by
  rw [List.take_succ_eq_append_getElem h, List.any_append]
  simp

end Go.Proofs.Ytinjdlnikhcbfaa
