/-
  A valid placement that is moved by multiples of the repeat is valid on a bed that is larger by as much (small numbers).
-/
import Derived.Test.YtinjdlnikhcbfaaPartP
import Derived.Test.YtinjdlnikhcbfaaMoveP
namespace Go.Proofs.Ytinjdlnikhcbfaa
open Go.RowKit
set_option linter.unusedSimpArgs false
set_option linter.unusedVariables false

def mvPu (d : Pt) (p : Pu) : Pu := ⟨p.sh, p.fl, p.q, p.x + d.x, p.y + d.y⟩
theorem poly_zero {l : List Sh} {p : Pu} (h : (polyR l p).2 = 0) : 0 ≤ p.sh ∧ p.sh < (l.length : Int) ∧ outsideB p.x p.y = false ∧ checkI (gs l p.sh.toNat).ps = 0 ∧ checkI (placedPs p (gs l p.sh.toNat).ps) = 0 ∧ (polyR l p).1 = placedPs p (gs l p.sh.toNat).ps := by
  unfold polyR at h ⊢
  split at h
  · cases h
  · rename_i h1
    rw [if_neg h1]
    split at h
    · rename_i h2; exact absurd h h2
    · rename_i h2
      rw [if_neg h2]
      split at h
      · rename_i h3; exact absurd h h3
      · rename_i h3
        rw [if_neg h3]
        refine ⟨by omega, by omega, ?_, by simpa using h2, by simpa using h3, rfl⟩
        rcases ho : outsideB p.x p.y with _ | _
        · rfl
        · exact absurd (.inr (.inr ho)) h1
theorem poly_of {l : List Sh} {p : Pu} (h1 : 0 ≤ p.sh) (h2 : p.sh < (l.length : Int)) (h3 : outsideB p.x p.y = false) (h4 : checkI (gs l p.sh.toNat).ps = 0) (h5 : checkI (placedPs p (gs l p.sh.toNat).ps) = 0) : polyR l p = (placedPs p (gs l p.sh.toNat).ps, 0) := by
  unfold polyR
  rw [if_neg (by rw [h3]; simp; omega), if_neg (by simpa using h4), if_neg (by simpa using h5)]
theorem out_false {x y : Int} (h : -1048576 ≤ x ∧ x ≤ 1048576 ∧ -1048576 ≤ y ∧ y ≤ 1048576) : outsideB x y = false := by
  simp [outsideB]; omega
theorem placed_mv (d : Pt) (p : Pu) (s : List Pt) : placedPs (mvPu d p) s = (placedPs p s).map (mvP d) := by
  unfold placedPs mvPu
  rw [List.map_map]
  refine List.map_congr_left fun q _ => ?_
  unfold mvP
  simp only [Function.comp, Pt.mk.injEq]
  omega
theorem self_zero {b : Bd} {l : List Sh} {p : Pu} : selfR b l p = 0 ↔ (allowB (gs l p.sh.toNat).gr p.fl p.q = true ∧ onGo b.l b.w (polyR l p).1 = true ∧ ((gs l p.sh.toNat).mt = true → matchB b.rx b.ry (gs l p.sh.toNat).ax (gs l p.sh.toNat).ay p = true)) := by
  unfold selfR
  rcases allowB (gs l p.sh.toNat).gr p.fl p.q with _ | _
  · simp
  · rcases onGo b.l b.w (polyR l p).1 with _ | _
    · simp
    · rcases (gs l p.sh.toNat).mt with _ | _
      · simp
      · rcases matchB b.rx b.ry (gs l p.sh.toNat).ax (gs l p.sh.toNat).ay p with _ | _ <;> simp
theorem tmod_shift (n p k : Int) (hp : 0 < p) : (n.tmod p + p).tmod p = ((n + p * k).tmod p + p).tmod p := by
  have h1 : ∀ m : Int, (m.tmod p + p).tmod p = m % p := by
    intro m
    have := tmod_bd (n := m) hp
    rw [Int.tmod_eq_emod_of_nonneg (by omega), Int.add_emod_right, Int.tmod_def, Int.sub_mul_emod_self_left]
  rw [h1, h1, Int.add_mul_emod_self_left]
theorem mod_shift (n p d : Int) (hp : 0 ≤ p) (hd : p = 0 ∨ ∃ k, d = p * k) : modI (n + d) p = modI n p := by
  unfold modI
  split
  · rfl
  · rename_i h0
    rcases hd with h | ⟨k, rfl⟩
    · exact absurd h h0
    · exact (tmod_shift n p k (by omega)).symm
theorem lim_id {n : Int} (h : -1048576 ≤ n ∧ n ≤ 1048576) : limI n = n := by unfold limI; omega
theorem ph_mv {rx ry : Int} {d p : Pt} (h1 : -1000000 ≤ p.x ∧ p.x ≤ 1000000 ∧ -1000000 ≤ p.y ∧ p.y ≤ 1000000) (h2 : 0 ≤ d.x ∧ d.x ≤ 1000 ∧ 0 ≤ d.y ∧ d.y ≤ 1000)
    (hx : periodI rx = 0 ∨ ∃ k, d.x = periodI rx * k) (hy : periodI ry = 0 ∨ ∃ k, d.y = periodI ry * k) : phP rx ry (mvP d p) = phP rx ry p := by
  unfold phP mvP
  simp only []
  rw [lim_id (n := p.x + d.x) (by omega), lim_id (n := p.y + d.y) (by omega), lim_id (n := p.x) (by omega), lim_id (n := p.y) (by omega), mod_shift _ _ _ (period_bd rx).1 hx, mod_shift _ _ _ (period_bd ry).1 hy]

/-- What PlaceMoves asks of a put. -/
def MvOk (l : List Sh) (p : Pu) : Prop :=
  ((gs l p.sh.toNat).mt = true → -1000 ≤ (gs l p.sh.toNat).ax ∧ (gs l p.sh.toNat).ax ≤ 1000 ∧ -1000 ≤ (gs l p.sh.toNat).ay ∧ (gs l p.sh.toNat).ay ≤ 1000) ∧ -100000 ≤ p.x ∧ p.x ≤ 100000 ∧ -100000 ≤ p.y ∧ p.y ≤ 100000

section
variable {b : Bd} {l : List Sh} {d : Pt} (hbl : b.l ≤ 1000) (hbw : b.w ≤ 1000) (hd : 0 ≤ d.x ∧ d.x ≤ 1000 ∧ 0 ≤ d.y ∧ d.y ≤ 1000)
  (hx : periodI b.rx = 0 ∨ ∃ k, d.x = periodI b.rx * k) (hy : periodI b.ry = 0 ∨ ∃ k, d.y = periodI b.ry * k)
include hbl hbw hd in
theorem poly_mv {p : Pu} (h : Sound b l p) (hm : MvOk l p) : polyR l (mvPu d p) = ((polyR l p).1.map (mvP d), 0) ∧ checkI ((polyR l p).1.map (mvP d)) = 0 ∧ checkI (polyR l p).1 = 0 := by
  obtain ⟨hb, hp, hs⟩ := h
  obtain ⟨h1, h2, h3, h4, h5, h6⟩ := poly_zero hp
  obtain ⟨_, hon, _⟩ := self_zero.1 hs
  rw [h6] at hon ⊢
  have hck : checkI ((placedPs p (gs l p.sh.toNat).ps).map (mvP d)) = 0 := by
    refine checkT d h5 fun q hq => ?_
    have := (onGo_iff.1 hon) q hq
    exact out_false (by omega)
  refine ⟨?_, hck, h5⟩
  have hm' := hm.2
  have := poly_of (l := l) (p := mvPu d p) h1 h2 (out_false (by simp only [mvPu]; omega)) h4 (by rw [placed_mv]; exact hck)
  rw [this, placed_mv]
  rfl
include hbl hbw hd hx hy in
theorem sound_mv {p : Pu} (h : Sound b l p) (hm : MvOk l p) : Sound ⟨b.l + d.x, b.w + d.y, b.rx, b.ry⟩ l (mvPu d p) := by
  obtain ⟨hpm, _, _⟩ := poly_mv hbl hbw hd h hm
  obtain ⟨hb, hp, hs⟩ := h
  obtain ⟨ha, hon, hmt⟩ := self_zero.1 hs
  refine ⟨by simp only []; omega, by rw [hpm], self_zero.2 ⟨ha, ?_, fun hmt' => ?_⟩⟩
  · rw [hpm, onGo_iff]
    intro q hq
    obtain ⟨r, hr, rfl⟩ := List.mem_map.1 hq
    have := (onGo_iff.1 hon) r hr
    simp only [mvP]
    omega
  · have h0 := hmt hmt'
    have hA := hm.1 hmt'
    have hm' := hm.2
    change matchB b.rx b.ry (gs l p.sh.toNat).ax (gs l p.sh.toNat).ay (mvPu d p) = true
    generalize (gs l p.sh.toNat).ax = ax at *
    generalize (gs l p.sh.toNat).ay = ay at *
    have hn : NearP 1000 (applyP p.fl p.q ⟨ax, ay⟩) := apply_near (by unfold NearP; simp only []; omega)
    have hi : imageP ax ay (mvPu d p) = mvP d (imageP ax ay p) := by
      unfold imageP mvPu mvP
      simp only [Pt.mk.injEq]
      omega
    have hb1 : -1000000 ≤ (imageP ax ay p).x ∧ (imageP ax ay p).x ≤ 1000000 ∧ -1000000 ≤ (imageP ax ay p).y ∧ (imageP ax ay p).y ≤ 1000000 := by
      unfold NearP at hn
      unfold imageP mvP
      simp only []
      omega
    unfold matchB at h0 ⊢
    rw [hi]
    rw [out_false (by omega)] at h0 ⊢
    rw [out_false (x := (mvP d (imageP ax ay p)).x) (by simp only [mvP]; omega)]
    unfold sameP at h0 ⊢
    rw [ph_mv hb1 hd hx hy]
    simp only [Bool.false_eq_true, if_false, Bool.and_eq_true] at h0 ⊢
    exact ⟨rfl, h0.2⟩
include hbl hbw hd hx hy in
theorem pcheck_mv {puts : List Pu} (hn : puts.length ≤ 60) (h : pcheckR b l puts = 0) (hm : ∀ p ∈ puts, MvOk l p) : pcheckR ⟨b.l + d.x, b.w + d.y, b.rx, b.ry⟩ l (puts.map (mvPu d)) = 0 := by
  rw [pcheck_pairs hn] at h
  rw [pcheck_pairs (by simpa using hn)]
  obtain ⟨h1, h2⟩ := h
  constructor
  · intro p hp
    obtain ⟨q, hq, rfl⟩ := List.mem_map.1 hp
    exact sound_mv hbl hbw hd hx hy (h1 q hq) (hm q hq)
  · rw [List.pairwise_map]
    refine h2.imp_of_mem fun {o p} ho hp hap => ?_
    obtain ⟨e1, c1, c1'⟩ := poly_mv hbl hbw hd (h1 o ho) (hm o ho)
    obtain ⟨e2, c2, c2'⟩ := poly_mv hbl hbw hd (h1 p hp) (hm p hp)
    rw [e1, e2]
    unfold Apart at hap ⊢
    rw [overT d c1' c2' c1 c2]
    exact hap
end

end Go.Proofs.Ytinjdlnikhcbfaa
