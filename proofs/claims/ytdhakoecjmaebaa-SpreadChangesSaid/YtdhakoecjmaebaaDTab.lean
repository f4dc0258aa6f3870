/-
  The walk of damage.Hit.
  The walk of damage.Table.
-/
import Derived.Test.YtdhakoecjmaebaaRoll
import Derived.Deep.OwnRows
/- The walk of damage.Hit. -/
namespace Go.Proofs.Ytdhakoecjmaebaa
open Go.RowKit
set_option linter.unusedSimpArgs false
set_option linter.unusedVariables false

/-- Whether one of the flaws hits, and the error. -/
def flawGo (ps : List Pt) (d : Int) : List Qd → Bool × Int
  | [] => (false, 0)
  | f :: l => if (hitsR ps (f.a + d) f.b f.c f.d).2 ≠ 0 then (false, (hitsR ps (f.a + d) f.b f.c f.d).2) else if (hitsR ps (f.a + d) f.b f.c f.d).1 = true then (true, 0) else flawGo ps d l
def rollHit (ps : List Pt) (x : Qd) (r : Rl) : Bool × Int := if rollI r ≠ 0 then (false, rollI r) else flawGo ps (x.d - x.b) r.fl
def gq (qs : List Qd) (j : Nat) : Qd := qs.getD j ⟨0, 0, 0, 0⟩
def gr (rs : List Rl) (j : Nat) : Rl := rs.getD j ⟨⟨#[]⟩, 0, 0, 0, 0, 0, none, 0, []⟩
/-- What damage.Hit returns. -/
def hitR (qs : List Qd) (rs : List Rl) (ps : List Pt) : Bool × Int :=
  if (carrierR qs ps).2 ≠ 0 then (false, (carrierR qs ps).2)
  else if (gq qs (carrierR qs ps).1.toNat).a < 0 ∨ (rs.length : Int) ≤ (gq qs (carrierR qs ps).1.toNat).a then (false, 3)
  else rollHit ps (gq qs (carrierR qs ps).1.toNat) (gr rs (gq qs (carrierR qs ps).1.toNat).a.toNat)

theorem carrierGo_ok {lo hi : Int} : ∀ {l : List Qd} {k : Nat}, (carrierGo lo hi l k).2 = 0 → ∃ j, (carrierGo lo hi l k).1 = ((k + j : Nat) : Int) ∧ ∃ h : j < l.length, carriesB l[j] lo hi = true := by
  intro l
  induction l with
  | nil => intro k h; cases h
  | cons p l ih =>
    intro k h
    rw [carrierGo] at h ⊢
    by_cases hc : carriesB p lo hi = true
    · rw [if_pos hc]
      exact ⟨0, rfl, by simp, hc⟩
    · rw [if_neg hc] at h ⊢
      obtain ⟨j, e, hj, hp⟩ := ih h
      exact ⟨j + 1, by rw [e]; congr 1; omega, by simp; omega, hp⟩
theorem carrier_ok {qs : List Qd} {ps : List Pt} (h : (carrierR qs ps).2 = 0) : checkI ps = 0 ∧ ∃ j : Nat, (carrierR qs ps).1 = (j : Int) ∧ ∃ hj : j < qs.length, carriesB qs[j] (loOf ps).x (hiOf ps).x = true := by
  unfold carrierR at h ⊢
  by_cases hc : checkI ps = 0
  · rw [if_pos hc] at h ⊢
    obtain ⟨j, e, hj, hp⟩ := carrierGo_ok h
    exact ⟨hc, j, by rw [e]; simp, hj, hp⟩
  · rw [if_neg hc] at h
    exact absurd h hc
theorem carries_bd {q : Qd} {lo hi : Int} (h : carriesB q lo hi = true) : (0 ≤ q.d ∧ q.d ≤ 1048576) ∧ (0 ≤ q.b ∧ q.b ≤ 1048576) ∧ (0 ≤ q.c ∧ q.c ≤ 1048576) ∧ q.d ≤ lo ∧ hi ≤ q.d + q.c - q.b := by
  unfold carriesB at h
  simp only [Bool.and_eq_true, decide_eq_true_eq] at h
  exact ⟨coord_bd h.1, coord_bd h.2.1, coord_bd h.2.2.1, h.2.2.2.1, h.2.2.2.2⟩
theorem flaw_err {ps : List Pt} {d : Int} {f : Qd} {l : List Qd} (h : (hitsR ps (f.a + d) f.b f.c f.d).2 ≠ 0) : flawGo ps d (f :: l) = (false, (hitsR ps (f.a + d) f.b f.c f.d).2) := by rw [flawGo, if_pos h]
theorem flaw_hit {ps : List Pt} {d : Int} {f : Qd} {l : List Qd} (h : (hitsR ps (f.a + d) f.b f.c f.d).2 = 0) (h1 : (hitsR ps (f.a + d) f.b f.c f.d).1 = true) : flawGo ps d (f :: l) = (true, 0) := by rw [flawGo, if_neg (by simpa using h), if_pos h1]
theorem flaw_miss {ps : List Pt} {d : Int} {f : Qd} {l : List Qd} (h : (hitsR ps (f.a + d) f.b f.c f.d).2 = 0) (h1 : (hitsR ps (f.a + d) f.b f.c f.d).1 = false) : flawGo ps d (f :: l) = flawGo ps d l := by rw [flawGo, if_neg (by simpa using h), if_neg (by simp [h1])]

section
variable (A B C : Option Addr) (c cb cc : Nat) (lot : Int) (qs : List Qd) (rs : List Rl) (ps : List Pt) (w : World)

end

end Go.Proofs.Ytdhakoecjmaebaa

/- The walk of damage.Table. -/
namespace Go.Proofs.Ytdhakoecjmaebaa
open Go.RowKit
set_option linter.unusedSimpArgs false
set_option linter.unusedVariables false

def rowErr (qs : List Qd) (rs : List Rl) : List (List Pt) → Int
  | [] => 0
  | p :: l => if (hitR qs rs p).2 ≠ 0 then (hitR qs rs p).2 else rowErr qs rs l
def tabErr (rs : List Rl) (polys : List (List Pt)) : List Py → Int
  | [] => 0
  | y :: l => if rowErr y.parts rs polys ≠ 0 then rowErr y.parts rs polys else tabErr rs polys l
def tabE (rs : List Rl) (polys : List (List Pt)) (ys : List Py) : Int := if 40 < ys.length ∨ 60 < polys.length then 5 else tabErr rs polys ys
def tabRows (rs : List Rl) (polys : List (List Pt)) (ys : List Py) : List (List Bool) := ys.map fun y => polys.map fun q => (hitR y.parts rs q).1

theorem row_bad {qs : List Qd} {rs : List Rl} {p : List Pt} {l : List (List Pt)} (h : (hitR qs rs p).2 ≠ 0) : rowErr qs rs (p :: l) = (hitR qs rs p).2 := by rw [rowErr, if_pos h]
theorem row_good {qs : List Qd} {rs : List Rl} {p : List Pt} {l : List (List Pt)} (h : (hitR qs rs p).2 = 0) : rowErr qs rs (p :: l) = rowErr qs rs l := by rw [rowErr, if_neg (by simpa using h)]
theorem tab_bad {rs : List Rl} {polys : List (List Pt)} {y : Py} {l : List Py} (h : rowErr y.parts rs polys ≠ 0) : tabErr rs polys (y :: l) = rowErr y.parts rs polys := by rw [tabErr, if_pos h]
theorem tab_good {rs : List Rl} {polys : List (List Pt)} {y : Py} {l : List Py} (h : rowErr y.parts rs polys = 0) : tabErr rs polys (y :: l) = tabErr rs polys l := by rw [tabErr, if_neg (by simpa using h)]

/-- A slice of bools. -/
def BoolsV (w : World) (v : Value) (bs : List Bool) : Prop :=
  ∃ A c, v = .slice A bs.length c ∧ bs.length ≤ c ∧ (0 < bs.length → ∃ b o, A = some ⟨b, o, none⟩ ∧ ∀ i x, bs[i]? = some x → w.cell? ⟨b, o + i, none⟩ = some (.bool x))
theorem BoolsV.later {w w' : World} {v : Value} {bs : List Bool} (h : BoolsV w v bs) (k : Later w w') : BoolsV w' v bs :=
  let ⟨A, c, e, h1, h2⟩ := h; ⟨A, c, e, h1, fun hn => let ⟨b, o, e', h3⟩ := h2 hn; ⟨b, o, e', fun i x hx => k.cell (h3 i x hx)⟩⟩
def Tab (w : World) (A : Option Addr) (rows : List (List Bool)) : Prop :=
  0 < rows.length → ∃ b o, A = some ⟨b, o, none⟩ ∧ ∀ i r, rows[i]? = some r → ∃ v, w.cell? ⟨b, o + i, none⟩ = some v ∧ BoolsV w v r
theorem Tab.later {w w' : World} {A : Option Addr} {rows : List (List Bool)} (h : Tab w A rows) (k : Later w w') : Tab w' A rows :=
  fun hn => let ⟨b, o, e, h1⟩ := h hn; ⟨b, o, e, fun i r hr => let ⟨v, hv, hb⟩ := h1 i r hr; ⟨v, k.cell hv, hb.later k⟩⟩
def TabPost (e0 : Int) (rows : List (List Bool)) (w : World) (e : Ending) (w' : World) : Prop :=
  (e0 = 0 ∧ ∃ A c, e = .returned (.tuple #[.slice A rows.length c, .int .i64 0]) ∧ rows.length ≤ c ∧ Tab w' A rows ∧ Later w w') ∨
  (e0 ≠ 0 ∧ e = .returned (.tuple #[.slice none 0 0, .int .i64 e0]) ∧ Later w w')

theorem rowIs_later {w w' : World} {b : Nat} {t : TypeId} {n : Nat} {f : Nat → Value} (h : w.rowIs b t n f) (k : Later w w') : w'.rowIs b t n f := h.of_block (k.block b h.lt)

theorem info_bool : (Try.prog.info? 4).map (fun i => (i.zero, i.size, i.bytes)) = some (some (.bool false), 1, 1) := by kernel_rfl

def PtsOk (l : List (List Pt)) : Prop := ∀ p ∈ l, p.length ≤ 1099511627776
theorem Polys.at_ {w : World} {A : Option Addr} {l : List (List Pt)} (h : Polys w A l) {k : Nat} (hk : k < l.length) :
    ∃ b o A' c', A = some ⟨b, o, none⟩ ∧ w.cell? ⟨b, o + k, none⟩ = some (.slice A' (l[k]).length c') ∧ (l[k]).length ≤ c' ∧ Pts w A' (l[k]) := by
  obtain ⟨b, o, e, hc⟩ := h (by omega)
  obtain ⟨v, hv, A', c', rfl, h1, h2, h3⟩ := hc k _ (List.getElem?_eq_getElem hk)
  exact ⟨b, o, A', c', e, hv, h1, h3⟩

end Go.Proofs.Ytdhakoecjmaebaa
