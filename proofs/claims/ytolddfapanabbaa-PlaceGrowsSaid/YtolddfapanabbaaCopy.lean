/-
  The builtin copy at elements of several cells; make of points; slices of slices of points.
-/
import Derived.Test.YtolddfapanabbaaNormB
import Derived.Laws.CopyOwn
import Derived.Laws.MakeOwn
namespace Go.Proofs.Ytolddfapanabbaa
open Go.RowKit
set_option linter.unusedSimpArgs false
set_option linter.unusedVariables false

theorem run_copy_rowN {P : Program} (w : World) (dT sT ty elem : TypeId) (size : Nat) (g o dLen dCap : Nat) (a : Addr) (sLen sCap : Nat) (cur : Array Value) (t : TypeId) (cs : List Value)
    (hu : P.underlying dT = some (.slice elem)) (hs : (P.info? elem).map (·.size) = some size)
    (hg : w.heap[g]? = some (.cells cur t (0, 0))) (hn : cs.length = Nat.min sLen dLen * size)
    (hsrc : ∀ j v, cs[j]? = some v → w.cell? (a.add j) = some v) (hfit : o + cs.length ≤ cur.size) (h1 : ∀ v ∈ cs, v.oneCell' = true) :
    (Builtin.copy_ #[dT, sT] ty #[.slice (some ⟨g, o, none⟩) dLen dCap, .slice (some a) sLen sCap]).run P w =
      .ok (goInt (Nat.min sLen dLen)) (w.setRow g (cur.toList.take o ++ cs ++ cur.toList.drop (o + cs.length)).toArray) := by
  have hl := run_loadCells_list (P := P) w a cs hsrc
  have hst := run_storeCells_at P g o t cs 0 cur w hg (by simpa using hfit) h1
  cases hq : P.info? elem with
  | none => simp [hq] at hs
  | some i =>
    have hi : i.size = size := by simpa [hq] using hs
    simp [Builtin.copy_, run_underlying hu, Builtin.lenOf, Builtin.firstCells, sizeOf, typeInfo, hq, hi, ← hn, hl, hst]

theorem wp_copy_run {P : Program} (w : World) {o : Oper} {a : Act} {K : Act → World → Prop} {Q : Exit → Act → World → Prop} (s x : Operand) (t tn : TypeId)
    (ho : o.op = .call { callee := .builtin .copy, args := #[s, x], argTypes := #[t, tn] }) (vs vx : Value) (hs : a.eval s = vs) (hx : a.eval x = vx)
    (v' : Value) (w' : World) (hr : (Builtin.copy_ #[t, tn] o.type #[vs, vx]).run P w = .ok v' w') (h : K (a.put o.dst v') w') : o.wp P a w K Q := by
  unfold Oper.wp execOp
  simp only [ho, resolve, invoke, builtin, Sem.run_bind, Sem.run_pure, Result.andThen_ok, List.map_toArray, List.map_cons, List.map_nil, hs, hx, hr]
  exact h
theorem wpList_copy_run {P : Program} (w : World) {ops : Array Oper} {rest : List Oper} {o : Oper} {a : Act} {Q : Exit → Act → World → Prop} (hgd : o.guard = none) (s x : Operand) (t tn : TypeId)
    (ho : o.op = .call { callee := .builtin .copy, args := #[s, x], argTypes := #[t, tn] }) (vs vx : Value) (hs : a.eval s = vs) (hx : a.eval x = vx)
    (v' : Value) (w' : World) (hr : (Builtin.copy_ #[t, tn] o.type #[vs, vx]).run P w = .ok v' w') (h : wpList P ops Q rest (a.put o.dst v') w') : wpList P ops Q (o :: rest) a w :=
  wpList_plain hgd fun _ hK => wp_copy_run w s x t tn ho vs vx hs hx v' w' hr (hK _ _ h)
theorem step_copy_run {P : Program} (w : World) {ops : Array Oper} {o : Oper} {a : Act} {K : Act → World → Prop} {Q : Exit → Act → World → Prop} {E : Prop} (hgd : o.guard = none) (s x : Operand) (t tn : TypeId)
    (ho : o.op = .call { callee := .builtin .copy, args := #[s, x], argTypes := #[t, tn] }) (vs vx : Value) (hs : a.eval s = vs) (hx : a.eval x = vx)
    (v' : Value) (w' : World) (hr : (Builtin.copy_ #[t, tn] o.type #[vs, vx]).run P w = .ok v' w') (h : K (a.put o.dst v') w') :
    if Region.wanted o (yielded ops a.tmps) = true then Oper.wp P o a w K Q else E := by
  have hw : Region.wanted o (yielded ops a.tmps) = true := by simp [Region.wanted, hgd]
  rw [if_pos hw]
  exact wp_copy_run w s x t tn ho vs vx hs hx v' w' hr h

theorem Later.setRow {a w : World} (h : Later a w) {g : Nat} (hg : a.heap.size ≤ g) (cs : Array Value) : Later a (w.setRow g cs) := below_setRow h hg cs
theorem cell_setRow {w : World} {g b o : Nat} {cs : Array Value} (hne : b ≠ g) : (w.setRow g cs).cell? ⟨b, o, none⟩ = w.cell? ⟨b, o, none⟩ := World.cell?_of_block (setRow_other w g b cs hne)

/-- v is a slice that reads as ps. -/
def PolyV (w : World) (v : Value) (ps : List Pt) : Prop := ∃ A c, v = .slice A ps.length c ∧ ps.length ≤ c ∧ c ≤ maxLen ∧ Pts w A ps
theorem PolyV.later {w w' : World} {v : Value} {ps : List Pt} (h : PolyV w v ps) (k : Later w w') : PolyV w' v ps :=
  let ⟨A, c, h1, h2, h3, h4⟩ := h; ⟨A, c, h1, h2, h3, h4.later k⟩
/-- The values vs are slices that read as pss. -/
def PolyVs (w : World) : List Value → List (List Pt) → Prop
  | [], [] => True
  | v :: vs, ps :: pss => PolyV w v ps ∧ PolyVs w vs pss
  | _, _ => False
theorem PolyVs.later {w w' : World} {vs : List Value} {pss : List (List Pt)} (h : PolyVs w vs pss) (k : Later w w') : PolyVs w' vs pss := by
  induction vs generalizing pss with
  | nil => cases pss with
    | nil => trivial
    | cons => exact h.elim
  | cons v vs ih => cases pss with
    | nil => exact h.elim
    | cons ps pss => exact ⟨h.1.later k, ih h.2⟩
theorem PolyVs.length {w : World} {vs : List Value} {pss : List (List Pt)} (h : PolyVs w vs pss) : vs.length = pss.length := by
  induction vs generalizing pss with
  | nil => cases pss with
    | nil => rfl
    | cons => exact h.elim
  | cons v vs ih => cases pss with
    | nil => exact h.elim
    | cons ps pss => simp [ih h.2]
theorem PolyVs.snoc {w : World} {vs : List Value} {pss : List (List Pt)} {v : Value} {ps : List Pt} (h : PolyVs w vs pss) (k : PolyV w v ps) : PolyVs w (vs ++ [v]) (pss ++ [ps]) := by
  induction vs generalizing pss with
  | nil => cases pss with
    | nil => exact ⟨k, trivial⟩
    | cons => exact h.elim
  | cons u vs ih => cases pss with
    | nil => exact h.elim
    | cons ps pss => exact ⟨h.1, ih h.2⟩
theorem PolyVs.get {w : World} {vs : List Value} {pss : List (List Pt)} (h : PolyVs w vs pss) {i : Nat} {ps : List Pt} (hi : pss[i]? = some ps) : ∃ v, vs[i]? = some v ∧ PolyV w v ps := by
  induction vs generalizing pss i with
  | nil => cases pss with
    | nil => simp at hi
    | cons => exact h.elim
  | cons u vs ih => cases pss with
    | nil => exact h.elim
    | cons qs pss =>
      cases i with
      | zero => simp at hi; subst hi; exact ⟨u, rfl, h.1⟩
      | succ i => exact ih h.2 (i := i) (by simpa using hi)
/-- A slice of that address, as long as pss, reads as pss. -/
def Polys (w : World) (A : Option Addr) (pss : List (List Pt)) : Prop :=
  0 < pss.length → ∃ b o, A = some ⟨b, o, none⟩ ∧ ∀ i ps, pss[i]? = some ps → ∃ v, w.cell? ⟨b, o + i, none⟩ = some v ∧ PolyV w v ps
theorem Polys.later {w w' : World} {A : Option Addr} {pss : List (List Pt)} (h : Polys w A pss) (k : Later w w') : Polys w' A pss := fun hn => by
  obtain ⟨b, o, e, hc⟩ := h hn
  refine ⟨b, o, e, fun i ps hi => ?_⟩
  obtain ⟨v, hv, hp⟩ := hc i ps hi
  exact ⟨v, k.cell hv, hp.later k⟩

end Go.Proofs.Ytolddfapanabbaa
