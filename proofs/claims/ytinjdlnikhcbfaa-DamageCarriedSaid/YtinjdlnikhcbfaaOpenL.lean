/-
  A lay as an argument, opened; garmentlaw39.few.
-/
import Derived.Test.YtinjdlnikhcbfaaOpen39
import Derived.Test.YtinjdlnikhcbfaaEx39A
namespace Go.Proofs.Ytinjdlnikhcbfaa
open Go.RowKit Go.WideShapes Go.ChangeShapes Go.ChangeAt
set_option linter.unusedSimpArgs false
set_option linter.unusedVariables false

/-- A lay: the marker's numbers, its two lists as slices, the plies. -/
structure Ly where
  l : Int
  w : Int
  rx : Int
  ry : Int
  s1 : Option Addr
  n1 : Nat
  c1 : Nat
  s2 : Option Addr
  n2 : Nat
  c2 : Nat
  pa : Option Addr
  pc : Nat
  ys : List Py
def Ly.cells (y : Ly) : List Value := [.int .i64 y.l, .int .i64 y.w, .int .i64 y.rx, .int .i64 y.ry, .slice y.s1 y.n1 y.c1, .slice y.s2 y.n2 y.c2, .slice y.pa y.ys.length y.pc]
def Ly.agg (y : Ly) : Value := .agg #[.int .i64 y.l, .int .i64 y.w, .int .i64 y.rx, .int .i64 y.ry, .slice y.s1 y.n1 y.c1, .slice y.s2 y.n2 y.c2, .slice y.pa y.ys.length y.pc]
def LyOk (w : World) (y : Ly) : Prop := Plys w y.pa y.ys ∧ y.ys.length ≤ y.pc ∧ y.pc ≤ maxLen ∧ I64 y.l ∧ I64 y.w ∧ I64 y.rx ∧ I64 y.ry
theorem LyOk.later {w w' : World} {y : Ly} (h : LyOk w y) (k : Later w w') : LyOk w' y := ⟨h.1.later k, h.2⟩

section
variable {H : Type} {enc : TypeId × Value → H} {w : World} {base : Nat} {spare : Nat → Bool} {held : Bool} {n : Nat} {cs : List Value} {x : DataW H × List MemPlace}
theorem slice_of_trod {t e : TypeId} {sz : Nat} (ht : Try.prog.underlying t = some (.slice e)) (hc : Try.prog.cellsOf e = sz) (h0 : 0 < sz) (h : DataW.trod enc Try.prog w base spare held n t cs = some x) : ∃ A n c, cs = [.slice A n c] := by
  obtain ⟨v, l, rfl, hs⟩ := open_rows ht (sz := sz) (R := fun _ (_ : Unit) => True) hc h0 (fun n cs x h => ⟨(), trivial⟩) h
  obtain ⟨A, c, rfl, _⟩ := hs
  exact ⟨A, l.length, c, rfl⟩
theorem repeat2_of_trod (h : DataW.trod enc Try.prog w base spare held n 23 cs = some x) : ∃ a b, cs = [.int .i64 a, .int .i64 b] ∧ I64 a ∧ I64 b := by
  obtain ⟨hl, hf⟩ := open_field Try.underlying23 h
  have hF : Flds enc w base spare held _ cs := hf
  rw [show Try.prog.cellsOf 23 = 2 by kernel_rfl] at hl
  obtain ⟨a, ha, ia⟩ := hF.int 0 0 3 rfl rfl rfl cells_int Try.underlying3
  obtain ⟨b, hb, ib⟩ := hF.int 1 1 3 rfl rfl rfl cells_int Try.underlying3
  exact ⟨a, b, list2 hl ha hb, ia, ib⟩
theorem list6 {l : List Value} {a b c d e f : Value} (h : l.length = 6) (h0 : l[0]? = some a) (h1 : l[1]? = some b) (h2 : l[2]? = some c) (h3 : l[3]? = some d) (h4 : l[4]? = some e) (h5 : l[5]? = some f) : l = [a, b, c, d, e, f] := by
  match l, h with
  | [_, _, _, _, _, _], _ => cases h0; cases h1; cases h2; cases h3; cases h4; cases h5; rfl
theorem marker_of_trod (h : DataW.trod enc Try.prog w base spare held n 27 cs = some x) :
    ∃ l w rx ry s1 n1 c1 s2 n2 c2, cs = [.int .i64 l, .int .i64 w, .int .i64 rx, .int .i64 ry, .slice s1 n1 c1, .slice s2 n2 c2] ∧ I64 l ∧ I64 w ∧ I64 rx ∧ I64 ry := by
  obtain ⟨hl, hf⟩ := open_field Try.underlying27 h
  have hF : Flds enc w base spare held _ cs := hf
  rw [show Try.prog.cellsOf 27 = 6 by kernel_rfl] at hl
  obtain ⟨a, ha, ia⟩ := hF.int 0 0 3 rfl rfl rfl cells_int Try.underlying3
  obtain ⟨b, hb, ib⟩ := hF.int 1 1 3 rfl rfl rfl cells_int Try.underlying3
  obtain ⟨m, y, hm⟩ := hF.sub 2 2 2 23 rfl rfl rfl (by kernel_rfl)
  obtain ⟨rx, ry, er, ix, iy⟩ := repeat2_of_trod hm
  obtain ⟨m1, y1, hm1⟩ := hF.sub 3 4 1 24 rfl rfl rfl (by kernel_rfl)
  obtain ⟨s1, n1, c1, e1⟩ := slice_of_trod Try.underlying24 (sz := 1) (by kernel_rfl) (by omega) hm1
  obtain ⟨m2, y2, hm2⟩ := hF.sub 4 5 1 25 rfl rfl rfl (by kernel_rfl)
  obtain ⟨s2, n2, c2, e2⟩ := slice_of_trod Try.underlying25 (sz := Try.prog.cellsOf 113) rfl (of_decide_eq_true (by kernel_rfl)) hm2
  exact ⟨a, b, rx, ry, s1, n1, c1, s2, n2, c2, list6 hl ha hb (takeK (j := 0) er (by omega) rfl) (takeK (j := 1) er (by omega) rfl) (take1 e1) (take1 e2), ia, ib, ix, iy⟩
theorem lay_of_trod (h : DataW.trod enc Try.prog w base spare held n 36 cs = some x) : ∃ y : Ly, cs = y.cells ∧ LyOk w y := by
  obtain ⟨hl, hf⟩ := open_field Try.underlying36 h
  have hF : Flds enc w base spare held _ cs := hf
  rw [show Try.prog.cellsOf 36 = 7 by kernel_rfl] at hl
  obtain ⟨m, y, hm⟩ := hF.sub 0 0 6 27 rfl rfl rfl (by kernel_rfl)
  obtain ⟨l, w', rx, ry, s1, n1, c1, s2, n2, c2, em, i1, i2, i3, i4⟩ := marker_of_trod hm
  obtain ⟨m', y', hm'⟩ := hF.sub 1 6 1 34 rfl rfl rfl (by kernel_rfl)
  obtain ⟨A, c, ys, e, h1, h2, h3⟩ := plies_of_trod hm'
  exact ⟨⟨l, w', rx, ry, s1, n1, c1, s2, n2, c2, A, c, ys⟩, list7 hl (takeK (j := 0) em (by omega) rfl) (takeK (j := 1) em (by omega) rfl) (takeK (j := 2) em (by omega) rfl) (takeK (j := 3) em (by omega) rfl) (takeK (j := 4) em (by omega) rfl) (takeK (j := 5) em (by omega) rfl) (take1 e), h3, h1, h2, i1, i2, i3, i4⟩
end

set_option maxHeartbeats 2000000 in
theorem law39_few (y : Ly) (C Q : Option Addr) (cc qc : Nat) (rs : List Rl) (ps : List (List Pt)) (w : World) (hy : LyOk w y) (hr : Rolls w C rs) (hp : Polys w Q ps) :
    Calls Try.prog 29 #[y.agg, .slice C rs.length cc, .slice Q ps.length qc] w (Ret (.bool (fewB y.ys rs ps)) w) := by
  have HF := Lib.hid (fun W (hW : Later w W) => ref39_Few y.pa C Q y.pc cc qc y.ys rs ps W (hy.later hW).1 (hr.later hW) (hp.later hW))
  unfold Ly.agg
  generalize fewB y.ys rs ps = fb at *
  obtain ⟨l0, l1, l2, l3, s1, n1, c1, s2, n2, c2, pa, pc, ys⟩ := y
  simp only [] at HF
  go_enter Try.func29, Try.ntmps29
  go_wp2_with (first | (go_at_call 67; (with_reducible refine (HF.out _ (by repeat' (with_reducible first | exact Later.refl _ | assumption | refine Later.drew ?_ | refine Later.drewN ?_ _ | refine Later.alloc ?_ _ | refine Later.put ?_ (by omega) _ | refine Later.trans ?_ (by assumption)))).mono ?_); rintro e w1 ⟨rfl, hb1⟩))
  go_ret
  exact ⟨rfl, (by repeat' (with_reducible first | exact Later.refl _ | assumption | refine Later.drew ?_ | refine Later.drewN ?_ _ | refine Later.alloc ?_ _ | refine Later.put ?_ (by omega) _ | refine Later.trans ?_ (by assumption)))⟩

theorem sameRow_refl (a : List Bool) (n k : Nat) : sameRow a a n k = true := by
  induction n generalizing k with
  | zero => rfl
  | succ n ih => rw [sameRow]; simp [ih]
theorem sameGo_refl (a : List (List Bool)) (n k : Nat) : sameGo a a n k = true := by
  induction n generalizing k with
  | zero => rfl
  | succ n ih => rw [sameGo]; simp [ih, sameRow_refl]
theorem sameB_refl (a : List (List Bool)) : sameB a a = true := by
  rw [sameB]; simp [sameGo_refl]

end Go.Proofs.Ytinjdlnikhcbfaa
