/-
 The walk of spread.Spread.
-/
import Derived.Test.YtdhakoecjmaebaaGreatZSprG
import Derived.Test.YtdhakoecjmaebaaGreatZSprR
import Derived.Test.YtdhakoecjmaebaaGreatZDTab
import Derived.Test.YtdhakoecjmaebaaGreatZBase
namespace Go.Proofs.YtdhakoecjmaebaaGreat
open Go.RowKit
set_option linter.unusedSimpArgs false
set_option linter.unusedVariables false
theorem OwnR.low {α : Type} {cells : α → List Value} {sz : Nat} {w : World} {base base' : Nat} {E : TypeId} {v : Value} {l : List α} (h : OwnR w base E sz cells v l) (hb : base' ≤ base) : OwnR w base' E sz cells v l := by
 refine ⟨h.1, ?_⟩
 rcases h.2 with ⟨h1, h2⟩ | ⟨g, cap, cur, hv, hbg, r⟩
 ·exact .inl ⟨h1, h2⟩
 ·exact .inr ⟨g, cap, cur, hv, by omega, r⟩
section
variable (len wd : Int) (polys : List (List Pt)) (rs : List Rl) (lots plies : List Int)
end
section
variable {len wd : Int} {polys : List (List Pt)} {rs : List Rl} {lots plies : List Int} {j m : Nat} {left : List Qd} {pre : List Pl}
end
@[go_sem] theorem build_lay0 (w : World) : (Instr.build 70 #[]).run Tryz.prog w = .ok (.agg #[.int .i64 0, .int .i64 0, .int .i64 0, .int .i64 0, .slice none 0 0, .slice none 0 0, .slice none 0 0]) w := run_build w 70 _ _ (by kernel_rfl)
@[go_sem] theorem build_layM (a b c d : Int) (A : Option Addr) (n k : Nat) (B : Option Addr) (m l : Nat) (w : World) : (Instr.build 70 #[(0, .agg #[.int .i64 a, .int .i64 b, .int .i64 c, .int .i64 d, .slice A n k, .slice B m l])]).run Tryz.prog w = .ok (.agg #[.int .i64 a, .int .i64 b, .int .i64 c, .int .i64 d, .slice A n k, .slice B m l, .slice none 0 0]) w := run_build w 70 _ _ (by kernel_rfl)
@[go_sem] theorem build_ply2 (t : Int) (A : Option Addr) (n c : Nat) (w : World) : (Instr.build 95 #[(0, .int .i64 t), (1, .slice A n c)]).run Tryz.prog w = .ok (.agg #[.int .i64 t, .slice A n c]) w := run_build w 95 _ _ (by kernel_rfl)
structure SpM (w : World) (g5 g10 g15 : Nat) (mk : Array Value) (ly : Value → Array Value) (v1 v2 : Value) (sizes : List Int) (places : List Pc) (wr : World) (v : Value) (acc : List Py) : Prop where
 km : Blk wr g5 62 mk
 zr : Blk wr g10 70 #[.int .i64 0, .int .i64 0, .int .i64 0, .int .i64 0, .slice none 0 0, .slice none 0 0, .slice none 0 0]
 ly : Blk wr g15 70 (ly v)
 s1 : OwnR wr g5 3 1 i1 v1 sizes
 s2 : OwnR wr g5 280 7 Pc.cells v2 places
 pl : OwnR wr g5 95 2 Py.cells v acc
 pt : ∀ y ∈ acc, OwnR wr g5 92 4 qd4 (.slice y.pa y.parts.length y.pc) y.parts ∧ (∀ q ∈ y.parts, QdI q) ∧ y.parts.length ≤ 20
 lt : Later w wr
section
variable {w : World} {g5 g10 g15 : Nat} {mk : Array Value} {ly : Value → Array Value} {v1 v2 : Value} {sizes : List Int} {places : List Pc} {wr w' : World} {v : Value} {acc : List Py}
theorem SpM.later (h : SpM w g5 g10 g15 mk ly v1 v2 sizes places wr v acc) (k : Later wr w') : SpM w g5 g10 g15 mk ly v1 v2 sizes places w' v acc :=
 ⟨h.km.later k, h.zr.later k, h.ly.later k, h.s1.later k, h.s2.later k, h.pl.later k, fun y hy => ⟨(h.pt y hy).1.later k, (h.pt y hy).2⟩, h.lt.trans k⟩
end
end Go.Proofs.YtdhakoecjmaebaaGreat
namespace Go.Proofs.YtdhakoecjmaebaaGreat
open Go.RowKit
set_option linter.unusedSimpArgs false
set_option linter.unusedVariables false
def pliesB : List Py → Bool
 | [] => true
 | p :: l => if 6 < p.parts.length then false else pliesB l
theorem plies_no {p : Py} {l : List Py} (h : 6 < p.parts.length) : pliesB (p :: l) = false := by rw [pliesB, if_pos h]
theorem plies_go {p : Py} {l : List Py} (h : ¬ 6 < p.parts.length) : pliesB (p :: l) = pliesB l := by rw [pliesB, if_neg h]
theorem pliesB_all {l : List Py} : pliesB l = true → ∀ p ∈ l, p.parts.length ≤ 6 := by
 induction l with
 | nil => intro _ p hp; cases hp
 | cons q l ih =>
  intro h p hp
  rw [pliesB] at h
  split at h
  ·cases h
  ·rcases List.mem_cons.1 hp with rfl | hp
   ·omega
   ·exact ih h p hp
end Go.Proofs.YtdhakoecjmaebaaGreat
namespace Go.Proofs.YtdhakoecjmaebaaGreat
open Go.RowKit Go.WideShapes Go.ChangeShapes Go.ChangeAt
set_option linter.unusedSimpArgs false
set_option linter.unusedVariables false
section
variable {H : Type} {enc : TypeId × Value → H} {w : World} {base : Nat} {spare : Nat → Bool} {held : Bool} {n : Nat} {cs : List Value} {x : DataW H × List MemPlace}
theorem int_of_trod {t : TypeId} (ht : Tryz.prog.underlying t = some (.int .i64)) (h : DataW.trod enc Tryz.prog w base spare held n t cs = some x) : ∃ i, cs = [.int .i64 i] ∧ I64 i := by
 obtain ⟨i, h1, _, h2⟩ := DataW.trod_int ht h
 exact ⟨i, h1, wf_bd h2⟩
theorem take1 {l : List Value} {i : Nat} {v : Value} (h : (l.drop i).take 1 = [v]) : l[i]? = some v := by
 have h1 : (l.drop i)[0]? = some v := by
  cases hd : l.drop i with
  | nil => rw [hd] at h; cases h
  | cons a m => rw [hd] at h; simp at h; rw [h]; rfl
 rw [List.getElem?_drop] at h1
 simpa using h1
theorem list2 {l : List Value} {a b : Value} (h : l.length = 2) (h0 : l[0]? = some a) (h1 : l[1]? = some b) : l = [a, b] := by
 match l, h with
 | [_, _], _ => cases h0; cases h1; rfl
theorem list3 {l : List Value} {a b c : Value} (h : l.length = 3) (h0 : l[0]? = some a) (h1 : l[1]? = some b) (h2 : l[2]? = some c) : l = [a, b, c] := by
 match l, h with
 | [_, _, _], _ => cases h0; cases h1; cases h2; rfl
theorem list4 {l : List Value} {a b c d : Value} (h : l.length = 4) (h0 : l[0]? = some a) (h1 : l[1]? = some b) (h2 : l[2]? = some c) (h3 : l[3]? = some d) : l = [a, b, c, d] := by
 match l, h with
 | [_, _, _, _], _ => cases h0; cases h1; cases h2; cases h3; rfl
theorem list7 {l : List Value} {a b c d e f g : Value} (h : l.length = 7) (h0 : l[0]? = some a) (h1 : l[1]? = some b) (h2 : l[2]? = some c) (h3 : l[3]? = some d) (h4 : l[4]? = some e) (h5 : l[5]? = some f) (h6 : l[6]? = some g) : l = [a, b, c, d, e, f, g] := by
 match l, h with
 | [_, _, _, _, _, _, _], _ => cases h0; cases h1; cases h2; cases h3; cases h4; cases h5; cases h6; rfl
def Flds (enc : TypeId × Value → H) (w : World) (base : Nat) (spare : Nat → Bool) (held : Bool) (fs : Array Field) (cs : List Value) : Prop :=
 ∀ (i : Nat) (f : Field), fs[i]? = some f → ∃ m y, DataW.trod enc Tryz.prog w base spare held m f.type ((cs.drop f.offset).take (Tryz.prog.cellsOf f.type)) = some y
theorem Flds.sub {fs : Array Field} (hf : Flds enc w base spare held fs cs) (i o k : Nat) (t : TypeId) {f : Field} (hi : fs[i]? = some f) (ho : f.offset = o) (ht : f.type = t) (hc : Tryz.prog.cellsOf t = k) :
  ∃ m y, DataW.trod enc Tryz.prog w base spare held m t ((cs.drop o).take k) = some y := by
 obtain ⟨m, y, h⟩ := hf i f hi
 rw [ho, ht, hc] at h
 exact ⟨m, y, h⟩
theorem Flds.int {fs : Array Field} (hf : Flds enc w base spare held fs cs) (i o : Nat) (t : TypeId) {f : Field} (hi : fs[i]? = some f) (ho : f.offset = o) (ht : f.type = t) (hc : Tryz.prog.cellsOf t = 1) (hu : Tryz.prog.underlying t = some (.int .i64)) :
  ∃ v, cs[o]? = some (.int .i64 v) ∧ I64 v := by
 obtain ⟨m, y, h⟩ := hf.sub i o 1 t hi ho ht hc
 obtain ⟨v, hv, hi⟩ := int_of_trod hu h
 exact ⟨v, take1 hv, hi⟩
theorem Flds.bool {fs : Array Field} (hf : Flds enc w base spare held fs cs) (i o : Nat) (t : TypeId) {f : Field} (hi : fs[i]? = some f) (ho : f.offset = o) (ht : f.type = t) (hc : Tryz.prog.cellsOf t = 1) (hu : Tryz.prog.underlying t = some .bool) :
  ∃ v, cs[o]? = some (.bool v) := by
 obtain ⟨m, y, h⟩ := hf.sub i o 1 t hi ho ht hc
 obtain ⟨v, hv, _⟩ := DataW.trod_bool hu h
 exact ⟨v, take1 hv⟩
theorem Flds.string {fs : Array Field} (hf : Flds enc w base spare held fs cs) (i o : Nat) (t : TypeId) {f : Field} (hi : fs[i]? = some f) (ho : f.offset = o) (ht : f.type = t) (hc : Tryz.prog.cellsOf t = 1) (hu : Tryz.prog.underlying t = some .string) :
  ∃ v, cs[o]? = some (.string v) ∧ v.size ≤ maxLen := by
 obtain ⟨m, y, h⟩ := hf.sub i o 1 t hi ho ht hc
 obtain ⟨v, hv, _, hs⟩ := DataW.trod_string hu h
 exact ⟨v, take1 hv, hs⟩
theorem cells_int : Tryz.prog.cellsOf 3 = 1 := by kernel_rfl
theorem spot_of_trod (h : DataW.trod enc Tryz.prog w base spare held n 29 cs = some x) : ∃ p : Pt, cs = [.int .i64 p.x, .int .i64 p.y] ∧ I64 p.x ∧ I64 p.y := by
 obtain ⟨hl, hf⟩ := open_field Tryz.underlying29 h
 have hF : Flds enc w base spare held _ cs := hf
 rw [show Tryz.prog.cellsOf 29 = 2 by kernel_rfl] at hl
 obtain ⟨a, ha, ia⟩ := hF.int 0 0 3 rfl rfl rfl cells_int Tryz.underlying3
 obtain ⟨b, hb, ib⟩ := hF.int 1 1 3 rfl rfl rfl cells_int Tryz.underlying3
 exact ⟨⟨a, b⟩, list2 hl ha hb, ia, ib⟩
theorem part_of_trod (h : DataW.trod enc Tryz.prog w base spare held n 92 cs = some x) : ∃ q : Qd, cs = [.int .i64 q.a, .int .i64 q.b, .int .i64 q.c, .int .i64 q.d] ∧ QdI q := by
 obtain ⟨hl, hf⟩ := open_field Tryz.underlying92 h
 have hF : Flds enc w base spare held _ cs := hf
 rw [show Tryz.prog.cellsOf 92 = 4 by kernel_rfl] at hl
 obtain ⟨a, ha, ia⟩ := hF.int 0 0 3 rfl rfl rfl cells_int Tryz.underlying3
 obtain ⟨b, hb, ib⟩ := hF.int 1 1 3 rfl rfl rfl cells_int Tryz.underlying3
 obtain ⟨c, hc, ic⟩ := hF.int 2 2 3 rfl rfl rfl cells_int Tryz.underlying3
 obtain ⟨d, hd, id⟩ := hF.int 3 3 3 rfl rfl rfl cells_int Tryz.underlying3
 exact ⟨⟨a, b, c, d⟩, list4 hl ha hb hc hd, ia, ib, ic, id⟩
theorem rect_of_trod (h : DataW.trod enc Tryz.prog w base spare held n 48 cs = some x) : ∃ q : Qd, cs = [.int .i64 q.a, .int .i64 q.b, .int .i64 q.c, .int .i64 q.d] ∧ QdI q := by
 obtain ⟨hl, hf⟩ := open_field Tryz.underlying48 h
 have hF : Flds enc w base spare held _ cs := hf
 rw [show Tryz.prog.cellsOf 48 = 4 by kernel_rfl] at hl
 obtain ⟨a, ha, ia⟩ := hF.int 0 0 3 rfl rfl rfl cells_int Tryz.underlying3
 obtain ⟨b, hb, ib⟩ := hF.int 1 1 3 rfl rfl rfl cells_int Tryz.underlying3
 obtain ⟨c, hc, ic⟩ := hF.int 2 2 3 rfl rfl rfl cells_int Tryz.underlying3
 obtain ⟨d, hd, id⟩ := hF.int 3 3 3 rfl rfl rfl cells_int Tryz.underlying3
 exact ⟨⟨a, b, c, d⟩, list4 hl ha hb hc hd, ia, ib, ic, id⟩
theorem pts_of_rows {v : Value} {l : List Pt} (h : SlR w 2 (fun cs (p : Pt) => cs = [.int .i64 p.x, .int .i64 p.y] ∧ I64 p.x ∧ I64 p.y) v l) :
  ∃ A c, v = .slice A l.length c ∧ l.length ≤ c ∧ c ≤ maxLen ∧ Pts w A l ∧ ∀ p ∈ l, I64 p.x ∧ I64 p.y := by
 obtain ⟨A, c, rfl, h1, h2, h3⟩ := h
 refine ⟨A, c, rfl, h1, h2, fun hn => ?_, fun p hp => ?_⟩
 ·obtain ⟨b, o, e, h4⟩ := h3 hn
  refine ⟨b, o, e, fun i p hp => ?_⟩
  obtain ⟨cs, _, h5, rfl, _⟩ := h4 i p hp
  exact ⟨h5 0 (by omega), h5 1 (by omega)⟩
 ·obtain ⟨i, hi, rfl⟩ := List.getElem_of_mem hp
  obtain ⟨b, o, e, h4⟩ := h3 (by omega)
  obtain ⟨cs, _, _, _, h6⟩ := h4 i _ (List.getElem?_eq_getElem hi)
  exact h6
theorem qds_of_rows {v : Value} {l : List Qd} (h : SlR w 4 (fun cs (q : Qd) => cs = [.int .i64 q.a, .int .i64 q.b, .int .i64 q.c, .int .i64 q.d] ∧ QdI q) v l) :
  ∃ A c, v = .slice A l.length c ∧ l.length ≤ c ∧ c ≤ maxLen ∧ Qds w A l ∧ ∀ q ∈ l, QdI q := by
 obtain ⟨A, c, rfl, h1, h2, h3⟩ := h
 refine ⟨A, c, rfl, h1, h2, fun hn => ?_, fun p hp => ?_⟩
 ·obtain ⟨b, o, e, h4⟩ := h3 hn
  refine ⟨b, o, e, fun i p hp => ?_⟩
  obtain ⟨cs, _, h5, rfl, _⟩ := h4 i p hp
  exact ⟨h5 0 (by omega), h5 1 (by omega), h5 2 (by omega), h5 3 (by omega)⟩
 ·obtain ⟨i, hi, rfl⟩ := List.getElem_of_mem hp
  obtain ⟨b, o, e, h4⟩ := h3 (by omega)
  obtain ⟨cs, _, _, _, h6⟩ := h4 i _ (List.getElem?_eq_getElem hi)
  exact h6
theorem pts_of_trod (h : DataW.trod enc Tryz.prog w base spare held n 28 cs = some x) :
  ∃ A c, ∃ l : List Pt, cs = [.slice A l.length c] ∧ l.length ≤ c ∧ c ≤ maxLen ∧ Pts w A l ∧ ∀ p ∈ l, I64 p.x ∧ I64 p.y := by
 obtain ⟨v, l, rfl, hs⟩ := open_rows Tryz.underlying28 (sz := 2) (by kernel_rfl) (by omega) (fun n cs x h => spot_of_trod h) h
 obtain ⟨A, c, rfl, h1, h2, h3, h4⟩ := pts_of_rows hs
 exact ⟨A, c, l, rfl, h1, h2, h3, h4⟩
theorem parts_of_trod (h : DataW.trod enc Tryz.prog w base spare held n 93 cs = some x) :
  ∃ A c, ∃ l : List Qd, cs = [.slice A l.length c] ∧ l.length ≤ c ∧ c ≤ maxLen ∧ Qds w A l ∧ ∀ q ∈ l, QdI q := by
 obtain ⟨v, l, rfl, hs⟩ := open_rows Tryz.underlying93 (sz := 4) (by kernel_rfl) (by omega) (fun n cs x h => part_of_trod h) h
 obtain ⟨A, c, rfl, h1, h2, h3, h4⟩ := qds_of_rows hs
 exact ⟨A, c, l, rfl, h1, h2, h3, h4⟩
theorem rects_of_trod (h : DataW.trod enc Tryz.prog w base spare held n 98 cs = some x) :
  ∃ A c, ∃ l : List Qd, cs = [.slice A l.length c] ∧ l.length ≤ c ∧ c ≤ maxLen ∧ Qds w A l ∧ ∀ q ∈ l, QdI q := by
 obtain ⟨v, l, rfl, hs⟩ := open_rows Tryz.underlying98 (sz := 4) (by kernel_rfl) (by omega) (fun n cs x h => rect_of_trod h) h
 obtain ⟨A, c, rfl, h1, h2, h3, h4⟩ := qds_of_rows hs
 exact ⟨A, c, l, rfl, h1, h2, h3, h4⟩
theorem ply_of_trod (h : DataW.trod enc Tryz.prog w base spare held n 95 cs = some x) : ∃ p : Py, cs = p.cells ∧ PyOk w p ∧ I64 p.lot := by
 obtain ⟨hl, hf⟩ := open_field Tryz.underlying95 h
 have hF : Flds enc w base spare held _ cs := hf
 rw [show Tryz.prog.cellsOf 95 = 2 by kernel_rfl] at hl
 obtain ⟨a, ha, ia⟩ := hF.int 0 0 3 rfl rfl rfl cells_int Tryz.underlying3
 obtain ⟨m, y, hm⟩ := hF.sub 1 1 1 93 rfl rfl rfl (by kernel_rfl)
 obtain ⟨A, c, l, e, h1, h2, h3, h4⟩ := parts_of_trod hm
 exact ⟨⟨a, A, c, l⟩, list2 hl ha (take1 e), ⟨h1, h2, h3, h4⟩, ia⟩
theorem tone_of_trod (h : DataW.trod enc Tryz.prog w base spare held n 97 cs = some x) : ∃ a b c, cs = [.int .i64 a, .int .i64 b, .int .i64 c] ∧ I64 a ∧ I64 b ∧ I64 c := by
 obtain ⟨hl, hf⟩ := open_field Tryz.underlying97 h
 have hF : Flds enc w base spare held _ cs := hf
 rw [show Tryz.prog.cellsOf 97 = 3 by kernel_rfl] at hl
 obtain ⟨a, ha, ia⟩ := hF.int 0 0 3 rfl rfl rfl cells_int Tryz.underlying3
 obtain ⟨b, hb, ib⟩ := hF.int 1 1 3 rfl rfl rfl cells_int Tryz.underlying3
 obtain ⟨c, hc, ic⟩ := hF.int 2 2 3 rfl rfl rfl cells_int Tryz.underlying3
 exact ⟨a, b, c, list3 hl ha hb hc, ia, ib, ic⟩
theorem takeK {l m : List Value} {i k j : Nat} (h : (l.drop i).take k = m) (hj : j < k) {v : Value} (hm : m[j]? = some v) : l[i + j]? = some v := by
 rw [← h, List.getElem?_take_of_lt hj, List.getElem?_drop] at hm
 exact hm
theorem roll_of_trod (h : DataW.trod enc Tryz.prog w base spare held n 100 cs = some x) : ∃ r : Rl, cs = r.cells ∧ RlOk w r := by
 obtain ⟨hl, hf⟩ := open_field Tryz.underlying100 h
 have hF : Flds enc w base spare held _ cs := hf
 rw [show Tryz.prog.cellsOf 100 = 7 by kernel_rfl] at hl
 obtain ⟨s, hs, is⟩ := hF.string 0 0 9 rfl rfl rfl (by kernel_rfl) Tryz.underlying9
 obtain ⟨a, ha, ia⟩ := hF.int 1 1 3 rfl rfl rfl cells_int Tryz.underlying3
 obtain ⟨b, hb, ib⟩ := hF.int 2 2 3 rfl rfl rfl cells_int Tryz.underlying3
 obtain ⟨m, y, hm⟩ := hF.sub 3 3 3 97 rfl rfl rfl (by kernel_rfl)
 obtain ⟨t0, t1, t2, et, i0, i1, i2⟩ := tone_of_trod hm
 obtain ⟨m', y', hm'⟩ := hF.sub 4 6 1 98 rfl rfl rfl (by kernel_rfl)
 obtain ⟨A, c, l, e, h1, h2, h3, h4⟩ := rects_of_trod hm'
 exact ⟨⟨s, a, b, t0, t1, t2, A, c, l⟩, list7 hl hs ha hb (takeK (j := 0) et (by omega) rfl) (takeK (j := 1) et (by omega) rfl) (takeK (j := 2) et (by omega) rfl) (take1 e), is, h1, h2, h3, h4, ia, ib, i0, i1, i2⟩
theorem list_of_rows {α : Type} {sz : Nat} {cells : α → List Value} {ok : World → α → Prop} {v : Value} {l : List α} (h : SlR w sz (fun cs a => cs = cells a ∧ ok w a) v l) :
  ∃ A c, v = .slice A l.length c ∧ l.length ≤ c ∧ c ≤ maxLen ∧ ListAt w sz cells ok A l := by
 obtain ⟨A, c, rfl, h1, h2, h3⟩ := h
 refine ⟨A, c, rfl, h1, h2, fun hn => ?_⟩
 obtain ⟨b, o, e, h4⟩ := h3 hn
 refine ⟨b, o, e, fun i a ha => ?_⟩
 obtain ⟨cs, hl, h5, rfl, h6⟩ := h4 i a ha
 refine ⟨fun j v hv => ?_, h6⟩
 have hj : j < sz := by rw [← hl]; exact (List.getElem?_eq_some_iff.1 hv).1
 rw [h5 j hj, hv]
theorem rolls_of_trod (h : DataW.trod enc Tryz.prog w base spare held n 64 cs = some x) :
  ∃ A c, ∃ l : List Rl, cs = [.slice A l.length c] ∧ l.length ≤ c ∧ c ≤ maxLen ∧ Rolls w A l := by
 obtain ⟨v, l, rfl, hs⟩ := open_rows Tryz.underlying64 (sz := 7) (R := fun cs (r : Rl) => cs = r.cells ∧ RlOk w r) (by kernel_rfl) (by omega) (fun n cs x h => roll_of_trod h) h
 obtain ⟨A, c, rfl, h1, h2, h3⟩ := list_of_rows hs
 exact ⟨A, c, l, rfl, h1, h2, h3⟩
theorem plies_of_trod (h : DataW.trod enc Tryz.prog w base spare held n 67 cs = some x) :
  ∃ A c, ∃ l : List Py, cs = [.slice A l.length c] ∧ l.length ≤ c ∧ c ≤ maxLen ∧ Plys w A l := by
 obtain ⟨v, l, rfl, hs⟩ := open_rows Tryz.underlying67 (sz := 2) (R := fun cs (r : Py) => cs = r.cells ∧ PyOk w r) (by kernel_rfl) (by omega) (fun n cs x h => let ⟨p, h1, h2, _⟩ := ply_of_trod h; ⟨p, h1, h2⟩) h
 obtain ⟨A, c, rfl, h1, h2, h3⟩ := list_of_rows hs
 exact ⟨A, c, l, rfl, h1, h2, h3⟩
theorem polys_of_trod (h : DataW.trod enc Tryz.prog w base spare held n 63 cs = some x) :
  ∃ A c, ∃ l : List (List Pt), cs = [.slice A l.length c] ∧ l.length ≤ c ∧ c ≤ maxLen ∧ Polys w A l ∧ ∀ ps ∈ l, ∀ p ∈ ps, I64 p.x ∧ I64 p.y := by
 obtain ⟨v, l, rfl, hs⟩ := open_rows Tryz.underlying63 (sz := 1) (R := fun cs (l : List Pt) => ∃ A c, cs = [.slice A l.length c] ∧ l.length ≤ c ∧ c ≤ maxLen ∧ Pts w A l ∧ ∀ p ∈ l, I64 p.x ∧ I64 p.y) (by kernel_rfl) (by omega)
  (fun n cs x h => let ⟨A, c, l, h1, h2, h3, h4, h5⟩ := pts_of_trod h; ⟨l, A, c, h1, h2, h3, h4, h5⟩) h
 obtain ⟨A, c, rfl, h1, h2, h3⟩ := hs
 refine ⟨A, c, l, rfl, h1, h2, fun hn => ?_, fun p hp => ?_⟩
 ·obtain ⟨b, o, e, h4⟩ := h3 hn
  refine ⟨b, o, e, fun i a ha => ?_⟩
  obtain ⟨cs, hl, h5, A', c', rfl, h6, h7, h8, _⟩ := h4 i a ha
  have := h5 0 (by omega)
  exact ⟨_, by simpa using this, A', c', rfl, h6, h7, h8⟩
 ·obtain ⟨i, hi, rfl⟩ := List.getElem_of_mem hp
  obtain ⟨b, o, e, h4⟩ := h3 (by omega)
  obtain ⟨cs, _, _, _, _, _, _, _, _, h6⟩ := h4 i _ (List.getElem?_eq_getElem hi)
  exact h6
end
end Go.Proofs.YtdhakoecjmaebaaGreat
