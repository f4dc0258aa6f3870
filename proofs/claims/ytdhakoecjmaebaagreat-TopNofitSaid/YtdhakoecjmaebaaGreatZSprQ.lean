/-
  The layings of slices.SortFunc (at zones) and of cmp.Compare (at int): the library's contracts at this program. Written by the kit's tool.
-/
import Derived.Shelf.SlSortCmp.NoneTotal
import Derived.Shelf.SlicesG.Cmp
import Derived.Test.YtdhakoecjmaebaaGreatRows
import Derived.Test.YtdhakoecjmaebaaGreatZPoly
import Derived.Test.YtdhakoecjmaebaaGreatZNorm
import Derived.Test.YtdhakoecjmaebaaGreatZDam
import Derived.BigRegion
import Derived.Test.YtdhakoecjmaebaaGreatZDTab
import Derived.Deep.DeepCutAuto
namespace Go.Proofs.YtdhakoecjmaebaaGreat
open Go.Shelf
set_option maxRecDepth 100000
def sortSp_ren : Go.Shelf.Ren := ⟨fun | 6 => 91 | 15 => 113 | 14 => 140 | 28 => 162 | 29 => 163 | 20 => 188 | 21 => 189 | 22 => 190 | 23 => 191 | 24 => 192 | 25 => 193 | 26 => 194 | 27 => 195 | 46 => 223 | 47 => 199 | 48 => 200 | 49 => 224 | 50 => 225 | 57 => 234 | n => n, fun | 22 => 28 | 24 => 29 | 25 => 143 | 3 => 3 | 39 => 185 | 0 => 0 | 53 => 217 | 55 => 219 | 4 => 4 | 46 => 210 | 45 => 209 | 50 => 214 | 5 => 5 | 9 => 9 | 66 => 241 | 70 => 245 | 76 => 256 | 77 => 109 | n => n, fun | n => n⟩
theorem sortSp : Go.Proofs.SlLaysF0.n6 Tryz.prog sortSp_ren := {
  mixed := by kernel_rfl
  f6 := ⟨Tryz.f91.name, by decide, Tryz.func91.trans (congrArg some (by kernel_rfl))⟩
  f14 := ⟨Tryz.f140.name, by decide, Tryz.func140.trans (congrArg some (by kernel_rfl))⟩
  f15 := Tryz.func113.trans (congrArg some (by kernel_rfl))
  f20 := ⟨Tryz.f188.name, by decide, Tryz.func188.trans (congrArg some (by kernel_rfl))⟩
  f21 := ⟨Tryz.f189.name, by decide, Tryz.func189.trans (congrArg some (by kernel_rfl))⟩
  f22 := ⟨Tryz.f190.name, by decide, Tryz.func190.trans (congrArg some (by kernel_rfl))⟩
  f23 := ⟨Tryz.f191.name, by decide, Tryz.func191.trans (congrArg some (by kernel_rfl))⟩
  f24 := ⟨Tryz.f192.name, by decide, Tryz.func192.trans (congrArg some (by kernel_rfl))⟩
  f25 := ⟨Tryz.f193.name, by decide, Tryz.func193.trans (congrArg some (by kernel_rfl))⟩
  f26 := ⟨Tryz.f194.name, by decide, Tryz.func194.trans (congrArg some (by kernel_rfl))⟩
  f27 := ⟨Tryz.f195.name, by decide, Tryz.func195.trans (congrArg some (by kernel_rfl))⟩
  f28 := Tryz.func162.trans (congrArg some (by kernel_rfl))
  f29 := Tryz.func163.trans (congrArg some (by kernel_rfl))
  f46 := ⟨Tryz.f223.name, by decide, Tryz.func223.trans (congrArg some (by kernel_rfl))⟩
  f47 := Tryz.func199.trans (congrArg some (by kernel_rfl))
  f48 := Tryz.func200.trans (congrArg some (by kernel_rfl))
  f49 := ⟨Tryz.f224.name, by decide, Tryz.func224.trans (congrArg some (by kernel_rfl))⟩
  f50 := ⟨Tryz.f225.name, by decide, Tryz.func225.trans (congrArg some (by kernel_rfl))⟩
  f57 := ⟨Tryz.f234.name, by decide, Tryz.func234.trans (congrArg some (by kernel_rfl))⟩
  t0 := Tryz.underlying0
  a0 := Tryz.isAgg0
  z0 := Tryz.sizeOf0
  v0 := Tryz.zeroValue0
  t3 := Tryz.underlying3
  a3 := Tryz.isAgg3
  z3 := Tryz.sizeOf3
  v3 := Tryz.zeroValue3
  t4 := Tryz.underlying4
  a4 := Tryz.isAgg4
  z4 := Tryz.sizeOf4
  v4 := Tryz.zeroValue4
  t5 := Tryz.underlying5
  a5 := Tryz.isAgg5
  z5 := Tryz.sizeOf5
  v5 := Tryz.zeroValue5
  t9 := Tryz.underlying9
  a9 := Tryz.isAgg9
  z9 := Tryz.sizeOf9
  v9 := Tryz.zeroValue9
  t22 := Tryz.underlying28
  a22 := Tryz.isAgg28
  z22 := Tryz.sizeOf28
  v22 := Tryz.zeroValue28
  t25 := Tryz.underlying143
  a25 := Tryz.isAgg143
  z25 := Tryz.sizeOf143
  v25 := Tryz.zeroValue143
  t39 := Tryz.underlying185
  a39 := Tryz.isAgg185
  z39 := Tryz.sizeOf185
  v39 := Tryz.zeroValue185
  t45 := Tryz.underlying209
  a45 := Tryz.isAgg209
  z45 := Tryz.sizeOf209
  v45 := Tryz.zeroValue209
  t46 := Tryz.underlying210
  a46 := Tryz.isAgg210
  z46 := Tryz.sizeOf210
  v46 := Tryz.zeroValue210
  t50 := Tryz.underlying214
  a50 := Tryz.isAgg214
  z50 := Tryz.sizeOf214
  v50 := Tryz.zeroValue214
  t53 := Tryz.underlying217
  a53 := Tryz.isAgg217
  z53 := Tryz.sizeOf217
  v53 := Tryz.zeroValue217
  t55 := Tryz.underlying219
  a55 := Tryz.isAgg219
  z55 := Tryz.sizeOf219
  v55 := Tryz.zeroValue219
  t66 := Tryz.underlying241
  a66 := Tryz.isAgg241
  z66 := Tryz.sizeOf241
  v66 := Tryz.zeroValue241
  t70 := Tryz.underlying245
  a70 := Tryz.isAgg245
  z70 := Tryz.sizeOf245
  v70 := Tryz.zeroValue245
  t76 := Tryz.underlying256
  a76 := Tryz.isAgg256
  z76 := Tryz.sizeOf256
  v76 := Tryz.zeroValue256
  t77 := Tryz.underlying109
  a77 := Tryz.isAgg109
  z77 := Tryz.sizeOf109
  v77 := Tryz.zeroValue109 }
def sortRw_ren : Go.Shelf.Ren := ⟨fun | 6 => 67 | 15 => 113 | 14 => 112 | 28 => 162 | 29 => 163 | 20 => 154 | 21 => 155 | 22 => 156 | 23 => 157 | 24 => 158 | 25 => 159 | 26 => 160 | 27 => 161 | 46 => 198 | 47 => 199 | 48 => 200 | 49 => 201 | 50 => 202 | 57 => 226 | n => n, fun | 22 => 63 | 24 => 28 | 25 => 138 | 3 => 3 | 39 => 185 | 0 => 0 | 53 => 217 | 55 => 219 | 4 => 4 | 46 => 210 | 45 => 209 | 50 => 214 | 5 => 5 | 9 => 9 | 66 => 241 | 70 => 245 | 76 => 256 | 77 => 109 | n => n, fun | n => n⟩
theorem sortRw : Go.Proofs.SlLaysF.n6 Tryz.prog sortRw_ren := {
  mixed := by kernel_rfl
  f6 := ⟨Tryz.f67.name, by decide, Tryz.func67.trans (congrArg some (by kernel_rfl))⟩
  f14 := ⟨Tryz.f112.name, by decide, Tryz.func112.trans (congrArg some (by kernel_rfl))⟩
  f15 := Tryz.func113.trans (congrArg some (by kernel_rfl))
  f20 := ⟨Tryz.f154.name, by decide, Tryz.func154.trans (congrArg some (by kernel_rfl))⟩
  f21 := ⟨Tryz.f155.name, by decide, Tryz.func155.trans (congrArg some (by kernel_rfl))⟩
  f22 := ⟨Tryz.f156.name, by decide, Tryz.func156.trans (congrArg some (by kernel_rfl))⟩
  f23 := ⟨Tryz.f157.name, by decide, Tryz.func157.trans (congrArg some (by kernel_rfl))⟩
  f24 := ⟨Tryz.f158.name, by decide, Tryz.func158.trans (congrArg some (by kernel_rfl))⟩
  f25 := ⟨Tryz.f159.name, by decide, Tryz.func159.trans (congrArg some (by kernel_rfl))⟩
  f26 := ⟨Tryz.f160.name, by decide, Tryz.func160.trans (congrArg some (by kernel_rfl))⟩
  f27 := ⟨Tryz.f161.name, by decide, Tryz.func161.trans (congrArg some (by kernel_rfl))⟩
  f28 := Tryz.func162.trans (congrArg some (by kernel_rfl))
  f29 := Tryz.func163.trans (congrArg some (by kernel_rfl))
  f46 := ⟨Tryz.f198.name, by decide, Tryz.func198.trans (congrArg some (by kernel_rfl))⟩
  f47 := Tryz.func199.trans (congrArg some (by kernel_rfl))
  f48 := Tryz.func200.trans (congrArg some (by kernel_rfl))
  f49 := ⟨Tryz.f201.name, by decide, Tryz.func201.trans (congrArg some (by kernel_rfl))⟩
  f50 := ⟨Tryz.f202.name, by decide, Tryz.func202.trans (congrArg some (by kernel_rfl))⟩
  f57 := ⟨Tryz.f226.name, by decide, Tryz.func226.trans (congrArg some (by kernel_rfl))⟩
  t0 := Tryz.underlying0
  a0 := Tryz.isAgg0
  z0 := Tryz.sizeOf0
  v0 := Tryz.zeroValue0
  t3 := Tryz.underlying3
  a3 := Tryz.isAgg3
  z3 := Tryz.sizeOf3
  v3 := Tryz.zeroValue3
  t4 := Tryz.underlying4
  a4 := Tryz.isAgg4
  z4 := Tryz.sizeOf4
  v4 := Tryz.zeroValue4
  t5 := Tryz.underlying5
  a5 := Tryz.isAgg5
  z5 := Tryz.sizeOf5
  v5 := Tryz.zeroValue5
  t9 := Tryz.underlying9
  a9 := Tryz.isAgg9
  z9 := Tryz.sizeOf9
  v9 := Tryz.zeroValue9
  t22 := Tryz.underlying63
  a22 := Tryz.isAgg63
  z22 := Tryz.sizeOf63
  v22 := Tryz.zeroValue63
  a24 := Tryz.isAgg28
  z24 := Tryz.sizeOf28
  t25 := Tryz.underlying138
  a25 := Tryz.isAgg138
  z25 := Tryz.sizeOf138
  v25 := Tryz.zeroValue138
  t39 := Tryz.underlying185
  a39 := Tryz.isAgg185
  z39 := Tryz.sizeOf185
  v39 := Tryz.zeroValue185
  t45 := Tryz.underlying209
  a45 := Tryz.isAgg209
  z45 := Tryz.sizeOf209
  v45 := Tryz.zeroValue209
  t46 := Tryz.underlying210
  a46 := Tryz.isAgg210
  z46 := Tryz.sizeOf210
  v46 := Tryz.zeroValue210
  t50 := Tryz.underlying214
  a50 := Tryz.isAgg214
  z50 := Tryz.sizeOf214
  v50 := Tryz.zeroValue214
  t53 := Tryz.underlying217
  a53 := Tryz.isAgg217
  z53 := Tryz.sizeOf217
  v53 := Tryz.zeroValue217
  t55 := Tryz.underlying219
  a55 := Tryz.isAgg219
  z55 := Tryz.sizeOf219
  v55 := Tryz.zeroValue219
  t66 := Tryz.underlying241
  a66 := Tryz.isAgg241
  z66 := Tryz.sizeOf241
  v66 := Tryz.zeroValue241
  t70 := Tryz.underlying245
  a70 := Tryz.isAgg245
  z70 := Tryz.sizeOf245
  v70 := Tryz.zeroValue245
  t76 := Tryz.underlying256
  a76 := Tryz.isAgg256
  z76 := Tryz.sizeOf256
  v76 := Tryz.zeroValue256
  t77 := Tryz.underlying109
  a77 := Tryz.isAgg109
  z77 := Tryz.sizeOf109
  v77 := Tryz.zeroValue109 }
def cmpInt_ren : Go.Shelf.Ren := ⟨fun | 5 => 95 | 7 => 141 | n => n, fun | 22 => 3 | 3 => 3 | 4 => 4 | n => n, fun | n => n⟩
theorem cmpInt : Go.Proofs.SlLaysC2.n5 Tryz.prog cmpInt_ren := {
  mixed := by kernel_rfl
  f5 := ⟨Tryz.f95.name, by decide, Tryz.func95.trans (congrArg some (by kernel_rfl))⟩
  f7 := ⟨Tryz.f141.name, by decide, Tryz.func141.trans (congrArg some (by kernel_rfl))⟩
  t3 := Tryz.underlying3
  a3 := Tryz.isAgg3
  z3 := Tryz.sizeOf3
  v3 := Tryz.zeroValue3
  t4 := Tryz.underlying4
  a4 := Tryz.isAgg4
  z4 := Tryz.sizeOf4
  v4 := Tryz.zeroValue4
  t22 := Tryz.underlying3
  a22 := Tryz.isAgg3
  z22 := Tryz.sizeOf3
  v22 := Tryz.zeroValue3 }
end Go.Proofs.YtdhakoecjmaebaaGreat
/-
  Splice zones, plain: extents of polygons, the beginning of a zone, the best zone.
-/
namespace Go.Proofs.YtdhakoecjmaebaaGreat
open Go.RowKit
set_option linter.unusedSimpArgs false
set_option linter.unusedVariables false

/-- The extents along X of polygons, as points (Lo, Hi), or the first error. -/
def extGoZ (len : Int) : List (List Pt) → List Pt → List Pt × Int
  | [], acc => (acc, 0)
  | p :: l, acc => if checkI p ≠ 0 then ([], checkI p) else if (loOf p).x < 0 ∨ len < (hiOf p).x then ([], 13) else extGoZ len l (acc ++ [⟨(loOf p).x, (hiOf p).x⟩])
def extentsR (len : Int) (polys : List (List Pt)) : List Pt × Int :=
  if len < 1 ∨ 1048576 < len then ([], 3) else if 60 < polys.length then ([], 5) else extGoZ len polys []
def backR (l : List Pt) (hi : Int) : Int := l.foldl (fun lo z => if hi < z.y then min lo z.x else lo) hi
def BackR (len : Int) (polys : List (List Pt)) (hi : Int) : Int × Int :=
  if (extentsR len polys).2 ≠ 0 then (0, (extentsR len polys).2) else if hi < 0 ∨ len < hi then (0, 3) else (backR (extentsR len polys).1 hi, 0)
theorem back_le (l : List Pt) (hi : Int) : backR l hi ≤ hi := by
  have : ∀ (l : List Pt) (a : Int), l.foldl (fun lo z => if hi < z.y then min lo z.x else lo) a ≤ a := by
    intro l
    induction l with
    | nil => intro a; exact Int.le_refl _
    | cons z l ih =>
      intro a
      rw [List.foldl_cons]
      refine Int.le_trans (ih _) ?_
      split <;> omega
  exact this l hi
end Go.Proofs.YtdhakoecjmaebaaGreat
/-
  The reference of layer 11: twice the area, the opposite order, the least vertex, the normal form.
-/
namespace Go.Proofs.YtdhakoecjmaebaaGreat
open Go.RowKit
set_option linter.unusedSimpArgs false
set_option linter.unusedVariables false

def pt2 (p : Pt) : List Value := [.int .i64 p.x, .int .i64 p.y]
theorem pt2_len (p : Pt) : (pt2 p).length = 2 := rfl
theorem pt2_one (p : Pt) : ∀ u ∈ pt2 p, u.oneCell' = true := by
  intro u hu
  simp only [pt2, List.mem_cons, List.not_mem_nil, or_false] at hu
  rcases hu with rfl | rfl <;> rfl
theorem flat_pt2 (l : List Pt) : flat l = l.flatMap pt2 := by
  induction l with
  | nil => rfl
  | cons p l ih => rw [flat, ih]; rfl
theorem slt_spot : SlT Tryz.prog 28 29 2 := SlT.mk (z := .agg #[.int .i64 0, .int .i64 0]) (by_ := 16) Tryz.underlying28 (by kernel_rfl) (by omega) rfl (by omega)
theorem Pts.src {w : World} {A : Option Addr} {l : List Pt} (h : Pts w A l) : SrcAt w A (l.flatMap pt2) := by rw [← flat_pt2]; exact src_cells h
theorem Pts.none {w : World} {A : Option Addr} {l : List Pt} (h : Pts w A l) : A = none → l.length = 0 := by
  intro e
  rcases Nat.eq_zero_or_pos l.length with h0 | h0
  · exact h0
  · obtain ⟨b, o, e', _⟩ := h h0
    rw [e] at e'; cases e'
theorem OwnR.pts {w : World} {base : Nat} {v : Value} {l : List Pt} (h : OwnR w base 29 2 pt2 v l) : ∃ A c, v = .slice A l.length c ∧ l.length ≤ c ∧ c ≤ maxLen ∧ Pts w A l := by
  obtain ⟨A, c, e, h1, h2, h3⟩ := h.form pt2_len
  refine ⟨A, c, e, h1, h2, fun hn => ?_⟩
  obtain ⟨g, rfl, _, _, _, hx⟩ := h3 hn
  refine ⟨g, 0, rfl, fun i p hp => ⟨hx i p hp 0 _ rfl, hx i p hp 1 _ rfl⟩⟩

end Go.Proofs.YtdhakoecjmaebaaGreat
/-
  The walks of splice: extents, back, Back, Best.
-/
namespace Go.Proofs.YtdhakoecjmaebaaGreat
open Go.RowKit
set_option linter.unusedSimpArgs false
set_option linter.unusedVariables false

theorem slt_ints : SlT Tryz.prog 32 3 1 := SlT.mk (z := .int .i64 0) (by_ := 8) Tryz.underlying32 (by kernel_rfl) (by omega) rfl (by omega)
def i1 (n : Int) : List Value := [.int .i64 n]
theorem i1_len (n : Int) : (i1 n).length = 1 := rfl
theorem i1_one (n : Int) : ∀ u ∈ i1 n, u.oneCell' = true := by
  intro u hu
  rw [List.mem_singleton.1 hu]
  rfl
/-- A slice of that address, as long as l, reads as the numbers l. -/
def Ints (w : World) (A : Option Addr) (l : List Int) : Prop := 0 < l.length → ∃ b o, A = some ⟨b, o, none⟩ ∧ ∀ i n, l[i]? = some n → w.cell? ⟨b, o + i, none⟩ = some (.int .i64 n)
theorem Ints.later {w w' : World} {A : Option Addr} {l : List Int} (h : Ints w A l) (k : Later w w') : Ints w' A l :=
  fun hn => let ⟨b, o, e, hc⟩ := h hn; ⟨b, o, e, fun i n hi => k.cell (hc i n hi)⟩
theorem Ints.at_ {w : World} {A : Option Addr} {l : List Int} (h : Ints w A l) {k : Nat} (hk : k < l.length) : ∃ b o, A = some ⟨b, o, none⟩ ∧ w.cell? ⟨b, o + k, none⟩ = some (.int .i64 l[k]) := by
  obtain ⟨b, o, e, hc⟩ := h (by omega)
  exact ⟨b, o, e, hc k _ (List.getElem?_eq_getElem hk)⟩
theorem OwnR.ints {w : World} {base : Nat} {E : TypeId} {v : Value} {l : List Int} (h : OwnR w base E 1 i1 v l) : ∃ A c, v = .slice A l.length c ∧ l.length ≤ c ∧ c ≤ maxLen ∧ Ints w A l := by
  obtain ⟨A, c, e, h1, h2, h3⟩ := h.form i1_len
  refine ⟨A, c, e, h1, h2, fun hn => ?_⟩
  obtain ⟨g, rfl, _, _, _, hx⟩ := h3 hn
  refine ⟨g, 0, rfl, fun i p hp => ?_⟩
  have := hx i p hp 0 _ rfl
  simpa using this

attribute [local go_sem] ite_min ite_max
end Go.Proofs.YtdhakoecjmaebaaGreat
/-
  Spreading, plain: what spread.Spread, spread.Check and spread.Rests return, as functions of lists; no program in sight.
-/
namespace Go.Proofs.YtdhakoecjmaebaaGreat
open Go.RowKit
set_option linter.unusedSimpArgs false
set_option linter.unusedVariables false

def gL (l : List Int) (j : Nat) : Int := l.getD j 0
def grl (rs : List Rl) (j : Nat) : Rl := rs.getD j ⟨⟨#[]⟩, 0, 0, 0, 0, 0, none, 0, []⟩
def rollsErr : List Rl → Int
  | [] => 0
  | r :: l => if rollI r ≠ 0 then rollI r else rollsErr l
def chkRollsR (rs : List Rl) (nl : Nat) : Int := if 20 < rs.length then 5 else if rollsErr rs ≠ 0 then rollsErr rs else if nl ≠ rs.length then 1 else 0
def chkClothR (len wd : Int) (polys : List (List Pt)) (rs : List Rl) (nl : Nat) : Int :=
  if (BackR len polys 0).2 ≠ 0 then (BackR len polys 0).2 else if chkRollsR rs nl ≠ 0 then chkRollsR rs nl else if wd < 1 ∨ 1048576 < wd then 3 else 0
abbrev Pl := Int × List Qd
def clothB (p : Qd) (rs : List Rl) : Bool := decide (0 ≤ p.a) && (decide (p.a < (rs.length : Int)) && (decide (0 ≤ p.b) && (decide (p.b < p.c) && decide (p.c ≤ (grl rs p.a.toNat).ln))))
def endQ (p : Qd) : Int := p.d + p.c - p.b
def joinsB (len : Int) (polys : List (List Pt)) (p q : Qd) : Bool :=
  if q.d ≤ p.d ∨ endQ p < q.d then false else (BackR len polys (endQ p)).2 == 0 && decide (q.d ≤ (BackR len polys (endQ p)).1)
def partErr (len wd : Int) (polys : List (List Pt)) (rs : List Rl) (lots : List Int) (lot : Int) (prev : Option Qd) (p : Qd) : Int :=
  if clothB p rs = false ∨ p.d < 0 ∨ len < p.d then 3 else if gL lots p.a.toNat ≠ lot then 16 else if (grl rs p.a.toNat).wd < wd then 13
  else match prev with
    | none => if p.d ≠ 0 then 20 else 0
    | some q => if joinsB len polys q p = true then 0 else 20
def plyGo (len wd : Int) (polys : List (List Pt)) (rs : List Rl) (lots : List Int) (lot : Int) : Option Qd → List Qd → Int
  | none, [] => 20
  | some q, [] => if endQ q ≠ len then 20 else 0
  | prev, p :: l => if partErr len wd polys rs lots lot prev p ≠ 0 then partErr len wd polys rs lots lot prev p else plyGo len wd polys rs lots lot (some p) l
def plyR (len wd : Int) (polys : List (List Pt)) (rs : List Rl) (lots : List Int) (y : Pl) : Int := plyGo len wd polys rs lots y.1 none y.2
def plysErr (len wd : Int) (polys : List (List Pt)) (rs : List Rl) (lots : List Int) : List Pl → Int
  | [] => 0
  | y :: l => if plyR len wd polys rs lots y ≠ 0 then plyR len wd polys rs lots y else plysErr len wd polys rs lots l
def allQ (ys : List Pl) : List Qd := ys.flatMap (·.2)
/-- Two parts use the same cloth. -/
def Clash (p q : Qd) : Prop := p.a = q.a ∧ p.b < q.c ∧ q.b < p.c
instance (p q : Qd) : Decidable (Clash p q) := by unfold Clash; exact inferInstance
def NoTwice (l : List Qd) : Prop := l.Pairwise fun p q => ¬ Clash p q
instance (l : List Qd) : Decidable (NoTwice l) := by unfold NoTwice; exact inferInstance
def scheckR (len wd : Int) (polys : List (List Pt)) (rs : List Rl) (lots : List Int) (ys : List Pl) : Int :=
  if chkClothR len wd polys rs lots.length ≠ 0 then chkClothR len wd polys rs lots.length else if 40 < ys.length then 5
  else if plysErr len wd polys rs lots ys ≠ 0 then plysErr len wd polys rs lots ys else if NoTwice (allQ ys) then 0 else 14

/- What is left of the rolls. -/
def insZ (z : Pt) : List Pt → List Pt
  | [] => [z]
  | y :: l => if z.x ≤ y.x then z :: y :: l else y :: insZ z l
def sortZ (l : List Pt) : List Pt := l.foldr insZ []
def zonesOf (i : Int) (parts : List Qd) : List Pt := (parts.filter fun q => decide (q.a = i)).map fun q => ⟨q.b, q.c⟩
def restGo (i lot ln : Int) : Int → List Pt → List Qd
  | f, [] => if f < ln then [⟨i, lot, f, ln⟩] else []
  | f, z :: l => (if f < z.x then [⟨i, lot, f, z.x⟩] else []) ++ restGo i lot ln z.y l
def restsFrom (parts : List Qd) : List Rl → List Int → Nat → List Qd
  | r :: rs, t :: ts, i => restGo i t r.ln 0 (sortZ (zonesOf i parts)) ++ restsFrom parts rs ts (i + 1)
  | _, _, _ => []
def restsR (rs : List Rl) (lots : List Int) (ys : List Pl) : List Qd × Int :=
  if chkRollsR rs lots.length ≠ 0 then ([], chkRollsR rs lots.length) else if 40 < ys.length then ([], 5)
  else if (allQ ys).all (fun p => clothB p rs) = false then ([], 3) else if NoTwice (allQ ys) then (restsFrom (allQ ys) rs lots 0, 0) else ([], 14)
/- Sorting. -/
end Go.Proofs.YtdhakoecjmaebaaGreat
/-
  Facts on a lay that is spread: each ply is cloth of its lot from the beginning to the end of the marker, spliced in zones, no cloth is used twice; the lay passes.
-/
namespace Go.Proofs.YtdhakoecjmaebaaGreat
open Go.RowKit
set_option linter.unusedSimpArgs false
set_option linter.unusedVariables false

/-- Parts from place at on, spliced in zones, to the end of the marker. -/
inductive Spliced (zs : List Pt) (len : Int) : Int → List Qd → Prop
  | last {at_ : Int} {p : Qd} : p.d = at_ → p.b < p.c → endQ p = len → Spliced zs len at_ [p]
  | more {at_ at' : Int} {p : Qd} {l : List Qd} : p.d = at_ → p.b < p.c → endQ p < len → at' = backR zs (endQ p) → at_ < at' → Spliced zs len at' l → Spliced zs len at_ (p :: l)
theorem Spliced.ne {zs : List Pt} {len at_ : Int} {l : List Qd} (h : Spliced zs len at_ l) : ∃ p r, l = p :: r ∧ p.d = at_ := by
  cases h with
  | last h1 _ _ => exact ⟨_, _, rfl, h1⟩
  | more h1 _ _ _ _ _ => exact ⟨_, _, rfl, h1⟩
/-- Each part and the places. -/
theorem Spliced.mem {zs : List Pt} {len at_ : Int} {l : List Qd} (h : Spliced zs len at_ l) : at_ ≤ len → ∀ p ∈ l, at_ ≤ p.d ∧ p.d < len ∧ endQ p ≤ len ∧ p.b < p.c := by
  induction h with
  | last h1 h2 h3 =>
    intro hl p hp
    rw [List.mem_singleton.1 hp]
    unfold endQ at h3 ⊢
    omega
  | @more at_ at' p l h1 h2 h3 h4 h5 h6 ih =>
    intro hl q hq
    have hb := back_le zs (endQ p)
    rcases List.mem_cons.1 hq with rfl | hq
    · unfold endQ at h3 ⊢
      omega
    · have := ih (by omega) q hq
      omega

section
variable (rs : List Rl) (lots : List Int) (k wd : Int)
/-- What is known of the parts that are cut and of what is left for the lot k. -/
structure Inv (P left : List Qd) : Prop where
  part : ∀ p ∈ P, clothB p rs = true
  two : NoTwice P
  rem : ∀ r ∈ left, 0 ≤ r.a ∧ r.a < (rs.length : Int) ∧ gL lots r.a.toNat = k ∧ wd ≤ (grl rs r.a.toNat).wd ∧ r.b = k ∧ 0 ≤ r.c ∧ r.c ≤ r.d ∧ r.d = (grl rs r.a.toNat).ln
  dist : left.Pairwise fun r s => r.a ≠ s.a
  far : ∀ r ∈ left, ∀ p ∈ P, p.a = r.a → p.c ≤ r.c
end
variable {rs : List Rl} {lots : List Int} {k wd : Int}
theorem Inv.tail {P left : List Qd} {r : Qd} (h : Inv rs lots k wd P (r :: left)) : Inv rs lots k wd P left :=
  ⟨h.part, h.two, fun s hs => h.rem s (List.mem_cons_of_mem _ hs), (List.pairwise_cons.1 h.dist).2, fun s hs => h.far s (List.mem_cons_of_mem _ hs)⟩
theorem Inv.cut {P left : List Qd} {r p : Qd} {n : Int} (h : Inv rs lots k wd P (r :: left)) (hn : 0 < n) (hm : n ≤ r.d - r.c) (ha : p.a = r.a) (hb : p.b = r.c) (hc : p.c = r.c + n) :
    Inv rs lots k wd (P ++ [p]) (⟨r.a, r.b, r.c + n, r.d⟩ :: left) := by
  have hr := h.rem r (List.mem_cons_self ..)
  have hd := List.pairwise_cons.1 h.dist
  refine ⟨fun q hq => ?_, ?_, fun s hs => ?_, List.pairwise_cons.2 ⟨fun s hs => hd.1 s hs, hd.2⟩, fun s hs q hq => ?_⟩
  · rcases List.mem_append.1 hq with hq | hq
    · exact h.part q hq
    · rw [List.mem_singleton.1 hq]
      unfold clothB
      rw [ha, hb, hc]
      simp only [Bool.and_eq_true, decide_eq_true_eq]
      omega
  · unfold NoTwice
    rw [List.pairwise_append]
    refine ⟨h.two, List.pairwise_singleton .., fun q hq s hs => ?_⟩
    rw [List.mem_singleton.1 hs]
    rintro ⟨c1, c2, c3⟩
    have := h.far r (List.mem_cons_self ..) q hq (by rw [c1, ha])
    omega
  · rcases List.mem_cons.1 hs with rfl | hs
    · exact ⟨hr.1, hr.2.1, hr.2.2.1, hr.2.2.2.1, hr.2.2.2.2.1, by show 0 ≤ r.c + n; omega, by show r.c + n ≤ r.d; omega, hr.2.2.2.2.2.2.2⟩
    · exact h.rem s (List.mem_cons_of_mem _ hs)
  · intro hqs
    rcases List.mem_append.1 hq with hq | hq
    · rcases List.mem_cons.1 hs with rfl | hs
      · have := h.far r (List.mem_cons_self ..) q hq hqs
        show q.c ≤ r.c + n
        omega
      · exact h.far s (List.mem_cons_of_mem _ hs) q hq hqs
    · rw [List.mem_singleton.1 hq] at hqs ⊢
      rcases List.mem_cons.1 hs with rfl | hs
      · show p.c ≤ r.c + n
        omega
      · exact absurd (by rw [← ha, hqs]) (hd.1 s hs)

/-- Everything about a lay that is spread. -/
structure LaidOk (len wd : Int) (polys : List (List Pt)) (rs : List Rl) (lots plies : List Int) (ys : List Pl) : Prop where
  ext : (extentsR len polys).2 = 0
  len1 : 1 ≤ len ∧ len ≤ 1048576
  rolls : chkRollsR rs lots.length = 0
  num : ys.length ≤ 40
  sum : (ys.length : Int) = (plies.map fun n => (n.toNat : Int)).sum
  good : ∀ y ∈ ys, Spliced (extentsR len polys).1 len 0 y.2 ∧ ∀ p ∈ y.2, clothB p rs = true ∧ gL lots p.a.toNat = y.1 ∧ wd ≤ (grl rs p.a.toNat).wd
  two : NoTwice (allQ ys)
  check : scheckR len wd polys rs lots ys = 0
  rests : restsR rs lots ys = (restsFrom (allQ ys) rs lots 0, 0)
end Go.Proofs.YtdhakoecjmaebaaGreat
