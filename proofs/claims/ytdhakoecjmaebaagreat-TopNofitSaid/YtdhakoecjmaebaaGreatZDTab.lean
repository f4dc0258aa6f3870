/-
  The walks of place.Extent, garmentref30.Same and garmentlaw30.Square.
  The walk of garmentlaw30.awake: the chapter's examples hold.
-/
import Derived.Test.YtdhakoecjmaebaaGreatZFits
import Derived.Test.YtdhakoecjmaebaaGreatZDam
import Derived.Deep.OwnRows
/- The walks of place.Extent, garmentref30.Same and garmentlaw30.Square. -/
namespace Go.Proofs.YtdhakoecjmaebaaGreat
open Go.RowKit
set_option linter.unusedSimpArgs false
set_option linter.unusedVariables false

def extIn (i : Nat) : List Pt → Nat → Int → Int
  | [], _, m => m
  | p :: r, k, m => extIn i r (k + 1) (if (i = 0 ∧ k = 0) ∨ m < p.x then p.x else m)
def extGo (l : List Sh) : List Pu → Nat → Int → Int × Int
  | [], _, m => (m, 0)
  | o :: r, i, m => if (polyR l o).2 ≠ 0 then (0, (polyR l o).2) else extGo l r (i + 1) (extIn i (polyR l o).1 0 m)
def extR (l : List Sh) (puts : List Pu) : Int × Int := extGo l puts 0 0
theorem ext_err {l : List Sh} {o : Pu} {r : List Pu} {i : Nat} {m : Int} (h : (polyR l o).2 ≠ 0) : extGo l (o :: r) i m = (0, (polyR l o).2) := by rw [extGo, if_pos h]
theorem ext_gx {l : List Sh} {o : Pu} {r : List Pu} {i : Nat} {m : Int} (h : (polyR l o).2 = 0) : extGo l (o :: r) i m = extGo l r (i + 1) (extIn i (polyR l o).1 0 m) := by rw [extGo, if_neg (by simpa using h)]
theorem ext_set {i k : Nat} {p : Pt} {r : List Pt} {m : Int} (h : (i = 0 ∧ k = 0) ∨ m < p.x) : extIn i (p :: r) k m = extIn i r (k + 1) p.x := by rw [extIn, if_pos h]
theorem ext_keep {i k : Nat} {p : Pt} {r : List Pt} {m : Int} (h : ¬ ((i = 0 ∧ k = 0) ∨ m < p.x)) : extIn i (p :: r) k m = extIn i r (k + 1) m := by rw [extIn, if_neg h]

set_option maxHeartbeats 4000000 in
theorem place_Extent (C P : Option Addr) (cc pc : Nat) (l : List Sh) (puts : List Pu) (w : World) (hs : Shapes w C l) (hl : l.length ≤ 65536) (hlen : ∀ s ∈ l, s.ps.length ≤ 1099511627776) (hpu : Puts w P puts) (hpn : puts.length ≤ 65536) :
    Calls Tryz.prog 23 #[.slice C l.length cc, .slice P puts.length pc] w (Ret (.tuple #[.int .i64 (extR l puts).1, .int .i64 (extR l puts).2]) w) := by
  have HPo := Lib.hid (fun o W (hW : Later w W) h => place_Poly_yes C cc l o W (hs.later hW) hl hlen h)
  have HPe := Lib.hid (fun o W (hW : Later w W) h => place_Poly_no C cc l o W (hs.later hW) hl hlen h)
  have Hr := Lib.hid (rfl : extR l puts = extGo l puts 0 0)
  go_enter Tryz.func23, Tryz.ntmps23
  go_wp2
  go_loopw [4, 5, 6, 15] (fun _ _ mv iv wr => ∃ (i : Nat) (m : Int), i ≤ puts.length ∧ iv = .int .i64 i ∧ mv = .int .i64 m ∧ extR l puts = extGo l (puts.drop i) i m ∧ Later w wr) (fun _ _ _ iv _ => puts.length - (intOf iv).toNat)
  case atStart => exact ⟨0, 0, by omega, rfl, rfl, rfl, Later.refl _⟩
  case round =>
    obtain ⟨i, m, hi, rfl, rfl, he, hb⟩ := hrel
    have He := Lib.hid he
    clear he
    by_cases hlt : i < puts.length
    · obtain ⟨b5, o5, rfl, e0, e1, e2, e3, e4, hok5⟩ := (hpu.later hb).at_ hlt
      have hbz : b5 < wr.heap.size := World.block_lt_of_cell? _ _ e0
      have Hd := Lib.hid (drop_cons' puts i hlt)
      generalize puts[i] = o at *
      have hi0 : (0 : Int) ≤ (i : Int) := by omega
      have hi1 : (i : Int) < (puts.length : Int) := by omega
      rcases Classical.em ((polyR l o).2 = 0) with hpo | hpo
      · have HQ := Lib.hid (fun W (hW : Later w W) => HPo.out o W hW hpo)
        have Hg := Lib.hid (ext_gx (r := puts.drop (i + 1)) (i := i) (m := m) hpo)
        have h40 := len_of_check (polyR_ok hpo).2.2
        clear hpo
        generalize (polyR l o).1 = op at *
        unfold Pu.agg at HQ
        obtain ⟨osh, ofl, oq, ox, oy⟩ := o
        simp only [] at e0 e1 e2 e3 e4 HQ
        go_wp2_with (first | (go_at_call 9; (with_reducible refine (HQ.out _ (by repeat' (with_reducible first | exact Later.refl _ | assumption | refine Later.drew ?_ | refine Later.drewN ?_ _ | refine Later.alloc ?_ _ | refine Later.put ?_ (by omega) _ | refine Later.trans ?_ (by assumption)))).mono ?_); rintro e w5 ⟨A5, c5, rfl, z1, z2, z3, hb5⟩))
        have hl5 : Later w w5 := hb.trans (((Later.refl _).alloc _).trans hb5)
        clear e0 e1 e2 e3 e4
        obtain ⟨wo, rfl⟩ : ∃ wo : World, wo = wr := ⟨_, rfl⟩
        go_loopw [6, 31] (fun mv iv wq => ∃ (k : Nat) (n : Int), k ≤ op.length ∧ iv = .int .i64 k ∧ mv = .int .i64 n ∧ extIn i op 0 m = extIn i (op.drop k) k n ∧ Later w5 wq) (fun _ iv _ => op.length - (intOf iv).toNat)
        case atStart => exact ⟨0, m, by omega, rfl, rfl, rfl, Later.refl _⟩
        case round =>
          obtain ⟨k, n, hk, rfl, rfl, he2, hb2⟩ := hrel
          have He2 := Lib.hid he2
          clear he2
          by_cases hlk : k < op.length
          · obtain ⟨b6, o6, rfl, f0, f1⟩ := (z3.later hb2).at_ hlk
            have hbz6 : b6 < wr.heap.size := World.block_lt_of_cell? _ _ f0
            have Hd2 := Lib.hid (drop_cons' op k hlk)
            generalize op[k] = pt at *
            obtain ⟨ux, uy⟩ := pt
            simp only [] at f0 f1
            have hk0 : (0 : Int) ≤ (k : Int) := by omega
            have hk1 : (k : Int) < (op.length : Int) := by omega
            go_wp2
            all_goals
              go_roundw
              case rel => first | exact ⟨k + 1, ux, by omega, by go_num, rfl, by rw [He2.out, Hd2.out]; exact ext_set (by simp only []; omega), hb2.alloc _⟩ | exact ⟨k + 1, n, by omega, by go_num, rfl, by rw [He2.out, Hd2.out]; exact ext_keep (by simp only []; omega), hb2.alloc _⟩
              case measure => simp [intOf]; omega
          · have hxx : extIn i op 0 m = n := by rw [He2.out, List.drop_eq_nil_of_le (by omega)]; rfl
            have Hxx := Lib.hid hxx
            clear hxx
            go_wp2
            go_roundw
            case rel => exact ⟨i + 1, n, by omega, by go_num, rfl, by rw [He.out, Hd.out, Hg.out, Hxx.out], hl5.trans hb2⟩
            case measure => simp [intOf]; omega
      · have HQ := Lib.hid (fun W (hW : Later w W) => HPe.out o W hW hpo)
        have Hg := Lib.hid (ext_err (r := puts.drop (i + 1)) (i := i) (m := m) hpo)
        have dd : ((polyR l o).2 != 0) = true := by simpa using hpo
        clear hpo
        generalize (polyR l o).2 = oe at *
        unfold Pu.agg at HQ
        obtain ⟨osh, ofl, oq, ox, oy⟩ := o
        simp only [] at e0 e1 e2 e3 e4 HQ
        go_wp2_with (first | (go_at_call 9; (with_reducible refine (HQ.out _ (by repeat' (with_reducible first | exact Later.refl _ | assumption | refine Later.drew ?_ | refine Later.drewN ?_ _ | refine Later.alloc ?_ _ | refine Later.put ?_ (by omega) _ | refine Later.trans ?_ (by assumption)))).mono ?_); rintro e w5 ⟨rfl, hb5⟩))
        go_ret2
        exact ⟨by rw [He.out, Hd.out, Hg.out]; rfl, (by repeat' (with_reducible first | exact Later.refl _ | assumption | refine Later.drew ?_ | refine Later.drewN ?_ _ | refine Later.alloc ?_ _ | refine Later.put ?_ (by omega) _ | refine Later.trans ?_ (by assumption)))⟩
    · go_wp2
      go_ret2
      exact ⟨by rw [He.out, List.drop_eq_nil_of_le (by omega)]; rfl, hb⟩

end Go.Proofs.YtdhakoecjmaebaaGreat

/- The walk of garmentlaw30.awake: the chapter's examples hold. -/
namespace Go.Proofs.YtdhakoecjmaebaaGreat
open Go.RowKit
set_option linter.unusedSimpArgs false
set_option linter.unusedVariables false

section
variable {W : World} {S P c1 c2 : Nat} {A1 A2 : Option Addr}
end

end Go.Proofs.YtdhakoecjmaebaaGreat
/-
  The walk of roll.Check.
-/
namespace Go.Proofs.YtdhakoecjmaebaaGreat
open Go.RowKit
set_option linter.unusedSimpArgs false
set_option linter.unusedVariables false

def toneBad (n : Int) : Bool := decide (n < -1000) || decide (1000 < n)
def tonesBad : List Int → Bool
  | [] => false
  | n :: l => if toneBad n = true then true else tonesBad l
def flawBad (ln wd : Int) (q : Qd) : Bool :=
  decide (q.a < 0) || decide (q.c < 1) || decide (ln - q.a < q.c) || decide (q.b < 0) || decide (q.d < 1) || decide (wd - q.b < q.d)
def flawsBad (ln wd : Int) : List Qd → Bool
  | [] => false
  | q :: l => if flawBad ln wd q = true then true else flawsBad ln wd l
/-- What roll.Check says of a roll, whatever its flaws. -/
def baseI (r : Rl) : Int :=
  if idB r.id = false then 1 else if r.ln < 1 ∨ 1048576 < r.ln ∨ r.wd < 1 ∨ 1048576 < r.wd then 3 else if tonesBad [r.tl, r.ta, r.tb] = true then 3 else 0
def rollI (r : Rl) : Int := if baseI r ≠ 0 then baseI r else if 20 < r.fl.length then 5 else if flawsBad r.ln r.wd r.fl = true then 3 else 0

end Go.Proofs.YtdhakoecjmaebaaGreat
/-
  The walk of damage.Hit.
  The walk of damage.Table.
-/
/- The walk of damage.Hit. -/
namespace Go.Proofs.YtdhakoecjmaebaaGreat
open Go.RowKit
set_option linter.unusedSimpArgs false
set_option linter.unusedVariables false

/-- Whether one of the flaws hits, and the error. -/
def flawGo (ps : List Pt) (d : Int) : List Qd → Bool × Int
  | [] => (false, 0)
  | f :: l => if (hitsR ps (f.a + d) f.b f.c f.d).2 ≠ 0 then (false, (hitsR ps (f.a + d) f.b f.c f.d).2) else if (hitsR ps (f.a + d) f.b f.c f.d).1 = true then (true, 0) else flawGo ps d l
def rollHit (ps : List Pt) (x : Qd) (r : Rl) : Bool × Int := if rollI r ≠ 0 then (false, rollI r) else flawGo ps (x.d - x.b) r.fl
def gq (qs : List Qd) (j : Nat) : Qd := qs.getD j ⟨0, 0, 0, 0⟩
def gr (rs : List Rl) (j : Nat) : Rl := rs.getD j ⟨⟨#[]⟩, 0, 0, 0, 0, 0, none, 0, []⟩
/-- What damage.Hit returns. -/
def hitR (qs : List Qd) (rs : List Rl) (ps : List Pt) : Bool × Int :=
  if (carrierR qs ps).2 ≠ 0 then (false, (carrierR qs ps).2)
  else if (gq qs (carrierR qs ps).1.toNat).a < 0 ∨ (rs.length : Int) ≤ (gq qs (carrierR qs ps).1.toNat).a then (false, 3)
  else rollHit ps (gq qs (carrierR qs ps).1.toNat) (gr rs (gq qs (carrierR qs ps).1.toNat).a.toNat)

section
variable (A B C : Option Addr) (c cb cc : Nat) (lot : Int) (qs : List Qd) (rs : List Rl) (ps : List Pt) (w : World)

end

end Go.Proofs.YtdhakoecjmaebaaGreat

/- The walk of damage.Table. -/
namespace Go.Proofs.YtdhakoecjmaebaaGreat
open Go.RowKit
set_option linter.unusedSimpArgs false
set_option linter.unusedVariables false

def tabRows (rs : List Rl) (polys : List (List Pt)) (ys : List Py) : List (List Bool) := ys.map fun y => polys.map fun q => (hitR y.parts rs q).1

/-- A slice of bools. -/
def BoolsV (w : World) (v : Value) (bs : List Bool) : Prop :=
  ∃ A c, v = .slice A bs.length c ∧ bs.length ≤ c ∧ (0 < bs.length → ∃ b o, A = some ⟨b, o, none⟩ ∧ ∀ i x, bs[i]? = some x → w.cell? ⟨b, o + i, none⟩ = some (.bool x))
theorem BoolsV.later {w w' : World} {v : Value} {bs : List Bool} (h : BoolsV w v bs) (k : Later w w') : BoolsV w' v bs :=
  let ⟨A, c, e, h1, h2⟩ := h; ⟨A, c, e, h1, fun hn => let ⟨b, o, e', h3⟩ := h2 hn; ⟨b, o, e', fun i x hx => k.cell (h3 i x hx)⟩⟩
def Tab (w : World) (A : Option Addr) (rows : List (List Bool)) : Prop :=
  0 < rows.length → ∃ b o, A = some ⟨b, o, none⟩ ∧ ∀ i r, rows[i]? = some r → ∃ v, w.cell? ⟨b, o + i, none⟩ = some v ∧ BoolsV w v r
theorem Tab.later {w w' : World} {A : Option Addr} {rows : List (List Bool)} (h : Tab w A rows) (k : Later w w') : Tab w' A rows :=
  fun hn => let ⟨b, o, e, h1⟩ := h hn; ⟨b, o, e, fun i r hr => let ⟨v, hv, hb⟩ := h1 i r hr; ⟨v, k.cell hv, hb.later k⟩⟩
theorem rowIs_later {w w' : World} {b : Nat} {t : TypeId} {n : Nat} {f : Nat → Value} (h : w.rowIs b t n f) (k : Later w w') : w'.rowIs b t n f := h.of_block (k.block b h.lt)

/-- The table's block and its rows behind k plies. -/
def TabRel (w wr : World) (T n m k : Nat) (rs : List Rl) (polys : List (List Pt)) (ys : List Py) : Prop :=
  ∃ F : Nat → Nat, wr.rowIs T 111 n (fun j => if j < k then .slice (some ⟨F j, 0, none⟩) m m else .slice none 0 0) ∧
    ∀ j y, ys[j]? = some y → j < k → wr.rowIs (F j) 4 m (fun i => .bool (hitR y.parts rs (polys.getD i [])).1) ∧ F j ≠ T ∧ w.heap.size ≤ F j
theorem TabRel.later {w wr w' : World} {T n m k : Nat} {rs : List Rl} {polys : List (List Pt)} {ys : List Py} (h : TabRel w wr T n m k rs polys ys) (hk : Later wr w') : TabRel w w' T n m k rs polys ys :=
  let ⟨F, h1, h2⟩ := h; ⟨F, rowIs_later h1 hk, fun j y hy hj => ⟨rowIs_later (h2 j y hy hj).1 hk, (h2 j y hy hj).2⟩⟩
theorem TabRel.done {w wr : World} {T m : Nat} {rs : List Rl} {polys : List (List Pt)} {ys : List Py} (hm : m = polys.length) (h : TabRel w wr T ys.length m ys.length rs polys ys) : Tab wr (some ⟨T, 0, none⟩) (tabRows rs polys ys) := by
  subst hm
  intro h0
  obtain ⟨F, h1, h2⟩ := h
  refine ⟨T, 0, rfl, fun i r hr => ?_⟩
  simp only [tabRows, List.getElem?_map, Option.map_eq_some_iff] at hr
  obtain ⟨y, hy, rfl⟩ := hr
  have hi : i < ys.length := (List.getElem?_eq_some_iff.1 hy).1
  have h3 := h1.cell hi
  rw [if_pos hi] at h3
  refine ⟨_, by rw [Nat.zero_add]; exact h3, some ⟨F i, 0, none⟩, polys.length, by simp, by simp, fun hp => ⟨F i, 0, rfl, fun j x hx => ?_⟩⟩
  simp only [List.getElem?_map, Option.map_eq_some_iff] at hx
  obtain ⟨q, hq, rfl⟩ := hx
  have hj : j < polys.length := (List.getElem?_eq_some_iff.1 hq).1
  have h4 := (h2 i y hy hi).1.cell hj
  rw [Nat.zero_add, h4]
  congr 2
  rw [List.getD_eq_getElem?_getD, hq]
  rfl
/-- One more row is done. -/
theorem TabRel.step {w wr wq : World} {T n m k g : Nat} {rs : List Rl} {polys : List (List Pt)} {ys : List Py} {y : Py} (hy : ys[k]? = some y) (F : Nat → Nat)
    (h1 : wq.rowIs T 111 n (fun j => if j = k then .slice (some ⟨g, 0, none⟩) m m else if j < k then .slice (some ⟨F j, 0, none⟩) m m else .slice none 0 0))
    (h2 : ∀ j y, ys[j]? = some y → j < k → wq.rowIs (F j) 4 m (fun i => .bool (hitR y.parts rs (polys.getD i [])).1) ∧ F j ≠ T ∧ w.heap.size ≤ F j)
    (hg : wq.rowIs g 4 m (fun i => if i < m then .bool (hitR y.parts rs (polys.getD i [])).1 else .bool false)) (hgT : g ≠ T) (hgw : w.heap.size ≤ g) : TabRel w wq T n m (k + 1) rs polys ys := by
  refine ⟨fun j => if j = k then g else F j, h1.congr fun j hj => ?_, fun j y' hy' hj => ?_⟩
  · by_cases h : j = k
    · subst h; simp
    · rw [if_neg h]
      by_cases h' : j < k
      · rw [if_pos h', if_pos (by omega)]; simp only [if_neg h]
      · rw [if_neg h', if_neg (by omega)]
  · by_cases h : j = k
    · subst h
      rw [hy] at hy'
      cases hy'
      simp only [if_true]
      exact ⟨hg.congr fun i hi => by rw [if_pos hi], hgT, hgw⟩
    · simp only [if_neg h]
      exact h2 j y' hy' (by omega)

/-- The state inside the row of ply k, behind i polygons: the ply's own copy in block G, the new row in the next. -/
def InRel (w wq : World) (T n m k G : Nat) (F : Nat → Nat) (rs : List Rl) (polys : List (List Pt)) (ys : List Py) (y : Py) (i : Nat) : Prop :=
  wq.cell? ⟨G, 0, none⟩ = some (.int .i64 y.lot) ∧ wq.cell? ⟨G, 1, none⟩ = some (.slice y.pa y.parts.length y.pc) ∧
  wq.rowIs T 111 n (fun j => if j = k then .slice (some ⟨G + 1, 0, none⟩) m m else if j < k then .slice (some ⟨F j, 0, none⟩) m m else .slice none 0 0) ∧
  (∀ j y', ys[j]? = some y' → j < k → wq.rowIs (F j) 4 m (fun i => .bool (hitR y'.parts rs (polys.getD i [])).1) ∧ F j ≠ T ∧ w.heap.size ≤ F j ∧ F j < G) ∧
  wq.rowIs (G + 1) 4 m (fun j => if j < i then .bool (hitR y.parts rs (polys.getD j [])).1 else .bool false) ∧ T < G
theorem InRel.later {w wq w' : World} {T n m k G : Nat} {F : Nat → Nat} {rs : List Rl} {polys : List (List Pt)} {ys : List Py} {y : Py} {i : Nat} (h : InRel w wq T n m k G F rs polys ys y i) (hk : Later wq w') : InRel w w' T n m k G F rs polys ys y i :=
  ⟨hk.cell h.1, hk.cell h.2.1, rowIs_later h.2.2.1 hk, fun j y' hy hj => ⟨rowIs_later (h.2.2.2.1 j y' hy hj).1 hk, (h.2.2.2.1 j y' hy hj).2⟩, rowIs_later h.2.2.2.2.1 hk, h.2.2.2.2.2⟩
theorem InRel.put {w wq : World} {T n m k G : Nat} {F : Nat → Nat} {rs : List Rl} {polys : List (List Pt)} {ys : List Py} {y : Py} {i : Nat} (h : InRel w wq T n m k G F rs polys ys y i) {x : Bool} (hx : x = (hitR y.parts rs (polys.getD i [])).1) :
    InRel w (wq.setCell ⟨G + 1, i, none⟩ (.bool x)) T n m k G F rs polys ys y (i + 1) := by
  obtain ⟨h1, h2, h3, h4, h5, h6⟩ := h
  refine ⟨?_, ?_, h3.setOther (by simp; omega) _, fun j y' hy hj => ⟨(h4 j y' hy hj).1.setOther (by have := (h4 j y' hy hj).2.2.2; simp; omega) _, (h4 j y' hy hj).2⟩, ?_, h6⟩
  · rw [World.cell?_setCell_far _ _ _ _ (by simp)]; exact h1
  · rw [World.cell?_setCell_far _ _ _ _ (by simp)]; exact h2
  · refine (h5.set i _).congr fun j hj => ?_
    by_cases e : j = i
    · subst e; rw [if_pos rfl, if_pos (by omega), hx]
    · rw [if_neg e]
      by_cases e' : j < i
      · rw [if_pos e', if_pos (by omega)]
      · rw [if_neg e', if_neg (by omega)]
theorem InRel.done {w wq : World} {T n m k G : Nat} {F : Nat → Nat} {rs : List Rl} {polys : List (List Pt)} {ys : List Py} {y : Py} (h : InRel w wq T n m k G F rs polys ys y m) (hy : ys[k]? = some y) (hG : w.heap.size ≤ G) : TabRel w wq T n m (k + 1) rs polys ys := by
  obtain ⟨h1, h2, h3, h4, h5, h6⟩ := h
  exact TabRel.step (wr := w) hy F h3 (fun j y' hy hj => ⟨(h4 j y' hy hj).1, (h4 j y' hy hj).2.1, (h4 j y' hy hj).2.2.1⟩) h5 (by omega) (by omega)

theorem Polys.at_ {w : World} {A : Option Addr} {l : List (List Pt)} (h : Polys w A l) {k : Nat} (hk : k < l.length) :
    ∃ b o A' c', A = some ⟨b, o, none⟩ ∧ w.cell? ⟨b, o + k, none⟩ = some (.slice A' (l[k]).length c') ∧ (l[k]).length ≤ c' ∧ Pts w A' (l[k]) := by
  obtain ⟨b, o, e, hc⟩ := h (by omega)
  obtain ⟨v, hv, A', c', rfl, h1, h2, h3⟩ := hc k _ (List.getElem?_eq_getElem hk)
  exact ⟨b, o, A', c', e, hv, h1, h3⟩

end Go.Proofs.YtdhakoecjmaebaaGreat
