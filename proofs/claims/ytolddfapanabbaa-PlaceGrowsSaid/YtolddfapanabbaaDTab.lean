/-
  The walk of damage.Table.
-/
import Derived.Test.YtolddfapanabbaaDHit
import Derived.Deep.OwnRows
namespace Go.Proofs.Ytolddfapanabbaa
open Go.RowKit
set_option linter.unusedSimpArgs false
set_option linter.unusedVariables false

def rowErr (qs : List Qd) (rs : List Rl) : List (List Pt) → Int
  | [] => 0
  | p :: l => if (hitR qs rs p).2 ≠ 0 then (hitR qs rs p).2 else rowErr qs rs l
def tabErr (rs : List Rl) (polys : List (List Pt)) : List Py → Int
  | [] => 0
  | y :: l => if rowErr y.parts rs polys ≠ 0 then rowErr y.parts rs polys else tabErr rs polys l
def tabE (rs : List Rl) (polys : List (List Pt)) (ys : List Py) : Int := if 40 < ys.length ∨ 60 < polys.length then 5 else tabErr rs polys ys
def tabRows (rs : List Rl) (polys : List (List Pt)) (ys : List Py) : List (List Bool) := ys.map fun y => polys.map fun q => (hitR y.parts rs q).1

theorem row_bad {qs : List Qd} {rs : List Rl} {p : List Pt} {l : List (List Pt)} (h : (hitR qs rs p).2 ≠ 0) : rowErr qs rs (p :: l) = (hitR qs rs p).2 := by rw [rowErr, if_pos h]
theorem row_good {qs : List Qd} {rs : List Rl} {p : List Pt} {l : List (List Pt)} (h : (hitR qs rs p).2 = 0) : rowErr qs rs (p :: l) = rowErr qs rs l := by rw [rowErr, if_neg (by simpa using h)]
theorem tab_bad {rs : List Rl} {polys : List (List Pt)} {y : Py} {l : List Py} (h : rowErr y.parts rs polys ≠ 0) : tabErr rs polys (y :: l) = rowErr y.parts rs polys := by rw [tabErr, if_pos h]
theorem tab_good {rs : List Rl} {polys : List (List Pt)} {y : Py} {l : List Py} (h : rowErr y.parts rs polys = 0) : tabErr rs polys (y :: l) = tabErr rs polys l := by rw [tabErr, if_neg (by simpa using h)]

/-- A slice of bools. -/
def BoolsV (w : World) (v : Value) (bs : List Bool) : Prop :=
  ∃ A c, v = .slice A bs.length c ∧ bs.length ≤ c ∧ (0 < bs.length → ∃ b o, A = some ⟨b, o, none⟩ ∧ ∀ i x, bs[i]? = some x → w.cell? ⟨b, o + i, none⟩ = some (.bool x))
theorem BoolsV.later {w w' : World} {v : Value} {bs : List Bool} (h : BoolsV w v bs) (k : Later w w') : BoolsV w' v bs :=
  let ⟨A, c, e, h1, h2⟩ := h; ⟨A, c, e, h1, fun hn => let ⟨b, o, e', h3⟩ := h2 hn; ⟨b, o, e', fun i x hx => k.cell (h3 i x hx)⟩⟩
def Tab (w : World) (A : Option Addr) (rows : List (List Bool)) : Prop :=
  0 < rows.length → ∃ b o, A = some ⟨b, o, none⟩ ∧ ∀ i r, rows[i]? = some r → ∃ v, w.cell? ⟨b, o + i, none⟩ = some v ∧ BoolsV w v r
theorem Tab.later {w w' : World} {A : Option Addr} {rows : List (List Bool)} (h : Tab w A rows) (k : Later w w') : Tab w' A rows :=
  fun hn => let ⟨b, o, e, h1⟩ := h hn; ⟨b, o, e, fun i r hr => let ⟨v, hv, hb⟩ := h1 i r hr; ⟨v, k.cell hv, hb.later k⟩⟩
def TabPost (e0 : Int) (rows : List (List Bool)) (w : World) (e : Ending) (w' : World) : Prop :=
  (e0 = 0 ∧ ∃ A c, e = .returned (.tuple #[.slice A rows.length c, .int .i64 0]) ∧ rows.length ≤ c ∧ Tab w' A rows ∧ Later w w') ∨
  (e0 ≠ 0 ∧ e = .returned (.tuple #[.slice none 0 0, .int .i64 e0]) ∧ Later w w')

theorem rowIs_later {w w' : World} {b : Nat} {t : TypeId} {n : Nat} {f : Nat → Value} (h : w.rowIs b t n f) (k : Later w w') : w'.rowIs b t n f := h.of_block (k.block b h.lt)

/-- The table's block and its rows behind k plies. -/
def TabRel (w wr : World) (T n m k : Nat) (rs : List Rl) (polys : List (List Pt)) (ys : List Py) : Prop :=
  ∃ F : Nat → Nat, wr.rowIs T 60 n (fun j => if j < k then .slice (some ⟨F j, 0, none⟩) m m else .slice none 0 0) ∧
    ∀ j y, ys[j]? = some y → j < k → wr.rowIs (F j) 4 m (fun i => .bool (hitR y.parts rs (polys.getD i [])).1) ∧ F j ≠ T ∧ w.heap.size ≤ F j
theorem TabRel.later {w wr w' : World} {T n m k : Nat} {rs : List Rl} {polys : List (List Pt)} {ys : List Py} (h : TabRel w wr T n m k rs polys ys) (hk : Later wr w') : TabRel w w' T n m k rs polys ys :=
  let ⟨F, h1, h2⟩ := h; ⟨F, rowIs_later h1 hk, fun j y hy hj => ⟨rowIs_later (h2 j y hy hj).1 hk, (h2 j y hy hj).2⟩⟩
theorem TabRel.done {w wr : World} {T m : Nat} {rs : List Rl} {polys : List (List Pt)} {ys : List Py} (hm : m = polys.length) (h : TabRel w wr T ys.length m ys.length rs polys ys) : Tab wr (some ⟨T, 0, none⟩) (tabRows rs polys ys) := by
  subst hm
  intro h0
  obtain ⟨F, h1, h2⟩ := h
  refine ⟨T, 0, rfl, fun i r hr => ?_⟩
  simp only [tabRows, List.getElem?_map, Option.map_eq_some_iff] at hr
  obtain ⟨y, hy, rfl⟩ := hr
  have hi : i < ys.length := (List.getElem?_eq_some_iff.1 hy).1
  have h3 := h1.cell hi
  rw [if_pos hi] at h3
  refine ⟨_, by rw [Nat.zero_add]; exact h3, some ⟨F i, 0, none⟩, polys.length, by simp, by simp, fun hp => ⟨F i, 0, rfl, fun j x hx => ?_⟩⟩
  simp only [List.getElem?_map, Option.map_eq_some_iff] at hx
  obtain ⟨q, hq, rfl⟩ := hx
  have hj : j < polys.length := (List.getElem?_eq_some_iff.1 hq).1
  have h4 := (h2 i y hy hi).1.cell hj
  rw [Nat.zero_add, h4]
  congr 2
  rw [List.getD_eq_getElem?_getD, hq]
  rfl
/-- One more row is done. -/
theorem TabRel.step {w wr wq : World} {T n m k g : Nat} {rs : List Rl} {polys : List (List Pt)} {ys : List Py} {y : Py} (hy : ys[k]? = some y) (F : Nat → Nat)
    (h1 : wq.rowIs T 60 n (fun j => if j = k then .slice (some ⟨g, 0, none⟩) m m else if j < k then .slice (some ⟨F j, 0, none⟩) m m else .slice none 0 0))
    (h2 : ∀ j y, ys[j]? = some y → j < k → wq.rowIs (F j) 4 m (fun i => .bool (hitR y.parts rs (polys.getD i [])).1) ∧ F j ≠ T ∧ w.heap.size ≤ F j)
    (hg : wq.rowIs g 4 m (fun i => if i < m then .bool (hitR y.parts rs (polys.getD i [])).1 else .bool false)) (hgT : g ≠ T) (hgw : w.heap.size ≤ g) : TabRel w wq T n m (k + 1) rs polys ys := by
  refine ⟨fun j => if j = k then g else F j, h1.congr fun j hj => ?_, fun j y' hy' hj => ?_⟩
  · by_cases h : j = k
    · subst h; simp
    · rw [if_neg h]
      by_cases h' : j < k
      · rw [if_pos h', if_pos (by omega)]; simp only [if_neg h]
      · rw [if_neg h', if_neg (by omega)]
  · by_cases h : j = k
    · subst h
      rw [hy] at hy'
      cases hy'
      simp only [if_true]
      exact ⟨hg.congr fun i hi => by rw [if_pos hi], hgT, hgw⟩
    · simp only [if_neg h]
      exact h2 j y' hy' (by omega)

/-- The state inside the row of ply k, behind i polygons: the ply's own copy in block G, the new row in the next. -/
def InRel (w wq : World) (T n m k G : Nat) (F : Nat → Nat) (rs : List Rl) (polys : List (List Pt)) (ys : List Py) (y : Py) (i : Nat) : Prop :=
  wq.cell? ⟨G, 0, none⟩ = some (.int .i64 y.lot) ∧ wq.cell? ⟨G, 1, none⟩ = some (.slice y.pa y.parts.length y.pc) ∧
  wq.rowIs T 60 n (fun j => if j = k then .slice (some ⟨G + 1, 0, none⟩) m m else if j < k then .slice (some ⟨F j, 0, none⟩) m m else .slice none 0 0) ∧
  (∀ j y', ys[j]? = some y' → j < k → wq.rowIs (F j) 4 m (fun i => .bool (hitR y'.parts rs (polys.getD i [])).1) ∧ F j ≠ T ∧ w.heap.size ≤ F j ∧ F j < G) ∧
  wq.rowIs (G + 1) 4 m (fun j => if j < i then .bool (hitR y.parts rs (polys.getD j [])).1 else .bool false) ∧ T < G
theorem InRel.later {w wq w' : World} {T n m k G : Nat} {F : Nat → Nat} {rs : List Rl} {polys : List (List Pt)} {ys : List Py} {y : Py} {i : Nat} (h : InRel w wq T n m k G F rs polys ys y i) (hk : Later wq w') : InRel w w' T n m k G F rs polys ys y i :=
  ⟨hk.cell h.1, hk.cell h.2.1, rowIs_later h.2.2.1 hk, fun j y' hy hj => ⟨rowIs_later (h.2.2.2.1 j y' hy hj).1 hk, (h.2.2.2.1 j y' hy hj).2⟩, rowIs_later h.2.2.2.2.1 hk, h.2.2.2.2.2⟩
theorem InRel.put {w wq : World} {T n m k G : Nat} {F : Nat → Nat} {rs : List Rl} {polys : List (List Pt)} {ys : List Py} {y : Py} {i : Nat} (h : InRel w wq T n m k G F rs polys ys y i) {x : Bool} (hx : x = (hitR y.parts rs (polys.getD i [])).1) :
    InRel w (wq.setCell ⟨G + 1, i, none⟩ (.bool x)) T n m k G F rs polys ys y (i + 1) := by
  obtain ⟨h1, h2, h3, h4, h5, h6⟩ := h
  refine ⟨?_, ?_, h3.setOther (by simp; omega) _, fun j y' hy hj => ⟨(h4 j y' hy hj).1.setOther (by have := (h4 j y' hy hj).2.2.2; simp; omega) _, (h4 j y' hy hj).2⟩, ?_, h6⟩
  · rw [World.cell?_setCell_far _ _ _ _ (by simp)]; exact h1
  · rw [World.cell?_setCell_far _ _ _ _ (by simp)]; exact h2
  · refine (h5.set i _).congr fun j hj => ?_
    by_cases e : j = i
    · subst e; rw [if_pos rfl, if_pos (by omega), hx]
    · rw [if_neg e]
      by_cases e' : j < i
      · rw [if_pos e', if_pos (by omega)]
      · rw [if_neg e', if_neg (by omega)]
theorem InRel.done {w wq : World} {T n m k G : Nat} {F : Nat → Nat} {rs : List Rl} {polys : List (List Pt)} {ys : List Py} {y : Py} (h : InRel w wq T n m k G F rs polys ys y m) (hy : ys[k]? = some y) (hG : w.heap.size ≤ G) : TabRel w wq T n m (k + 1) rs polys ys := by
  obtain ⟨h1, h2, h3, h4, h5, h6⟩ := h
  exact TabRel.step (wr := w) hy F h3 (fun j y' hy hj => ⟨(h4 j y' hy hj).1, (h4 j y' hy hj).2.1, (h4 j y' hy hj).2.2.1⟩) h5 (by omega) (by omega)

theorem info_row : (Try.prog.info? 60).map (fun i => (i.zero, i.size, i.bytes)) = some (some (.slice none 0 0), 1, 24) := by kernel_rfl
theorem info_bool : (Try.prog.info? 4).map (fun i => (i.zero, i.size, i.bytes)) = some (some (.bool false), 1, 1) := by kernel_rfl

def PtsOk (l : List (List Pt)) : Prop := ∀ p ∈ l, p.length ≤ 1099511627776
theorem Polys.at_ {w : World} {A : Option Addr} {l : List (List Pt)} (h : Polys w A l) {k : Nat} (hk : k < l.length) :
    ∃ b o A' c', A = some ⟨b, o, none⟩ ∧ w.cell? ⟨b, o + k, none⟩ = some (.slice A' (l[k]).length c') ∧ (l[k]).length ≤ c' ∧ Pts w A' (l[k]) := by
  obtain ⟨b, o, e, hc⟩ := h (by omega)
  obtain ⟨v, hv, A', c', rfl, h1, h2, h3⟩ := hc k _ (List.getElem?_eq_getElem hk)
  exact ⟨b, o, A', c', e, hv, h1, h3⟩

set_option maxHeartbeats 4000000 in
theorem damage_Table_ok (P C Q S1 S2 : Option Addr) (pc cc qc n1 c1 n2 c2 : Nat) (l0 l1 l2 l3 : Int) (ys : List Py) (rs : List Rl) (polys : List (List Pt)) (w : World)
    (hy : Plys w P ys) (hrs : Rolls w C rs) (hps : Polys w Q polys) (hrl : rs.length ≤ 65536) (hparts : ∀ y ∈ ys, y.parts.length ≤ 65536) (hpl : PtsOk polys) (h40 : ys.length ≤ 40) (h60 : polys.length ≤ 60) :
    Calls Try.prog 21 #[.agg #[.int .i64 l0, .int .i64 l1, .int .i64 l2, .int .i64 l3, .slice S1 n1 c1, .slice S2 n2 c2, .slice P ys.length pc], .slice C rs.length cc, .slice Q polys.length qc] w
      (TabPost (tabErr rs polys ys) (tabRows rs polys ys) w) := by
  obtain ⟨i0, hi, hz0, hz1, hz2⟩ := info_parts info_row
  obtain ⟨j0, hj, hy0, hy1, hy2⟩ := info_parts info_bool
  have hmk := fun W => run_make_rows (P := Try.prog) 47 60 i0 _ Try.underlying47 hi hz0 ys.length (by rw [hz2]; omega) (by omega) W
  have hmk2 := fun W => run_make_rows (P := Try.prog) 60 4 j0 _ Try.underlying60 hj hy0 polys.length (by rw [hy2]; omega) (by omega) W
  rw [hz1] at hmk
  rw [hy1] at hmk2
  simp only [Nat.mul_one] at hmk hmk2
  clear hi hz0 hz1 hz2 hj hy0 hy1 hy2
  have d40 : decide ((40 : Int) < (ys.length : Int)) = false := by simp; omega
  have d60 : decide ((60 : Int) < (polys.length : Int)) = false := by simp; omega
  go_enter Try.func21, Try.ntmps21
  go_wp2
  refine name_world (fun W9 hW9 => ?_)
  have hT : W9.rowIs (w.heap.size + 1) 60 ys.length (fun _ => .slice none 0 0) := by
    rw [hW9]
    have := World.rowIs_made (w.alloc (.cells #[.int .i64 l0, .int .i64 l1, .int .i64 l2, .int .i64 l3, .slice S1 n1 c1, .slice S2 n2 c2, .slice P ys.length pc] 45)) (.slice none 0 0) ys.length 60
    rw [World.size_alloc] at this
    exact this
  have hl9 : Later w W9 := by rw [hW9]; exact (by repeat' (first | exact Later.refl _ | assumption | refine Later.drew ?_ | refine Later.drewN ?_ _ | refine Later.alloc ?_ _ | refine Later.put ?_ (by omega) _ | refine Later.trans ?_ (by assumption)))
  clear hW9 hmk d40 d60
  have hTw : w.heap.size ≤ w.heap.size + 1 := by omega
  generalize hTe : w.heap.size + 1 = T at *
  clear hTe
  go_loopw [31] (fun iv wr => ∃ k : Nat, k ≤ ys.length ∧ iv = .int .i64 k ∧ tabErr rs polys ys = tabErr rs polys (ys.drop k) ∧ Later w wr ∧ TabRel w wr T ys.length polys.length k rs polys ys) (fun iv _ => ys.length - (intOf iv).toNat)
  case atStart => exact ⟨0, by omega, rfl, rfl, hl9, fun _ => 0, hT.congr (fun j hj => by simp), fun j y _ hj => by omega⟩
  case round =>
    clear hT hl9
    obtain ⟨k, hk, rfl, he, hb, F, hT, hF⟩ := hrel
    have He := Lib.hid he
    clear he
    by_cases hlt : k < ys.length
    · have hokw : PyOk w ys[k] := by obtain ⟨_, _, _, _, _, h⟩ := hy.at_ hlt; exact h
      obtain ⟨bb, ob, rfl, e1, e2, hok⟩ := (hy.later hb).at_ hlt
      have hbz : bb < wr.heap.size := World.block_lt_of_cell? _ _ e1
      have hTz := hT.lt
      have hwz := hb.size
      have c1 := hT.cell hlt
      simp only [Nat.lt_irrefl, if_false] at c1
      have f1 := hT.frozen k
      have Hd := Lib.hid (drop_cons' ys k hlt)
      have Hy := Lib.hid (List.getElem?_eq_getElem hlt)
      have hpn := hparts _ (List.getElem_mem hlt)
      generalize ys[k] = y at *
      obtain ⟨lot, pa, pc', parts⟩ := y
      simp only [] at e1 e2 hpn
      obtain ⟨hpc, hpm, hqd, hqi⟩ := hokw
      simp only [] at hpc hpm hqd hqi
      clear hok
      have hk0 : (0 : Int) ≤ (k : Int) := by omega
      have hk1 : (k : Int) < (ys.length : Int) := by omega
      go_wp2
      refine name_world (fun W2 hW2 => ?_)
      have hl2 : Later w W2 := by rw [hW2]; exact (by repeat' (first | exact Later.refl _ | assumption | refine Later.drew ?_ | refine Later.drewN ?_ _ | refine Later.alloc ?_ _ | refine Later.put ?_ (by omega) _ | refine Later.trans ?_ (by assumption)))
      have hTG : T ≠ wr.heap.size := by omega
      have hTG1 : T ≠ wr.heap.size + 1 := by omega
      have hI : InRel w W2 T ys.length polys.length k wr.heap.size F rs polys ys ⟨lot, pa, pc', parts⟩ 0 := by
        rw [hW2]
        refine ⟨by simp [go_sem, hTG], by simp [go_sem, hTG], ?_, ?_, ?_, hTz⟩
        · exact ((hT.set k _).alloc _).alloc _
        · intro j y' hy' hj
          obtain ⟨q1, q2, q3⟩ := hF j y' hy' hj
          exact ⟨((q1.setOther (a := ⟨T, k, none⟩) q2 _).alloc _).alloc _, q2, q3, q1.lt⟩
        · have := World.rowIs_made ((wr.setCell ⟨T, k, none⟩ (.slice (some ⟨wr.heap.size + 1, 0, none⟩) polys.length polys.length)).alloc (.cells #[.int .i64 lot, .slice pa parts.length pc'] 24)) (.bool false) polys.length 4
          rw [show ((wr.setCell ⟨T, k, none⟩ (.slice (some ⟨wr.heap.size + 1, 0, none⟩) polys.length polys.length)).alloc (.cells #[.int .i64 lot, .slice pa parts.length pc'] 24)).heap.size = wr.heap.size + 1 by simp] at this
          exact this.congr (fun j hj => by simp)
      clear hW2 hmk2 c1 f1 e1 e2 hT hF hbz hTG hTG1
      have hGw : w.heap.size ≤ wr.heap.size := hwz
      generalize wr.heap.size = G at *
      have HH := Lib.hid (fun (A' : Option Addr) (c' : Nat) (ps : List Pt) (W : World) (h1 : ps.length ≤ 1099511627776) (h2 : ps.length ≤ c') (h3 : Pts W A' ps) (h4 : Qds W pa parts) (h5 : Rolls W C rs) => damage_Hit A' pa C c' pc' cc lot parts rs ps W h1 h2 h3 hpn hpc h4 h5 hrl)
      obtain ⟨wo, rfl⟩ : ∃ wo : World, wo = wr := ⟨_, rfl⟩
      go_loopw [44] (fun iv wq => ∃ i : Nat, i ≤ polys.length ∧ iv = .int .i64 i ∧ rowErr parts rs polys = rowErr parts rs (polys.drop i) ∧ Later w wq ∧ InRel w wq T ys.length polys.length k G F rs polys ys ⟨lot, pa, pc', parts⟩ i) (fun iv _ => polys.length - (intOf iv).toNat)
      case atStart => exact ⟨0, by omega, rfl, rfl, hl2, hI⟩
      case round =>
        clear hI hl2
        obtain ⟨i, hi, rfl, he, hb2, hI⟩ := hrel
        have hq2 := hqd.later hb2
        have He2 := Lib.hid he
        clear he
        by_cases hli : i < polys.length
        · obtain ⟨bq, oq, A', c', rfl, k1, k2, k3⟩ := (hps.later hb2).at_ hli
          have Hd2 := Lib.hid (drop_cons' polys i hli)
          have Hg := Lib.hid (show polys.getD i [] = polys[i] by simp [hli])
          have hpn2 := hpl _ (List.getElem_mem hli)
          generalize polys[i] = ps at *
          have hbz : bq < wr.heap.size := World.block_lt_of_cell? _ _ k1
          have g0 := hI.1
          have g1 := hI.2.1
          simp only [] at g0 g1
          have hG1 := World.block_lt_of_cell? _ _ g0
          have hrs2 := hrs.later hb2
          have HH2 := Lib.hid (HH.out A' c' ps wr hpn2 k2 k3 hq2 hrs2)
          have hi0 : (0 : Int) ≤ (i : Int) := by omega
          have hi1 : (i : Int) < (polys.length : Int) := by omega
          rcases h2 : hitR parts rs ps with ⟨hb0, he0⟩
          rw [h2] at HH2
          have H2 := Lib.hid h2
          clear h2
          rcases Classical.em (he0 = 0) with h0 | h0
          · subst h0
            go_wp2_with (first | (go_at_call 18; refine HH2.out.mono ?_; rintro e w5 ⟨rfl, hb5⟩; have t0 := (hI.later hb5).2.2.1.cell hlt; have r0 := (hI.later hb5).2.2.2.2.1.cell hli; have rf := (hI.later hb5).2.2.2.2.1.frozen i; simp only [if_true, Nat.lt_irrefl, if_false] at t0 r0))
            go_roundw
            case rel => exact ⟨i + 1, by omega, by go_num, by rw [He2.out, Hd2.out, row_good (by rw [H2.out])], (hb2.trans hb5).put (by omega) _, (hI.later hb5).put (by rw [Hg.out, H2.out])⟩
            case measure => simp [intOf]; omega
          · have d0 : (he0 != 0) = true := by simpa using h0
            go_wp2_with (first | (go_at_call 18; refine HH2.out.mono ?_; rintro e w5 ⟨rfl, hb5⟩))
            go_ret2
            have hre : rowErr parts rs polys = he0 := by rw [He2.out, Hd2.out, row_bad (by rw [H2.out]; exact h0), H2.out]
            have hte : tabErr rs polys ys = he0 := by rw [He.out, Hd.out, tab_bad (by show rowErr parts rs polys ≠ 0; rw [hre]; exact h0)]; exact hre
            exact .inr ⟨by rw [hte]; exact h0, by rw [hte]; rfl, hb2.trans hb5⟩
        · have hie : i = polys.length := by omega
          subst hie
          have h0 : rowErr parts rs polys = 0 := by rw [He2.out, List.drop_eq_nil_of_le (by omega)]; rfl
          have H0 := Lib.hid h0
          clear h0 He2
          go_wp2
          go_roundw
          case rel => exact ⟨k + 1, by omega, by go_num, by rw [He.out, Hd.out, tab_good H0.out], hb2, hI.done Hy.out hGw⟩
          case measure => simp [intOf]; omega
    · have hke : k = ys.length := by omega
      subst hke
      have h0 : tabErr rs polys ys = 0 := by rw [He.out, List.drop_eq_nil_of_le (by omega)]; rfl
      have H0 := Lib.hid h0
      clear h0 He
      go_wp2
      go_ret2
      refine .inl ⟨H0.out, some ⟨T, 0, none⟩, ys.length, ?_, by simp [tabRows], TabRel.done rfl ⟨F, hT, hF⟩, (by repeat' (first | exact Later.refl _ | assumption | refine Later.drew ?_ | refine Later.drewN ?_ _ | refine Later.alloc ?_ _ | refine Later.put ?_ (by omega) _ | refine Later.trans ?_ (by assumption)))⟩
      simp [tabRows]

end Go.Proofs.Ytolddfapanabbaa
