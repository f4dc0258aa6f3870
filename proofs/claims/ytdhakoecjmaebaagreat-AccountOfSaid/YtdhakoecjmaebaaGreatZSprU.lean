/-
 The walk of spread.used: the zones of each roll that the parts of a lay use, sorted; false if cloth is used twice.
-/
import Derived.Test.YtdhakoecjmaebaaGreatZSprS
import Derived.StillTailTactics
namespace Go.Proofs.YtdhakoecjmaebaaGreat
open Go.RowKit
set_option linter.unusedSimpArgs false
set_option linter.unusedVariables false
def Py.pl (y : Py) : Pl := (y.lot, y.parts)
def allP (ys : List Py) : List Qd := ys.flatMap (·.parts)
theorem allP_pl (ys : List Py) : allQ (ys.map Py.pl) = allP ys := by
 unfold allQ allP
 rw [List.flatMap_map]
 rfl
theorem allP_take {ys : List Py} {k : Nat} (hk : k < ys.length) : allP (ys.take (k + 1)) = allP (ys.take k) ++ ys[k].parts := by
 unfold allP
 rw [List.take_succ_eq_append_getElem hk, List.flatMap_append]
 simp
theorem clothB_in {p : Qd} {rs : List Rl} (h : clothB p rs = true) : 0 ≤ p.a ∧ p.a < (rs.length : Int) ∧ 0 ≤ p.b ∧ p.b < p.c ∧ p.c ≤ (grl rs p.a.toNat).ln := by
 unfold clothB at h
 simp only [Bool.and_eq_true, decide_eq_true_eq] at h
 exact ⟨h.1, h.2.1, h.2.2.1, h.2.2.2.1, h.2.2.2.2⟩
theorem zones_snoc (j : Int) (P : List Qd) (p : Qd) : zonesOf j (P ++ [p]) = if j = p.a then zonesOf j P ++ [⟨p.b, p.c⟩] else zonesOf j P := by
 rw [zones_append, zones_cons]
 by_cases h : p.a = j
 ·rw [if_pos h, if_pos h.symm]; rfl
 ·rw [if_neg h, if_neg (fun k => h k.symm)]; simp [zonesOf]
theorem zones_len (j : Int) (P : List Qd) : (zonesOf j P).length ≤ P.length := by
 unfold zonesOf
 rw [List.length_map]
 exact List.length_filter_le _ _
theorem take_snoc {α : Type} (P l : List α) {i : Nat} (h : i < l.length) : P ++ l.take (i + 1) = (P ++ l.take i) ++ [l[i]] := by
 rw [List.take_succ_eq_append_getElem h, List.append_assoc]
def srt (k : Nat) (P : List Qd) (j : Nat) : List Pt := if j < k then sortZ (zonesOf j P) else zonesOf j P
def UsedPost (n : Nat) (P : List Qd) (w : World) (e : Ending) (w' : World) : Prop :=
 (NoTwice P ∧ ∃ T vs, e = .returned (.tuple #[.slice (some ⟨T, 0, none⟩) n n, .bool true]) ∧ w.heap.size ≤ T ∧ ZTab w' T n vs (fun j => sortZ (zonesOf j P)) ∧ Later w w') ∨
 (¬ NoTwice P ∧ e = .returned (.tuple #[.slice none 0 0, .bool false]) ∧ Later w w')
def chainTo (l : List Pt) (i : Nat) : Prop := ∀ j, 1 ≤ j → j < i → ∀ a b, l[j - 1]? = some a → l[j]? = some b → a.y ≤ b.x
theorem chain_apt {l : List Pt} (hz : ∀ z ∈ l, z.x < z.y) (h : chainTo l l.length) : Apt l := by
 induction l with
 | nil => exact List.Pairwise.nil
 | cons a l ih =>
  have ht : Apt l := ih (fun z hz' => hz z (List.mem_cons_of_mem _ hz')) (fun j h1 h2 x y hx hy => h (j + 1) (by omega) (by simp; omega) x y (by
   rw [show j + 1 - 1 = (j - 1) + 1 by omega, List.getElem?_cons_succ]; exact hx) (by rw [List.getElem?_cons_succ]; exact hy))
  refine List.pairwise_cons.2 ⟨fun b hb => ?_, ht⟩
  cases l with
  | nil => cases hb
  | cons c l =>
   have h1 : a.y ≤ c.x := h 1 (by omega) (by simp) a c rfl rfl
   rcases List.mem_cons.1 hb with rfl | hb
   ·exact h1
   ·have h2 := (List.pairwise_cons.1 ht).1 b hb
    have := hz c (by simp)
    omega
theorem not_apt {l : List Pt} {i : Nat} {a b : Pt} (h1 : 1 ≤ i) (ha : l[i - 1]? = some a) (hb : l[i]? = some b) (hab : b.x < a.y) : ¬ Apt l := by
 intro h
 obtain ⟨i1, e1⟩ := List.getElem?_eq_some_iff.1 ha
 obtain ⟨i2, e2⟩ := List.getElem?_eq_some_iff.1 hb
 have := List.pairwise_iff_getElem.1 h (i - 1) i i1 i2 (by omega)
 rw [e1, e2] at this
 omega
theorem zones_lt {P : List Qd} (hP : ∀ p ∈ P, p.b < p.c) (j : Int) : ∀ z ∈ zonesOf j P, z.x < z.y := by
 intro z hz
 obtain ⟨q, hq, _, rfl⟩ := zones_mem.1 hz
 exact hP q hq
theorem rowz_done {P : List Qd} (hP : ∀ p ∈ P, p.b < p.c) {j : Int} {m : List Pt} (hp : m.Perm (zonesOf j P)) (hs : m.Pairwise fun a b => a.x ≤ b.x) (hc : chainTo m m.length) : m = sortZ (zonesOf j P) ∧ Disj (zonesOf j P) := by
 have hz := zones_lt hP j
 have hzm : ∀ z ∈ m, z.x < z.y := fun z h => hz z (hp.subset h)
 have ha := chain_apt hzm hc
 have hd : Disj m := (apt_disj hzm hs).2 ha
 refine ⟨(sorted_unique ((sortZ_perm _).trans hp.symm) hzm (sortZ_sorted _) ha).symm, disj_perm hp hd⟩
theorem rowz_bad {P : List Qd} (hP : ∀ p ∈ P, p.b < p.c) {j : Int} {m : List Pt} (hp : m.Perm (zonesOf j P)) (hs : m.Pairwise fun a b => a.x ≤ b.x) (hc : ¬ Apt m) : ¬ NoTwice P := by
 intro h
 have hz := zones_lt hP j
 exact hc ((apt_disj (fun z k => hz z (hp.subset k)) hs).1 (disj_perm hp.symm (noTwice_disj h j)))
theorem ZTab.congrF {w : World} {T n : Nat} {vs : Nat → Value} {f f' : Nat → List Pt} (h : ZTab w T n vs f) (e : ∀ j, j < n → f j = f' j) : ZTab w T n vs f' :=
 ⟨h.row, fun j hj => by rw [← e j hj]; exact h.own j hj, h.apart⟩
theorem zones_step (P0 parts : List Qd) {i r : Nat} (hi : i < parts.length) (hr : parts[i].a = (r : Int)) (j : Nat) :
  (if j = r then zonesOf r (P0 ++ parts.take i) ++ [⟨parts[i].b, parts[i].c⟩] else zonesOf j (P0 ++ parts.take i)) = zonesOf j (P0 ++ parts.take (i + 1)) := by
 rw [take_snoc _ _ hi, zones_snoc, hr]
 by_cases h : j = r
 ·subst h; rw [if_pos rfl, if_pos rfl]
 ·rw [if_neg h, if_neg (by omega)]
theorem srt_step (P : List Qd) {k j : Nat} : (if j = k then sortZ (zonesOf k P) else srt k P j) = srt (k + 1) P j := by
 unfold srt
 by_cases h : j = k
 ·subst h; rw [if_pos rfl, if_pos (by omega)]
 ·rw [if_neg h]
  by_cases h' : j < k
  ·rw [if_pos h', if_pos (by omega)]
  ·rw [if_neg h', if_neg (by omega)]
theorem pS_alloc {w : World} {g : Nat} {a b c : Value} (h : w.cell? ⟨g, 0, none⟩ = some a ∧ w.cell? ⟨g, 1, none⟩ = some b ∧ w.cell? ⟨g, 2, none⟩ = some c ∧ g < w.heap.size) (o : Obj) :
  (w.alloc o).cell? ⟨g, 0, none⟩ = some a ∧ (w.alloc o).cell? ⟨g, 1, none⟩ = some b ∧ (w.alloc o).cell? ⟨g, 2, none⟩ = some c ∧ g < (w.alloc o).heap.size := by
 have hl : Later w (w.alloc o) := (Later.refl _).alloc _
 obtain ⟨h1, h2, h3, h4⟩ := h
 exact ⟨hl.cell h1, hl.cell h2, hl.cell h3, by have := hl.size; omega⟩
theorem pS_set {w : World} {g T r : Nat} {a b c : Value} (hne : g ≠ T) (h : w.cell? ⟨g, 0, none⟩ = some a ∧ w.cell? ⟨g, 1, none⟩ = some b ∧ w.cell? ⟨g, 2, none⟩ = some c ∧ g < w.heap.size) (u : Value) :
  (w.setCell ⟨T, r, none⟩ u).cell? ⟨g, 0, none⟩ = some a ∧ (w.setCell ⟨T, r, none⟩ u).cell? ⟨g, 1, none⟩ = some b ∧ (w.setCell ⟨T, r, none⟩ u).cell? ⟨g, 2, none⟩ = some c ∧ g < (w.setCell ⟨T, r, none⟩ u).heap.size := by
 obtain ⟨h1, h2, h3, h4⟩ := h
 have hb := Below.heap_setCell w ⟨T, r, none⟩ u g hne
 refine ⟨by rw [World.cell?_of_block (a := ⟨g, 0, Option.none⟩) hb]; exact h1, by rw [World.cell?_of_block (a := ⟨g, 1, Option.none⟩) hb]; exact h2, by rw [World.cell?_of_block (a := ⟨g, 2, Option.none⟩) hb]; exact h3, ?_⟩
 rw [World.size_setCell]
 exact h4
section
variable {α : Type} {cells : α → List Value} {sz : Nat}
theorem step_append_recf {P : Program} {t e : TypeId} (hT : SlT P t e sz) (hc : ∀ a, (cells a).length = sz) (hon : ∀ a, ∀ u ∈ cells a, u.oneCell' = true) {w : World} {ops : Array Oper} {o : Oper} {a : Act} {K : Act → World → Prop} {Q : Exit → Act → World → Prop} {E : Prop} (hgd : o.guard = none) (s x : Operand)
  (ho : o.op = .call { callee := .builtin .append, args := #[s, x], argTypes := #[t, t] }) {base : Nat} {v : Value} {l : List α} (hv : a.eval s = v) (hown : OwnR w base e sz cells v l)
  {ad : Addr} {c : Nat} (news : List α) (hx : a.eval x = .slice (some ad) news.length c) (hs : SrcAt w (some ad) (news.flatMap cells)) (hn : l.length + news.length ≤ 65536) (hb : base ≤ w.heap.size)
  (h : ∀ A' c' w', OwnR w' base e sz cells (.slice A' (l ++ news).length c') (l ++ news) → w.grownBy w' v.ownBlock → ((Value.slice A' (l ++ news).length c').ownBlock = v.ownBlock ∨ (Value.slice A' (l ++ news).length c').ownBlock = some w.heap.size) → K (a.put o.dst (.slice A' (l ++ news).length c')) w') :
  if Region.wanted o (yielded ops a.tmps) = true then Oper.wp P o a w K Q else E := by
 have hw : Region.wanted o (yielded ops a.tmps) = true := by simp [Region.wanted, hgd]
 rw [if_pos hw]
 obtain ⟨A', c', w', hr, h2, h3, h4⟩ := run_append_recf (P := P) hT hc hon o.type hown (c := c) hs hn hb
 unfold Oper.wp execOp
 simp only [ho, resolve, invoke, builtin, Sem.run_bind, Sem.run_pure, Result.andThen_ok, List.map_toArray, List.map_cons, List.map_nil, hv, hx, hr]
 exact h A' c' w' h2 h3 h4
end
section
variable {P : Program} {ops : Array Oper} {Q : Exit → Act → World → Prop} {md : Region.Mode} {S : World → Prop}
theorem ready_val {i : Nat} {o : Oper} {v : Value} {fuel : Nat} {listed : Array Bool} {a : Act} {w w' : World} {rs : List Nat} (ho : ops[i]? = some o) (hw : Region.wanted o (yielded ops a.tmps) = true) (he : (execOp a.eval o).run P w = .ok (.value v) w') (hS : S w')
  (h : wpAnyH P md ops Q S fuel (listed.setIfInBounds i true) (a.put o.dst v) w') (hs : AllReadyH P md ops Q S fuel listed a w rs) : AllReadyH P md ops Q S fuel listed a w (i :: rs) := by
 refine AllReadyH.cons ho (fun K hK => ?_) hs
 rw [if_pos hw]
 unfold Oper.wp
 rw [he]
 exact hK.out _ _ hS (fun _ => h)
end
theorem info_zrow : (Tryz.prog.info? 188).map (fun i => (i.zero, i.size, i.bytes)) = some (some (.slice none 0 0), 1, 24) := by kernel_rfl
set_option maxHeartbeats 8000000 in
set_option maxRecDepth 100000 in
theorem spread_used (P C S1 S2 : Option Addr) (pc cc n1 c1 n2 c2 : Nat) (l0 l1 l2 l3 : Int) (ys : List Py) (rs : List Rl) (w : World) (hy : Plys w P ys) (hcl : ∀ p ∈ allP ys, clothB p rs = true) (hrl : rs.length ≤ 65536) (hyl : ys.length ≤ 65536) (hpl : (allP ys).length ≤ 60000) :
  Calls Tryz.prog 78 #[.agg #[.int .i64 l0, .int .i64 l1, .int .i64 l2, .int .i64 l3, .slice S1 n1 c1, .slice S2 n2 c2, .slice P ys.length pc], .slice C rs.length cc] w (UsedPost rs.length (allP ys) w) := by
 obtain ⟨i0, hi, hz0, hz1, hz2⟩ := info_parts info_zrow
 have hmk := fun W => run_make_rows (P := Tryz.prog) 152 188 i0 _ Tryz.underlying152 hi hz0 rs.length (by rw [hz2]; omega) (by omega) W
 rw [hz1] at hmk
 simp only [Nat.mul_one] at hmk
 clear hi hz0 hz1 hz2
 go_enter Tryz.func78, Tryz.ntmps78
 go_wp2
 refine name_world (fun W0 hW0 => ?_)
 have hT0 : W0.rowIs (w.heap.size + 1) 188 rs.length (fun _ => .slice none 0 0) := by
  rw [hW0]
  have := World.rowIs_made (w.alloc (.cells #[.int .i64 l0, .int .i64 l1, .int .i64 l2, .int .i64 l3, .slice S1 n1 c1, .slice S2 n2 c2, .slice P ys.length pc] 70)) (.slice none 0 0) rs.length 188
  rw [World.size_alloc] at this
  exact this
 have hl0 : Later w W0 := by rw [hW0]; exact (by repeat' (with_reducible first | exact .refl _ | assumption | refine .drew ?_ | refine .drewN ?_ _ | refine .alloc ?_ _ | refine .put ?_ (by omega) _ | refine .trans ?_ (by assumption)))
 clear hW0 hmk
 have hZ0 : ZTab W0 (w.heap.size + 1) rs.length (fun _ => .slice none 0 0) (fun j => zonesOf j []) := ⟨hT0, fun j _ => World.ownsRow_nil _ _ _ _, fun i j _ _ _ g h => by cases h⟩
 have hTle : w.heap.size ≤ w.heap.size + 1 := Nat.le_succ _
 generalize w.heap.size + 1 = T at *
 have HT := Lib.hid hTle
 clear hT0 hTle
 have hab : ∀ p ∈ allP ys, p.b < p.c := fun p hp => (clothB_in (hcl p hp)).2.2.2.1
 go_loopw [20] (fun iv wr => ∃ (k : Nat) (vs : Nat → Value), k ≤ ys.length ∧ iv = .int .i64 k ∧ ZTab wr T rs.length vs (fun j => zonesOf j (allP (ys.take k))) ∧ Later w wr) (fun iv _ => ys.length - (intOf iv).toNat)
 case atStart => exact ⟨0, _, by omega, rfl, hZ0, hl0⟩
 case round =>
  obtain ⟨k, vs, hk, rfl, hZ, hb⟩ := hrel
  have HZ := Lib.hid hZ
  clear hZ
  by_cases hlt : k < ys.length
  ·have hokw : PyOk w ys[k] := by obtain ⟨_, _, _, _, _, h⟩ := hy.at_ hlt; exact h
   obtain ⟨hpc, hpm, hqd, hqi⟩ := hokw
   obtain ⟨bb, ob, rfl, e1, e2, _⟩ := (hy.later hb).at_ hlt
   have hbz : bb < wr.heap.size := World.block_lt_of_cell? _ _ e1
   have Hat := Lib.hid (allP_take hlt)
   have hmem : ∀ q ∈ ys[k].parts, q ∈ allP ys := fun q hq => List.mem_flatMap.2 ⟨ys[k], List.getElem_mem hlt, hq⟩
   have hsum : (allP (ys.take k)).length + ys[k].parts.length ≤ 60000 := by
    have h1 := congrArg List.length Hat.out
    rw [List.length_append] at h1
    have : (allP (ys.take (k + 1))).length ≤ (allP ys).length := by
     unfold allP
     rw [show ys.flatMap (·.parts) = (ys.take (k + 1) ++ ys.drop (k + 1)).flatMap (·.parts) by rw [List.take_append_drop], List.flatMap_append, List.length_append]
     omega
    omega
   have Hsum := Lib.hid hsum
   have hplk : ys[k].parts.length ≤ 60000 := by omega
   clear hsum
   generalize ys[k] = y at *
   obtain ⟨lot, pa, pc', parts⟩ := y
   simp only [] at e1 e2 hpc hpm hqd hmem hplk Hat
   generalize allP (ys.take k) = P0 at *
   go_wp2
   go_loopw [27] (fun iv wq => ∃ (i : Nat) (vs : Nat → Value), i ≤ parts.length ∧ iv = .int .i64 i ∧ ZTab wq T rs.length vs (fun j => zonesOf j (P0 ++ parts.take i)) ∧ Later w wq) (fun iv _ => parts.length - (intOf iv).toNat)
   case atStart => exact ⟨0, vs, by omega, rfl, by rw [List.take_zero, List.append_nil]; exact HZ.out.later ((Later.refl _).alloc _), hb.alloc _⟩
   case round =>
    clear e1 e2 hbz HZ
    obtain ⟨i, vs, hi, rfl, hZ, hb⟩ := hrel
    have HZ := Lib.hid hZ
    clear hZ
    by_cases hli : i < parts.length
    ·obtain ⟨bq, oq, rfl, hat⟩ := (hqd.later hb) (by omega)
     obtain ⟨q0, q1, q2, q3⟩ := hat.get hli
     have hbz : bq < wr.heap.size := World.block_lt_of_cell? _ _ q0
     have hc := clothB_in (hcl _ (hmem _ (List.getElem_mem hli)))
     have Hst := Lib.hid (fun r hr j => zones_step P0 parts (r := r) hli hr j)
     generalize parts[i] = q at *
     obtain ⟨qa, qb, qc, qd⟩ := q
     simp only [] at q0 q1 q2 q3 hc Hst
     obtain ⟨r, rfl⟩ : ∃ r : Nat, qa = (r : Int) := ⟨qa.toNat, by omega⟩
     have hr : r < rs.length := by omega
     go_upto_region 8 with fail
     refine name_world (fun W8 hW8 => ?_)
     have hl8 : Later wr W8 := by rw [hW8]; exact (by repeat' (with_reducible first | exact .refl _ | assumption | refine .drew ?_ | refine .drewN ?_ _ | refine .alloc ?_ _ | refine .put ?_ (by omega) _ | refine .trans ?_ (by assumption)))
     have D10 : Blk W8 wr.heap.size 92 #[.int .i64 r, .int .i64 qb, .int .i64 qc, .int .i64 qd] := by rw [hW8]; exact (by repeat' (with_reducible first | assumption | (refine Blk.newAt ?_; simp; done) | refine Blk.alloc ?_ _ | refine Blk.drew ?_ | refine Blk.drewN ?_ _ | refine Blk.later ?_ (by assumption)))
     clear hW8
     have p0 : W8.cell? ⟨wr.heap.size, 0, none⟩ = some (.int .i64 r) := D10.cell 0
     have p1 : W8.cell? ⟨wr.heap.size, 1, none⟩ = some (.int .i64 qb) := D10.cell 1
     have p2 : W8.cell? ⟨wr.heap.size, 2, none⟩ = some (.int .i64 qc) := D10.cell 2
     have z10 : wr.heap.size < W8.heap.size := D10.lt
     generalize hg10 : wr.heap.size = g10 at *
     have Hg10 := Lib.hid hg10
     clear hg10
     have HZ8 := Lib.hid (HZ.out.later hl8)
     have hO := HZ8.out.own r hr
     obtain ⟨A7, c7, e7, _⟩ := hO.form pt2_len
     have tc : W8.cell? ⟨T, r, none⟩ = some (.slice A7 (zonesOf r (P0 ++ parts.take i)).length c7) := by rw [← e7]; exact HZ8.out.row.cell hr
     have zT : T < W8.heap.size := HZ8.out.row.lt
     have Hzl := Lib.hid (show (zonesOf r (P0 ++ parts.take i)).length ≤ 60000 by
      have h1 := zones_len r (P0 ++ parts.take i)
      have h2 := Hsum.out
      rw [List.length_append, List.length_take] at h1
      omega)
     clear hO e7
     have HO := Lib.hid (show OwnR W8 (T + 1) 190 2 pt2 (.slice A7 (zonesOf r (P0 ++ parts.take i)).length c7) (zonesOf r (P0 ++ parts.take i)) by
      obtain ⟨A8, c8, e8, _⟩ := (HZ8.out.own r hr).form pt2_len
      have := HZ8.out.row.cell hr
      rw [tc] at this
      injection this with this
      rw [this]
      exact HZ8.out.own r hr)
     have Hvr := Lib.hid (show vs r = .slice A7 (zonesOf r (P0 ++ parts.take i)).length c7 by
      have := HZ8.out.row.cell hr
      rw [tc] at this
      injection this with this
      exact this.symm)
     have HO7 := Lib.hid (show OwnR wr (T + 1) 190 2 pt2 (.slice A7 (zonesOf r (P0 ++ parts.take i)).length c7) (zonesOf r (P0 ++ parts.take i)) by rw [← Hvr.out]; exact HZ.out.own r hr)
     have Hstr := Lib.hid (Hst.out r rfl)
     generalize zonesOf r (P0 ++ parts.take i) = fr at *
     have HS := Lib.hid (SrcAt.blk (Blk.new W8.drew 190 #[.int .i64 qb, .int .i64 qc]))
     have HZ9 := Lib.hid (HZ8.out.later ((Later.refl W8).drew.alloc (.cells #[.int .i64 qb, .int .i64 qc] 190)))
     have hr0 : (0 : Int) ≤ (r : Int) := by omega
     have hr1 : (r : Int) < (rs.length : Int) := by omega
     have tf : W8.frozen? ⟨T, r, none⟩ = false := HZ8.out.row.frozen r
     have HD10 := Lib.hid D10
     have hTg : g10 ≠ T := by have := HZ.out.row.lt; have := Hg10.out; omega
     have tcd : W8.drew.cell? ⟨T, r, none⟩ = some (.slice A7 fr.length c7) := tc
     have tca : (W8.drew.alloc (.cells #[.int .i64 qb, .int .i64 qc] 190)).cell? ⟨T, r, none⟩ = some (.slice A7 fr.length c7) := Later.cell ((Later.refl W8.drew).alloc _) tcd
     refine wp_region_held_drew (S := fun w' : World => w'.cell? ⟨g10, 0, none⟩ = some (.int .i64 r) ∧ w'.cell? ⟨g10, 1, none⟩ = some (.int .i64 qb) ∧ w'.cell? ⟨g10, 2, none⟩ = some (.int .i64 qc) ∧ g10 < w'.heap.size) (by kernel_rfl) ⟨p0, p1, p2, z10⟩ (fun hHeld => ?_)
     refine take_at (i := 0) (d := 31) (v := ?_) rfl rfl (by kernel_rfl) (by kernel_rfl) (by kernel_rfl) (fun _ _ _ h => h) (by rfl) ?_ (by assumption) ?_
     rotate_left
     ·(intro w hSw; (try dsimp only at hSw); go_simp; (try with_reducible rfl))
     simp only [Act.put, lsA, lsZ, lsS]
     refine take_at (i := 1) (d := 32) (v := ?_) rfl rfl (by kernel_rfl) (by kernel_rfl) (by kernel_rfl) (fun _ _ _ h => h) (by rfl) ?_ (by assumption) ?_
     rotate_left
     ·(intro w hSw; (try dsimp only at hSw); go_simp; (try with_reducible rfl))
     simp only [Act.put, lsA, lsZ, lsS]
     refine take_at (i := 2) (d := 33) (v := ?_) rfl rfl (by kernel_rfl) (by kernel_rfl) (by kernel_rfl) (fun _ _ _ h => h) (by rfl) ?_ (by assumption) ?_
     rotate_left
     ·(intro w hSw; (try dsimp only at hSw); go_simp; (try with_reducible rfl))
     simp only [Act.put, lsA, lsZ, lsS]
     refine take_at (i := 3) (d := 34) (v := ?_) rfl rfl (by kernel_rfl) (by kernel_rfl) (by kernel_rfl) (fun _ _ _ h => h) (by rfl) ?_ (by assumption) ?_
     rotate_left
     ·(intro w hSw; (try dsimp only at hSw); go_simp; (try with_reducible rfl))
     simp only [Act.put, lsA, lsZ, lsS]
     refine take_at (i := 4) (d := 35) (v := ?_) rfl rfl (by kernel_rfl) (by kernel_rfl) (by kernel_rfl) (fun _ _ _ h => h) (by rfl) ?_ (by assumption) ?_
     rotate_left
     ·(intro w hSw; (try dsimp only at hSw); go_simp; (try with_reducible rfl))
     simp only [Act.put, lsA, lsZ, lsS]
     refine take_at (i := 5) (d := 36) (v := ?_) rfl rfl (by kernel_rfl) (by kernel_rfl) (by kernel_rfl) (fun _ _ _ h => h) (by rfl) ?_ (by assumption) ?_
     rotate_left
     ·(intro w hSw; (try dsimp only at hSw); go_simp; (try with_reducible rfl))
     simp only [Act.put, lsA, lsZ, lsS]
     refine take_at (i := 6) (d := 37) (v := ?_) rfl rfl (by kernel_rfl) (by kernel_rfl) (by kernel_rfl) (fun _ _ _ h => h) (by rfl) ?_ (by assumption) ?_
     rotate_left
     ·(intro w hSw; (try dsimp only at hSw); go_simp; (try with_reducible rfl))
     simp only [Act.put, lsA, lsZ, lsS]
     refine take_at (i := 8) (d := 39) (v := ?_) rfl rfl (by kernel_rfl) (by kernel_rfl) (by kernel_rfl) (fun _ _ _ h => h) (by rfl) ?_ (by assumption) ?_
     rotate_left
     ·(intro w hSw; (try dsimp only at hSw); go_simp; (try with_reducible rfl))
     simp only [Act.put, lsA, lsZ, lsS]
     refine take_at (i := 9) (d := 40) (v := ?_) rfl rfl (by kernel_rfl) (by kernel_rfl) (by kernel_rfl) (fun _ _ _ h => h) (by rfl) ?_ (by assumption) ?_
     rotate_left
     ·(intro w hSw; (try dsimp only at hSw); go_simp; (try with_reducible rfl))
     simp only [Act.put, lsA, lsZ, lsS]
     refine take_at (i := 10) (d := 41) (v := ?_) rfl rfl (by kernel_rfl) (by kernel_rfl) (by kernel_rfl) (fun _ _ _ h => h) (by rfl) ?_ (by assumption) ?_
     rotate_left
     ·(intro w hSw; (try dsimp only at hSw); go_simp; (try with_reducible rfl))
     simp only [Act.put, lsA, lsZ, lsS]
     refine take_at (i := 11) (d := 42) (v := ?_) rfl rfl (by kernel_rfl) (by kernel_rfl) (by kernel_rfl) (fun _ _ _ h => h) (by rfl) ?_ (by assumption) ?_
     rotate_left
     ·(intro w hSw; (try dsimp only at hSw); go_simp; (try with_reducible rfl))
     simp only [Act.put, lsA, lsZ, lsS]
     refine take_at (i := 12) (d := 43) (v := ?_) rfl rfl (by kernel_rfl) (by kernel_rfl) (by kernel_rfl) (fun _ _ _ h => h) (by rfl) ?_ (by assumption) ?_
     rotate_left
     ·(intro w hSw; (try dsimp only at hSw); go_simp; (try with_reducible rfl))
     simp only [Act.put, lsA, lsZ, lsS]
     refine wpAnyH_ready (rs := [7, 13]) (by kernel_rfl) (by simp) (ready_val (v := .slice A7 fr.length c7) (w' := W8.drew) rfl (by rfl) (by go_simp) hHeld ?_ (ready_val (v := .slice (some ⟨W8.drew.heap.size, 0, none⟩) 1 1) (w' := W8.drew.alloc (.cells #[.int .i64 qb, .int .i64 qc] 190)) rfl (by rfl) (by go_simp) (pS_alloc hHeld _) ?_ AllReadyH.nil))
     ·simp only [Act.put, lsA, lsZ, lsS]
      refine wpAnyH_ready (rs := [13]) (by kernel_rfl) (by simp) (ready_val (v := .slice (some ⟨W8.drew.heap.size, 0, none⟩) 1 1) (w' := W8.drew.alloc (.cells #[.int .i64 qb, .int .i64 qc] 190)) rfl (by rfl) (by go_simp) (pS_alloc hHeld _) ?_ AllReadyH.nil)
      simp only [Act.put, lsA, lsZ, lsS]
      refine wpAnyH_ready (rs := [14]) (by kernel_rfl) (by simp) (AllReadyH.cons rfl (fun K hK => ?_) AllReadyH.nil)
      refine step_append_recf slt_zone pt2_len pt2_one rfl (.tmp 38) (.tmp 44) rfl (base := T + 1) (l := fr) rfl (OwnR.alloc (OwnR.drew HO.out) _) (ad := ⟨W8.drew.heap.size, 0, none⟩) (c := 1) [⟨qb, qc⟩] rfl HS.out (by have := Hzl.out; simp; omega) (by simp; omega) ?_
      intro A3 c3' w3 ho3 hg3 hf3
      have tt := (HZ9.out.turned hr (by rw [Hvr.out]; exact hg3)).1
      have D3 := Blk.grown (HD10.out.drew.alloc (.cells #[.int .i64 qb, .int .i64 qc] 190)) hg3 (fun e => by have := (World.ownsRow.lt HO7.out g10 e.symm).2; have := Hg10.out; omega)
      have tc3 : w3.cell? ⟨T, r, none⟩ = some (.slice A7 fr.length c7) := by rw [← Hvr.out]; exact tt.cell hr
      have tf3 := tt.frozen r
      have zT3 := tt.lt
      refine hK.out _ _ ⟨D3.cell 0, D3.cell 1, D3.cell 2, D3.lt⟩ (fun hS3 => ?_)
      simp only [Act.put, lsA, lsZ, lsS]
      refine wpAnyH_ready (rs := [15]) (by kernel_rfl) (by simp) (ready_val (v := .pointer (some ⟨T, r, none⟩)) (w' := w3) rfl (by rfl) (by go_simp) hS3 ?_ AllReadyH.nil)
      simp only [Act.put, lsA, lsZ, lsS]
      refine wpAnyH_ready (rs := [16]) (by kernel_rfl) (by simp) (AllReadyH.cons rfl (fun K hK => ?_) AllReadyH.nil)
      rw [if_pos (by rfl)]
      unfold Oper.wp
      go_simp
      refine hK.out _ _ (pS_set hTg hS3 _) (fun _ => ?_)
      refine wpAnyH_done (by kernel_rfl) ?_ _
      clear tt D3
      have hZ3 := HZ9.out.put hr (v := .slice A3 (fr ++ ([⟨qb, qc⟩] : List Pt)).length c3') (l := fr ++ ([⟨qb, qc⟩] : List Pt)) (by rw [Hvr.out]; exact hg3) ho3 (by
       rcases hf3 with h | h
       ·exact .inl (by rw [Hvr.out]; exact h)
       ·exact .inr ⟨_, h, Nat.le_refl _⟩)
      have hl3 : Later w w3 := Later.grown (((hb.trans hl8).drew).alloc _) hg3 (fun g hg => by have := (World.ownsRow.lt HO.out g hg).1; have := HT.out; omega)
      have HZ3 := Lib.hid (hZ3.congrF (fun j _ => Hstr.out j))
      clear hZ3 hg3 hf3 ho3
      simp only [List.length_append, List.length_singleton] at HZ3
      go_wp2
      go_roundw
      case rel => exact ⟨i + 1, _, by omega, by go_num, HZ3.out, hl3.put HT.out _⟩
      case measure => simp [intOf]; omega
     ·simp only [Act.put, lsA, lsZ, lsS]
      refine wpAnyH_ready (rs := [7]) (by kernel_rfl) (by simp) (ready_val (v := .slice A7 fr.length c7) (w' := W8.drew.alloc (.cells #[.int .i64 qb, .int .i64 qc] 190)) rfl (by rfl) (by go_simp) (pS_alloc hHeld _) ?_ AllReadyH.nil)
      simp only [Act.put, lsA, lsZ, lsS]
      refine wpAnyH_ready (rs := [14]) (by kernel_rfl) (by simp) (AllReadyH.cons rfl (fun K hK => ?_) AllReadyH.nil)
      refine step_append_recf slt_zone pt2_len pt2_one rfl (.tmp 38) (.tmp 44) rfl (base := T + 1) (l := fr) rfl (OwnR.alloc (OwnR.drew HO.out) _) (ad := ⟨W8.drew.heap.size, 0, none⟩) (c := 1) [⟨qb, qc⟩] rfl HS.out (by have := Hzl.out; simp; omega) (by simp; omega) ?_
      intro A3 c3' w3 ho3 hg3 hf3
      have tt := (HZ9.out.turned hr (by rw [Hvr.out]; exact hg3)).1
      have D3 := Blk.grown (HD10.out.drew.alloc (.cells #[.int .i64 qb, .int .i64 qc] 190)) hg3 (fun e => by have := (World.ownsRow.lt HO7.out g10 e.symm).2; have := Hg10.out; omega)
      have tc3 : w3.cell? ⟨T, r, none⟩ = some (.slice A7 fr.length c7) := by rw [← Hvr.out]; exact tt.cell hr
      have tf3 := tt.frozen r
      have zT3 := tt.lt
      refine hK.out _ _ ⟨D3.cell 0, D3.cell 1, D3.cell 2, D3.lt⟩ (fun hS3 => ?_)
      simp only [Act.put, lsA, lsZ, lsS]
      refine wpAnyH_ready (rs := [15]) (by kernel_rfl) (by simp) (ready_val (v := .pointer (some ⟨T, r, none⟩)) (w' := w3) rfl (by rfl) (by go_simp) hS3 ?_ AllReadyH.nil)
      simp only [Act.put, lsA, lsZ, lsS]
      refine wpAnyH_ready (rs := [16]) (by kernel_rfl) (by simp) (AllReadyH.cons rfl (fun K hK => ?_) AllReadyH.nil)
      rw [if_pos (by rfl)]
      unfold Oper.wp
      go_simp
      refine hK.out _ _ (pS_set hTg hS3 _) (fun _ => ?_)
      refine wpAnyH_done (by kernel_rfl) ?_ _
      clear tt D3
      have hZ3 := HZ9.out.put hr (v := .slice A3 (fr ++ ([⟨qb, qc⟩] : List Pt)).length c3') (l := fr ++ ([⟨qb, qc⟩] : List Pt)) (by rw [Hvr.out]; exact hg3) ho3 (by
       rcases hf3 with h | h
       ·exact .inl (by rw [Hvr.out]; exact h)
       ·exact .inr ⟨_, h, Nat.le_refl _⟩)
      have hl3 : Later w w3 := Later.grown (((hb.trans hl8).drew).alloc _) hg3 (fun g hg => by have := (World.ownsRow.lt HO.out g hg).1; have := HT.out; omega)
      have HZ3 := Lib.hid (hZ3.congrF (fun j _ => Hstr.out j))
      clear hZ3 hg3 hf3 ho3
      simp only [List.length_append, List.length_singleton] at HZ3
      go_wp2
      go_roundw
      case rel => exact ⟨i + 1, _, by omega, by go_num, HZ3.out, hl3.put HT.out _⟩
      case measure => simp [intOf]; omega
    ·have hie : i = parts.length := by omega
     subst hie
     rw [List.take_length] at HZ
     go_wp2
     go_roundw
     case rel => exact ⟨k + 1, vs, by omega, by go_num, by rw [Hat.out]; exact HZ.out, hb⟩
     case measure => simp [intOf]; omega
  ·have hke : k = ys.length := by omega
   subst hke
   rw [List.take_length] at HZ
   clear hlt hk
   have hl65 : ∀ j : Nat, (zonesOf j (allP ys)).length ≤ 60000 := fun j => Nat.le_trans (zones_len j _) hpl
   have hin : ∀ p ∈ allP ys, 0 ≤ p.a ∧ p.a < (rs.length : Int) := fun p hp => ⟨(clothB_in (hcl p hp)).1, (clothB_in (hcl p hp)).2.1⟩
   generalize allP ys = PP at *
   go_wp2
   go_loopw [51] (fun iv wq => ∃ k : Nat, k ≤ rs.length ∧ iv = .int .i64 k ∧ ZTab wq T rs.length vs (srt k PP) ∧ (∀ j : Nat, j < k → Disj (zonesOf j PP)) ∧ Later w wq) (fun iv _ => rs.length - (intOf iv).toNat)
   case atStart => exact ⟨0, by omega, rfl, HZ.out.congrF (fun j _ => by unfold srt; rw [if_neg (by omega)]), fun j hj => (by omega), hb⟩
   case round =>
    clear HZ hb
    obtain ⟨k, hk, rfl, hZ, hD, hb⟩ := hrel
    have HZ := Lib.hid hZ
    have HD := Lib.hid hD
    clear hZ hD
    by_cases hlt : k < rs.length
    ·have hO := HZ.out.own k hlt
     have hsk : srt k PP k = zonesOf k PP := by unfold srt; rw [if_neg (by omega)]
     rw [hsk] at hO
     obtain ⟨A7, c7, e7, hc7, _, hg7⟩ := hO.form pt2_len
     have tc : wr.cell? ⟨T, k, none⟩ = some (.slice A7 (zonesOf k PP).length c7) := by rw [← e7]; exact HZ.out.row.cell hlt
     have zT := HZ.out.row.lt
     have hk0 : (0 : Int) ≤ (k : Int) := by omega
     have hk1 : (k : Int) < (rs.length : Int) := by omega
     have HO := Lib.hid hO
     have He7 := Lib.hid e7
     clear hO e7 hsk
     have hzl := hl65 k
     have HS : ∃ S : World → World → List Pt → Prop, (∀ w1 w2 m, S w1 w2 m → m.Perm (zonesOf k PP) ∧ (m.Pairwise fun a b => a.x ≤ b.x) ∧ OwnR w2 (T + 1) 190 2 pt2 (.slice A7 (zonesOf k PP).length c7) m ∧ w1.grownBy w2 (Value.slice A7 (zonesOf k PP).length c7).ownBlock) ∧
       Calls Tryz.prog 119 #[.slice A7 (zonesOf k PP).length c7, .func (.func 120) #[] #[]] wr (fun e w' => e = .returned (.tuple #[]) ∧ ∃ m, S wr w' m) := by
      refine ⟨fun w1 w2 m => m.Perm (zonesOf k PP) ∧ (m.Pairwise fun a b => a.x ≤ b.x) ∧ OwnR w2 (T + 1) 190 2 pt2 (.slice A7 (zonesOf k PP).length c7) m ∧ w1.grownBy w2 (Value.slice A7 (zonesOf k PP).length c7).ownBlock, fun _ _ _ h => h, ?_⟩
      have hO' : OwnR wr (T + 1) 190 2 pt2 (.slice A7 (zonesOf k PP).length c7) (zonesOf k PP) := by have := HO.out; rw [He7.out] at this; exact this
      rcases Nat.eq_zero_or_pos (zonesOf k PP).length with h0 | h0
      ·have h1 := AnyF.slices_SortFunc_none sortZn A7 c7 (.func (.func 120) #[] #[]) wr
       change Calls Tryz.prog 119 _ _ _ at h1
       rw [← h0] at h1
       refine h1.mono ?_
       rintro e w' ⟨rfl, rfl⟩
       exact ⟨rfl, _, List.Perm.refl _, by rw [List.eq_nil_of_length_eq_zero h0]; exact List.Pairwise.nil, hO', ⟨rfl, rfl, rfl, Nat.le_refl _, fun _ _ _ => rfl⟩⟩
      ·obtain ⟨g, rfl, _⟩ := hg7 h0
       refine (sort_zones (T + 1) g c7 (zonesOf k PP) wr hO' (by omega)).mono ?_
       rintro e w' ⟨rfl, m, m1, m2, m3, m4⟩
       exact ⟨rfl, m, m1, m2, m3, m4⟩
     obtain ⟨S, hS, hSC⟩ := HS
     have HSC := Lib.hid hSC
     have HSS := Lib.hid hS
     clear hSC hS hg7
     go_upto_region 15 with (go_at_call 119; (with_reducible refine HSC.out.mono ?_); rintro e w5 ⟨rfl, m, hm⟩)
     obtain ⟨m1, m2, m3, m4⟩ := HSS.out _ _ _ hm
     have hml : m.length = (zonesOf k PP).length := m1.length_eq
     have HM1 := Lib.hid m1
     have HM2 := Lib.hid m2
     have HZ5 := Lib.hid (HZ.out.sort hlt (l := m) (by rw [He7.out]; exact m4) (by rw [He7.out]; exact m3))
     have hl5 : Later w w5 := Later.grown hb m4 (fun g hg => by have := (World.ownsRow.lt m3 g hg).1; have := HT.out; omega)
     obtain ⟨A9, c9, e9, _, _, p9⟩ := m3.zns
     have e9' : A7 = A9 := by injection e9
     subst e9'
     have HP9 := Lib.hid p9
     rw [← hml] at hc7 hzl ⊢
     clear m1 m2 m3 m4 hm HSC HSS e9 p9 tc hml
     have He : ∀ (i : Nat), chainTo m i → m.length ≤ i → m = sortZ (zonesOf k PP) ∧ Disj (zonesOf k PP) := fun i hc hi => rowz_done hab HM1.out HM2.out (fun j h1 h2 => hc j h1 (by omega))
     have HE := Lib.hid He
     have HB := Lib.hid (fun hc => rowz_bad (m := m) hab HM1.out HM2.out hc)
     clear He
     go_wp2
     go_loopw [13] (fun iv wq => ∃ i : Nat, 1 ≤ i ∧ (i ≤ m.length ∨ i = 1) ∧ iv = .int .i64 i ∧ chainTo m i ∧ Later w5 wq) (fun iv _ => m.length - (intOf iv).toNat)
     case atStart => exact ⟨1, by omega, .inr rfl, rfl, fun j h1 h2 => (by omega), Later.refl _⟩
     case round =>
      obtain ⟨i, hi1, hi2, rfl, hch, hb5⟩ := hrel
      have Hch := Lib.hid hch
      clear hch
      by_cases hli : i < m.length
      ·have hli' : i - 1 < m.length := by omega
       obtain ⟨bm, om, rfl, hat⟩ := (HP9.out.later hb5) (by omega)
       obtain ⟨f0, f1⟩ := hat.get hli
       obtain ⟨h0, h1⟩ := hat.get hli'
       have Ha := Lib.hid (List.getElem?_eq_getElem hli')
       have Hb := Lib.hid (List.getElem?_eq_getElem hli)
       have hbz : bm < wr.heap.size := World.block_lt_of_cell? _ _ f0
       generalize m[i] = b at *
       generalize m[i - 1] = a at *
       obtain ⟨ax, ay⟩ := a
       obtain ⟨bx, bY⟩ := b
       simp only [] at f0 f1 h0 h1
       have j0 : (0 : Int) ≤ (i : Int) := by omega
       have j1 : (i : Int) < (m.length : Int) := by omega
       have j2 : IntKind.i64.wrap ((i : Int) - 1) = (i : Int) - 1 := IntWalk.i64_in _ (by omega)
       have j3 : (0 : Int) ≤ (i : Int) - 1 := by omega
       have j4 : (i : Int) - 1 < (m.length : Int) := by omega
       have j5 : ((i : Int) - 1).toNat = i - 1 := by omega
       by_cases hbad : bx < ay
       ·have dbad : decide (bx < ay) = true := by simpa using hbad
        have HN := Lib.hid (HB.out (not_apt hi1 Ha.out Hb.out hbad))
        go_wp2
        go_quiet (fail)
        go_wp2
        go_ret2
        exact .inr ⟨HN.out, rfl, hl5.trans (by repeat' (with_reducible first | exact .refl _ | assumption | refine .drew ?_ | refine .drewN ?_ _ | refine .alloc ?_ _ | refine .put ?_ (by omega) _ | refine .trans ?_ (by assumption)))⟩
       ·have dbad : decide (bx < ay) = false := by simpa using hbad
        go_wp2
        go_quiet (fail)
        go_wp2
        go_roundw
        case rel =>
         refine ⟨i + 1, by omega, .inl (by omega), by go_num, fun j q1 q2 x y hx hy => ?_, (by repeat' (with_reducible first | exact .refl _ | assumption | refine .drew ?_ | refine .drewN ?_ _ | refine .alloc ?_ _ | refine .put ?_ (by omega) _ | refine .trans ?_ (by assumption)))⟩
         by_cases hj : j = i
         ·subst hj
          rw [Ha.out] at hx
          rw [Hb.out] at hy
          cases hx
          cases hy
          show ay ≤ bx
          omega
         ·exact Hch.out j q1 (by omega) x y hx hy
        case measure => simp [intOf]; omega
      ·have HED := Lib.hid (HE.out i Hch.out (by omega))
       have HZ6 := Lib.hid ((HZ5.out.later hb5).congrF (f' := srt (k + 1) PP) (fun j _ => by rw [HED.out.1]; exact srt_step PP))
       go_wp2
       go_roundw
       case rel =>
        refine ⟨k + 1, by omega, by go_num, HZ6.out, fun j hj => ?_, hl5.trans hb5⟩
        by_cases hjk : j = k
        ·rw [hjk]; exact HED.out.2
        ·exact HD.out j (by omega)
       case measure => simp [intOf]; omega
    ·have hke : k = rs.length := by omega
     subst hke
     have HN := Lib.hid (noTwice_of hin HD.out)
     have HZ6 := Lib.hid (HZ.out.congrF (f' := fun j => sortZ (zonesOf j PP)) (fun j hj => by unfold srt; rw [if_pos hj]))
     go_wp2
     go_ret2
     exact .inl ⟨HN.out, T, vs, rfl, HT.out, HZ6.out, hb⟩
end Go.Proofs.YtdhakoecjmaebaaGreat
