/-
 The reference of layer 13: the triangles of a polygon.
-/
import Derived.Test.YtdhakoecjmaebaaGreatZRefS
namespace Go.Proofs.YtdhakoecjmaebaaGreat
open Go.RowKit
set_option linter.unusedSimpArgs false
set_option linter.unusedVariables false
theorem rnormal_eq {ps : List Pt} (h : checkI ps = 0) : rnormalOf ps = normalOf ps := by
 have hs := check_simple h
 obtain ⟨c1, c2⟩ := corners_simple hs
 have a1 := (area_lam hs).1
 have a2 := (area_lam c1).1
 rw [c2] at a2
 unfold rnormalOf normalOf ccwOf
 rw [rev_reverse]
 by_cases k : areaI ps < 0
 ·rw [if_pos k, if_pos (a2.2 (a1.1 k))]
 ·rw [if_neg k, if_neg (fun q => k (a1.2 (a2.1 q)))]
theorem ref11_Normal (A : Option Addr) (c : Nat) (ps : List Pt) (w : World) (hcap : ps.length ≤ c) (hp : Pts w A ps) (hok : checkI ps = 0) :
  Calls Tryz.prog 173 #[.slice A ps.length c] w (RetPts0 (normalOf ps) w) := by
 obtain ⟨_, h3, h40⟩ := simple_of_check hok
 have hsm := small_of_check hok
 have hcs : AllSm (cornersOf ps) := by
  have h1 : ∀ p ∈ cornersOf ps, SmP p := cornGo_all ps hsm _ _ _ (by intro p hp; cases hp)
  exact gp_all (Q := SmP) (by unfold SmP Sm; decide) h1
 have := ref11_Normal_ok A c ps w hcap hp (by rw [rcheck_eq]; exact hok) h3 h40 hsm (corners_ne hok) hcs (by have := corners_le ps; omega)
 rw [rnormal_eq hok] at this
 exact this
set_option maxHeartbeats 1000000 in
theorem ref11_Normal_err (A : Option Addr) (c : Nat) (ps : List Pt) (w : World) (hn : ps.length ≤ 1099511627776) (hcap : ps.length ≤ c) (hp : Pts w A ps) (hok : checkI ps ≠ 0) :
  Calls Tryz.prog 173 #[.slice A ps.length c] w (Ret (.tuple #[.slice none 0 0, .int .i64 (checkI ps)]) w) := by
 have hC := ref11_Check A c ps w hn hcap hp
 rw [rcheck_eq] at hC
 generalize checkI ps = e0 at *
 have h0 : (e0 != 0) = true := by simpa using hok
 have HC := Lib.hid hC
 clear hC hok
 go_enter Tryz.func173, Tryz.ntmps173
 go_wp2_with (first | (go_at_call 135; refine HC.out.mono ?_; rintro e w1 ⟨rfl, hb1⟩))
 go_ret2
 exact ⟨rfl, hb1⟩
section
variable {α : Type} {cells : α → List Value} {sz : Nat}
theorem run_append_recf {P : Program} {t e : TypeId} (hT : SlT P t e sz) (hc : ∀ a, (cells a).length = sz) (ho : ∀ a, ∀ u ∈ cells a, u.oneCell' = true) (ty : TypeId) {w : World} {base : Nat} {v : Value} {l : List α} (hown : OwnR w base e sz cells v l)
  {ad : Addr} {c : Nat} {news : List α} (hs : SrcAt w (some ad) (news.flatMap cells)) (hn : l.length + news.length ≤ 65536) (hb : base ≤ w.heap.size) :
  ∃ A' c' w', (Builtin.append_ #[t, t] ty #[v, .slice (some ad) news.length c]).run P w = .ok (.slice A' (l ++ news).length c') w' ∧ OwnR w' base e sz cells (.slice A' (l ++ news).length c') (l ++ news) ∧ w.grownBy w' v.ownBlock ∧
   ((Value.slice A' (l ++ news).length c').ownBlock = v.ownBlock ∨ (Value.slice A' (l ++ news).length c').ownBlock = some w.heap.size) := by
 obtain ⟨i, z, h1, h2, h3, h4, h5, h6, h7⟩ := hT
 obtain ⟨v', w', hr, hw, hg, _, hf⟩ := run_append_own_at (P := P) w base t ty e i z sz i.bytes h1 h2 h3 h4 rfl h6 h7 v l.length _ hown ad news.length c (news.flatMap cells) (flat_len hc _) (hs ad rfl) (one_flat ho _) (by unfold maxLen; omega) (by
  have : (l.length + news.length) * i.bytes ≤ 65536 * 1024 := Nat.mul_le_mul hn h5
  omega) hb
 have hw2 : OwnR w' base e sz cells v' (l ++ news) := by unfold OwnR; rw [List.flatMap_append, List.length_append]; exact hw
 obtain ⟨A', c', rfl, _⟩ := hw2.form hc
 exact ⟨A', c', w', hr, hw2, hg, hf⟩
theorem wpList_append_recf {P : Program} {t e : TypeId} (hT : SlT P t e sz) (hc : ∀ a, (cells a).length = sz) (hon : ∀ a, ∀ u ∈ cells a, u.oneCell' = true) {w : World} {ops : Array Oper} {rest : List Oper} {o : Oper} {a : Act} {Q : Exit → Act → World → Prop} (hgd : o.guard = none) (s x : Operand)
  (ho : o.op = .call { callee := .builtin .append, args := #[s, x], argTypes := #[t, t] }) {base : Nat} {v : Value} {l : List α} (hv : a.eval s = v) (hown : OwnR w base e sz cells v l)
  {ad : Addr} {c : Nat} (news : List α) (hx : a.eval x = .slice (some ad) news.length c) (hs : SrcAt w (some ad) (news.flatMap cells)) (hn : l.length + news.length ≤ 65536) (hb : base ≤ w.heap.size)
  (h : ∀ A' c' w', OwnR w' base e sz cells (.slice A' (l ++ news).length c') (l ++ news) → w.grownBy w' v.ownBlock → ((Value.slice A' (l ++ news).length c').ownBlock = v.ownBlock ∨ (Value.slice A' (l ++ news).length c').ownBlock = some w.heap.size) → wpList P ops Q rest (a.put o.dst (.slice A' (l ++ news).length c')) w') : wpList P ops Q (o :: rest) a w := by
 refine wpList_plain hgd fun _ hK => ?_
 obtain ⟨A', c', w', hr, h2, h3, h4⟩ := run_append_recf (P := P) hT hc hon o.type hown (c := c) hs hn hb
 unfold Oper.wp execOp
 simp only [ho, resolve, invoke, builtin, Sem.run_bind, Sem.run_pure, Result.andThen_ok, List.map_toArray, List.map_cons, List.map_nil, hv, hx, hr]
 exact hK _ _ (h A' c' w' h2 h3 h4)
end
def Fence (row : Option Nat) (n : Nat) (A : Option Addr) : Prop := ∀ b o, A = some ⟨b, o, none⟩ → some b ≠ row ∧ b < n
theorem Fence.mono {row : Option Nat} {n m : Nat} {A : Option Addr} (h : Fence row n A) (k : n ≤ m) : Fence row m A := fun b o e => ⟨(h b o e).1, by have := (h b o e).2; omega⟩
theorem Fence.fresh {row : Option Nat} {n m : Nat} {A : Option Addr} (h : Fence row n A) {row' : Option Nat} (hr : row' = row ∨ row' = some m) (k : n ≤ m) {k' : Nat} (hk : m ≤ k') : Fence row' k' A := fun b o e => by
 have := h b o e
 refine ⟨?_, by omega⟩
 rcases hr with rfl | rfl
 ·exact this.1
 ·intro q; cases q; omega
theorem Pts.grown {w w' : World} {row : Option Nat} {A : Option Addr} {ps : List Pt} (h : Pts w A ps) (hg : w.grownBy w' row) (hf : Fence row w.heap.size A) : Pts w' A ps := fun hn => by
 obtain ⟨b, o, e, hx⟩ := h hn
 obtain ⟨f1, f2⟩ := hf b o e
 have hc : ∀ k, w'.cell? ⟨b, k, Option.none⟩ = w.cell? ⟨b, k, Option.none⟩ := fun k => World.cell?_of_block (a := ⟨b, k, Option.none⟩) (hg.block b f2 f1)
 exact ⟨b, o, e, fun i p hp => ⟨by rw [hc]; exact (hx i p hp).1, by rw [hc]; exact (hx i p hp).2⟩⟩
def RetNew (ps : List Pt) (w : World) (e : Ending) (w' : World) : Prop := ∃ g c, e = .returned (.slice (some ⟨g, 0, none⟩) ps.length c) ∧ ps.length ≤ c ∧ c ≤ maxLen ∧ Pts w' (some ⟨g, 0, none⟩) ps ∧ w.heap.size ≤ g ∧ g < w'.heap.size ∧ Later w w'
set_option maxHeartbeats 2000000 in
theorem ref13_without (b o c i : Nat) (ps : List Pt) (w : World) (hn : ps.length ≤ 64) (hi : i < ps.length) (h2 : 2 ≤ ps.length) (hcap : ps.length ≤ c) (hat : PtsAt w b o ps) :
  Calls Tryz.prog 177 #[.slice (some ⟨b, o, none⟩) ps.length c, .int .i64 i] w (RetNew (ps.eraseIdx i) w) := by
 have i1 : (0 : Int) ≤ (i : Int) := by omega
 have i2 : (i : Int) ≤ (c : Int) := by omega
 have i3 : (0 : Int) ≤ (i : Int) + 1 := by omega
 have i4 : (i : Int) + 1 ≤ (ps.length : Int) := by omega
 have i5 : (ps.length : Int) ≤ (c : Int) := by omega
 have i6 : (i : Int).toNat = i := by omega
 have i7 : ((i : Int) + 1).toNat = i + 1 := by omega
 have hw1 : IntKind.i64.wrap ((i : Int) + 1) = (i : Int) + 1 := IntWalk.i64_in _ (by omega)
 have hd1 : (ps.take i).length = i := by simp; omega
 have hd2 : (ps.drop (i + 1)).length = ps.length - (i + 1) := by simp
 have s1 : SrcAt w (some ⟨b, o, none⟩) ((ps.take i).flatMap pt2) := Pts.src (fun hn => ⟨b, o, rfl, hat.take i⟩)
 have s2 : SrcAt w (if c = i + 1 then some ⟨b, o, none⟩ else some ⟨b, o + (i + 1) * 2, none⟩) ((ps.drop (i + 1)).flatMap pt2) := by
  split
  ·have : ps.drop (i + 1) = [] := List.drop_eq_nil_of_le (by omega)
   rw [this]
   intro ad _ j u hu
   simp at hu
  ·exact Pts.src (fun hn => ⟨b, o + (i + 1) * 2, rfl, fun k p hp' => by
    rw [List.getElem?_drop] at hp'
    have := hat _ p hp'
    rw [show o + (i + 1 + k) * 2 = o + (i + 1) * 2 + k * 2 by omega] at this
    exact this⟩)
 have S1 := Lib.hid s1
 have S2 := Lib.hid s2
 have Ho := Lib.hid (show OwnR w w.heap.size 29 2 pt2 (.slice none 0 0) ([] : List Pt) from World.ownsRow_nil _ _ _ _)
 clear s1 s2
 rw [List.eraseIdx_eq_take_drop_succ]
 go_enter Tryz.func177, Tryz.ntmps177
 go_wp2_with (first
  | (at_builtin; refine wpList_append_rec slt_spot pt2_len pt2_one rfl (.tmp 6) (.tmp 9) rfl (base := w.heap.size) (l := []) rfl Ho.out (A := some ⟨b, o, none⟩) (c := c) (ps.take i) (by rw [hd1]; rfl) (by intro h; cases h) S1.out (by simp; omega) (Nat.le_refl _) ?_; intro A3 c3' w3 ho3 hg3; have hl3 : Later w w3 := Later.grown (Later.refl _) hg3 (by intro g hg; cases hg); rw [List.nil_append] at ho3; have Ho3 := Lib.hid ho3; clear hg3 ho3)
  | (at_builtin; refine wpList_append_rec slt_spot pt2_len pt2_one rfl (.tmp 11) (.tmp 15) rfl (base := w.heap.size) (v := .slice A3 (ps.take i).length c3') (l := ps.take i) (by rw [hd1]; rfl) Ho3.out (A := if c = i + 1 then some ⟨b, o, none⟩ else some ⟨b, o + (i + 1) * 2, none⟩) (c := c - (i + 1)) (ps.drop (i + 1)) (by rw [hd2]; rfl) (by intro h; split at h <;> cases h) (S2.out.later hl3) (by simp; omega) hl3.size ?_; intro A4 c4' w4 ho4 hg4; have hl5 : Later w w4 := Later.grown hl3 hg4 (fun g hg => (World.ownsRow.lt Ho3.out g hg).1)))
 all_goals go_ret
 all_goals
  have hpos : 0 < (ps.take i ++ ps.drop (i + 1)).length := by rw [List.length_append, hd1, hd2]; omega
  obtain ⟨A6, c6, e6, q1, q2, q3⟩ := ho4.pts
  obtain ⟨A7, c7, e7, _, _, hx⟩ := ho4.form pt2_len
  obtain ⟨g, hg1, hg2, hg3, _⟩ := hx hpos
  rw [e6] at e7
  cases e7
  cases hg1
  exact ⟨g, c6, by rw [← e6]; simp; omega, q1, q2, q3, hg2, hg3, hl5⟩
set_option maxHeartbeats 2000000 in
theorem ref13_ear (b o c : Nat) (ps : List Pt) (w : World) (hn : ps.length ≤ 64) (hat : PtsAt w b o ps) (hin : AllIn ps) :
  Calls Tryz.prog 175 #[.slice (some ⟨b, o, none⟩) ps.length c] w (Ret (.int .i64 (freeAt ps)) w) := by
 have hsm : AllSm ps := fun j => out_sm (hin j)
 go_enter Tryz.func175, Tryz.ntmps175
 go_wp2
 go_loopw [3] (fun ii wr => ∃ k : Nat, k ≤ ps.length ∧ ii = .int .i64 k ∧ freeAt ps = firstGo (freeB ps) (ps.length - k) k ∧ Later w wr) (fun ii _ => ps.length - (intOf ii).toNat)
 case atStart => exact ⟨0, by omega, rfl, rfl, Later.refl _⟩
 case round =>
  obtain ⟨k, hk, rfl, he, hb⟩ := hrel
  have He := Lib.hid he
  clear he
  by_cases hlt : k < ps.length
  ·have HB := Lib.hid (fun W (hW : Later wr W) => ref13_bend b o c k ps W hn hlt (hat.later (hb.trans hW)) hsm)
   have hw1 : IntKind.i64.wrap ((k : Int) + 1) = (k : Int) + 1 := IntWalk.i64_in _ (by omega)
   have hfb : freeB ps k = (decide (0 < bendI ps k) && freeGo (gp ps ((k + ps.length - 1) % ps.length)) (gp ps k) (gp ps ((k + 1) % ps.length)) ps) := rfl
   by_cases hbd : 0 < bendI ps k
   ·have HFr := Lib.hid (fun W (hW : Later wr W) => ref13_free b o c k ps W hn hlt (hat.later (hb.trans hW)) hin hbd)
    have d1 : decide (0 < bendI ps k) = true := by simpa using hbd
    rw [d1, Bool.true_and] at hfb
    rw [← hfb] at HFr
    clear hfb
    by_cases hf : freeB ps k = true
    ·have Hs := Lib.hid (first_hit hlt hf)
     rw [hf] at HFr
     generalize bendI ps k = bk at *
     go_wp2_with (first
      | (go_at_call 215; (with_reducible refine (HB.out _ (by repeat' (with_reducible first | exact .refl _ | assumption | refine .drew ?_ | refine .drewN ?_ _ | refine .alloc ?_ _ | refine .put ?_ (by omega) _ | refine .trans ?_ (by assumption)))).mono ?_); rintro e w2 ⟨rfl, hb2⟩)
      | (go_at_call 216; (with_reducible refine (HFr.out _ (by repeat' (with_reducible first | exact .refl _ | assumption | refine .drew ?_ | refine .drewN ?_ _ | refine .alloc ?_ _ | refine .put ?_ (by omega) _ | refine .trans ?_ (by assumption)))).mono ?_); rintro e w3 ⟨rfl, hb3⟩))
     go_ret
     exact ⟨ret_int (by rw [He.out, Hs.out]), hb.trans (hb2.trans hb3)⟩
    ·have hf' : freeB ps k = false := by simpa using hf
     have Hs := Lib.hid (first_miss hlt hf')
     rw [hf'] at HFr
     clear hf hf'
     generalize bendI ps k = bk at *
     go_wp2_with (first
      | (go_at_call 215; (with_reducible refine (HB.out _ (by repeat' (with_reducible first | exact .refl _ | assumption | refine .drew ?_ | refine .drewN ?_ _ | refine .alloc ?_ _ | refine .put ?_ (by omega) _ | refine .trans ?_ (by assumption)))).mono ?_); rintro e w2 ⟨rfl, hb2⟩)
      | (go_at_call 216; (with_reducible refine (HFr.out _ (by repeat' (with_reducible first | exact .refl _ | assumption | refine .drew ?_ | refine .drewN ?_ _ | refine .alloc ?_ _ | refine .put ?_ (by omega) _ | refine .trans ?_ (by assumption)))).mono ?_); rintro e w3 ⟨rfl, hb3⟩))
     go_roundw
     case rel => exact ⟨k + 1, by omega, by go_num, by rw [He.out, Hs.out], hb.trans (hb2.trans hb3)⟩
     case measure => simp [intOf]; omega
   ·have d1 : decide (0 < bendI ps k) = false := by simpa using hbd
    have Hs := Lib.hid (first_miss (t := freeB ps) hlt (by rw [hfb, d1]; rfl))
    clear hfb hbd
    generalize bendI ps k = bk at *
    go_wp2_with (first
     | (go_at_call 215; (with_reducible refine (HB.out _ (by repeat' (with_reducible first | exact .refl _ | assumption | refine .drew ?_ | refine .drewN ?_ _ | refine .alloc ?_ _ | refine .put ?_ (by omega) _ | refine .trans ?_ (by assumption)))).mono ?_); rintro e w2 ⟨rfl, hb2⟩))
    go_roundw
    case rel => exact ⟨k + 1, by omega, by go_num, by rw [He.out, Hs.out], hb.trans hb2⟩
    case measure => simp [intOf]; omega
  ·go_wp2
   go_ret
   exact ⟨ret_int (by rw [He.out, show ps.length - k = 0 by omega]; rfl), hb⟩
structure PV where
 A : Option Addr
 c : Nat
 ps : List Pt
def PV.cells (v : PV) : List Value := [.slice v.A v.ps.length v.c]
def PvOk (w : World) (v : PV) : Prop := v.ps.length ≤ v.c ∧ v.c ≤ maxLen ∧ Pts w v.A v.ps
theorem pv_len (v : PV) : v.cells.length = 1 := rfl
theorem pv_one (v : PV) : ∀ u ∈ v.cells, u.oneCell' = true := by
 intro u hu
 simp only [PV.cells, List.mem_cons, List.not_mem_nil, or_false] at hu
 rw [hu]; rfl
theorem slt_polys : SlT Tryz.prog 63 28 1 := SlT.mk (z := .slice none 0 0) (by_ := 24) Tryz.underlying63 (by kernel_rfl) (by omega) rfl (by omega)
theorem PvOk.later {w w' : World} {v : PV} (h : PvOk w v) (k : Later w w') : PvOk w' v := ⟨h.1, h.2.1, h.2.2.later k⟩
theorem OwnR.polys {w : World} {base : Nat} {v : Value} {l : List PV} (h : OwnR w base 28 1 PV.cells v l) (hok : ∀ p ∈ l, PvOk w p) : ∃ A c, v = .slice A l.length c ∧ l.length ≤ c ∧ c ≤ maxLen ∧ Polys w A (l.map PV.ps) := by
 obtain ⟨A, c, e, h1, h2, h3⟩ := h.form pv_len
 refine ⟨A, c, e, h1, h2, fun hn => ?_⟩
 obtain ⟨g, rfl, _, _, _, hx⟩ := h3 (by simpa using hn)
 refine ⟨g, 0, rfl, fun i ps hi => ?_⟩
 rw [List.getElem?_map] at hi
 obtain ⟨p, hp, rfl⟩ := Option.map_eq_some_iff.1 hi
 have hm := hok p (List.mem_of_getElem? hp)
 exact ⟨.slice p.A p.ps.length p.c, by have := hx i p hp 0 _ rfl; simpa using this, p.A, p.c, rfl, hm.1, hm.2.1, hm.2.2⟩
def lenOfV : Value → Nat
 | .slice _ n _ => n
 | _ => 0
theorem all_in_mem {l : List Pt} (h : ∀ p ∈ l, outP p = false) : AllIn l := gp_all (Q := fun p => outP p = false) rfl h
set_option maxHeartbeats 4000000 in
set_option maxRecDepth 100000 in
theorem ref13_Split_ok (A : Option Addr) (c : Nat) (ps : List Pt) (w : World) (hcap : ps.length ≤ c) (hp : Pts w A ps) (hok : checkI ps = 0) :
  Calls Tryz.prog 130 #[.slice A ps.length c] w (SplitPost2 (splitR ps) w) := by
 have HN := Lib.hid (fun W (hW : Later w W) => ref11_Normal A c ps W hcap (hp.later hW) hok)
 have hgood := normal_good hok
 have hin : ∀ p ∈ normalOf ps, outP p = false := by
  intro p hp
  obtain ⟨k, hk, he⟩ := List.getElem_of_mem hp
  rw [← he, ← gp_eq hk]
  exact normal_in hok k
 have hlen : (normalOf ps).length ≤ 40 := by
  have h1 := normal_len ps
  have h2 := corners_le ps
  have h3 := (simple_of_check hok).2.2
  omega
 have hsp : ∀ ts, splitOf ps = some ts → splitR ps = (ts, 0) := by
  intro ts h
  unfold splitR
  rw [if_pos hok, h]
 have Hsp := Lib.hid hsp
 have Hso := Lib.hid (show splitOf ps = splitGo (normalOf ps).length (normalOf ps) [] from rfl)
 clear hsp
 generalize normalOf ps = nl at *
 go_enter Tryz.func130, Tryz.ntmps130
 go_wp2_with (first
  | (go_at_call 173; (with_reducible refine (HN.out _ (by repeat' (with_reducible first | exact .refl _ | assumption | refine .drew ?_ | refine .drewN ?_ _ | refine .alloc ?_ _ | refine .put ?_ (by omega) _ | refine .trans ?_ (by assumption)))).mono ?_); rintro e w1 ⟨A1, c1, rfl, q1, q2, q3, hb1⟩))
 have hlw1 : Later w w1 := hb1
 go_loopw [4, 6] (fun lv ov wr => ∃ (l : List Pt) (acc : List PV) (A' : Option Addr) (c' : Nat), lv = .slice A' l.length c' ∧ l.length ≤ c' ∧ c' ≤ maxLen ∧ Pts wr A' l ∧ Good l ∧ (∀ p ∈ l, outP p = false) ∧ l.length ≤ 40 ∧ OwnR wr w.heap.size 28 1 PV.cells ov acc ∧ (∀ v ∈ acc, PvOk wr v ∧ Fence ov.ownBlock wr.heap.size v.A) ∧ Fence ov.ownBlock wr.heap.size A' ∧ acc.length + l.length ≤ 64 ∧ splitOf ps = splitGo l.length l (acc.map PV.ps) ∧ Later w wr) (fun lv _ _ => lenOfV lv)
 case atStart =>
  refine ⟨nl, [], A1, c1, rfl, q1, q2, q3, hgood, hin, hlen, World.ownsRow_nil _ _ _ _, (by intro v hv; cases hv), ?_, by simp; omega, Hso.out, hlw1⟩
  intro b o e
  refine ⟨(by intro q; cases q), ?_⟩
  have h3 : 3 ≤ nl.length := by have := hgood.1.1; simpa using this
  obtain ⟨b', o', e', hx⟩ := q3 (by omega)
  rw [e] at e'
  cases e'
  exact World.block_lt_of_cell? _ _ (hx.get (k := 0) (by omega)).1
 case round =>
  clear q1 q2 q3 hb1 hlw1 hgood hin hlen Hso
  obtain ⟨l, acc, A', c', rfl, q1, q2, q3, hg, hin, h40, hown, hok2, hfe, h64, hs, hb⟩ := hrel
  have Ho := Lib.hid hown
  have Hs := Lib.hid hs
  clear hown hs
  have h3 : 3 ≤ l.length := by have := hg.1.1; simpa using this
  obtain ⟨bb, ob, rfl, hat⟩ := id (q3 (by omega))
  have hsm : AllSm l := fun j => out_sm (all_in_mem hin j)
  by_cases hgt : 3 < l.length
  ·have d3 : decide ((3 : Int) < (l.length : Int)) = true := by rw [decide_eq_true_iff]; omega
   obtain ⟨f, hf⟩ : ∃ f, l.length = f + 1 := ⟨l.length - 1, by omega⟩
   have HFl := Lib.hid (fun W (hW : Later wr W) => ref13_flat bb ob c' l W (by omega) (hat.later hW) hsm)
   have HWo := Lib.hid (fun (j : Nat) (hj : j < l.length) W (hW : PtsAt W bb ob l) => ref13_without bb ob c' j l W (by omega) hj (by omega) q1 hW)
   have hel : ∀ j, j < l.length → (l.eraseIdx j).length = f := fun j hj => by rw [List.length_eraseIdx, if_pos hj]; omega
   have Hf := Lib.hid hf
   have Hel := Lib.hid hel
   clear hf hel
   have hein : ∀ j, ∀ p ∈ l.eraseIdx j, outP p = false := fun j p hp => hin p (List.mem_of_mem_eraseIdx hp)
   by_cases hst : 0 ≤ straightAt l
   ·obtain ⟨j1, j2⟩ := straight_flat hst
    have Hn := Lib.hid (show splitOf ps = splitGo (l.eraseIdx (straightAt l).toNat).length (l.eraseIdx (straightAt l).toNat) (acc.map PV.ps) by
     rw [Hs.out, Hel.out _ j1, Hf.out, splitGo, if_neg (by omega), if_pos hst])
    have hg2 := good_flat hg (by omega) j1 j2
    obtain ⟨j, hj⟩ : ∃ j : Nat, straightAt l = (j : Int) := ⟨(straightAt l).toNat, by omega⟩
    rw [hj, Int.toNat_natCast] at Hn hg2 j1
    rw [hj] at HFl
    have dj : decide ((j : Int) < 0) = false := by rw [decide_eq_false_iff_not]; omega
    clear hst j2 hj
    go_wp2_with (first
     | (go_at_call 174; (with_reducible refine (HFl.out _ (by repeat' (with_reducible first | exact .refl _ | assumption | refine .drew ?_ | refine .drewN ?_ _ | refine .alloc ?_ _ | refine .put ?_ (by omega) _ | refine .trans ?_ (by assumption)))).mono ?_); rintro e w2 ⟨rfl, hb2⟩)
     | (go_at_call 177; (with_reducible refine (HWo.out j j1 _ (hat.later (by repeat' (with_reducible first | exact .refl _ | assumption | refine .drew ?_ | refine .drewN ?_ _ | refine .alloc ?_ _ | refine .put ?_ (by omega) _ | refine .trans ?_ (by assumption))))).mono ?_); rintro e w3 ⟨g3, c3, rfl, r1, r2, r3, r4, r5, hb3⟩))
    have hl3 : Later wr w3 := hb2.trans hb3
    go_roundw
    case rel =>
     refine ⟨l.eraseIdx j, acc, some ⟨g3, 0, none⟩, c3, rfl, r1, r2, r3, hg2, hein j, by rw [Hel.out j j1]; have := Hf.out; omega, Ho.out.later hl3, fun v hv => ⟨(hok2 v hv).1.later hl3, (hok2 v hv).2.mono hl3.size⟩, ?_, by rw [Hel.out j j1]; have := Hf.out; omega, Hn.out, hb.trans hl3⟩
     intro b' o' e'
     cases e'
     refine ⟨fun q => ?_, r5⟩
     have := (World.ownsRow.lt Ho.out _ q.symm).2
     have := hb2.size
     omega
    case measure => simp only [lenOfV]; rw [Hel.out j j1]; have := Hf.out; omega
   ·obtain ⟨j0, hj0, hfj⟩ := free_exists hg (by omega)
    have hpos : 0 ≤ freeAt l := first_some (Nat.zero_le j0) (by omega) hfj
    rcases free_bd l with hneg | ⟨j, j1, j2, j3⟩
    ·omega
    have Hn := Lib.hid (show splitOf ps = splitGo (l.eraseIdx j).length (l.eraseIdx j) (acc.map PV.ps ++ [triOf l j]) by
     rw [Hs.out, Hel.out _ j1, Hf.out, splitGo, if_neg (by omega), if_neg hst, if_pos hpos, j2, Int.toNat_natCast])
    have hg2 := good_free hg (by omega) j1 j3
    have HE := Lib.hid (fun W (hW : Later wr W) => ref13_ear bb ob c' l W (by omega) (hat.later hW) (all_in_mem hin))
    rw [j2] at HE
    have HA := Lib.hid (fun W (hW : Later wr W) => ref13_around bb ob c' j l W (by omega) j1 (hat.later hW))
    have htr : triOf l j = [gp l ((j + l.length - 1) % l.length), gp l j, gp l ((j + 1) % l.length)] := rfl
    have dst : decide (straightAt l < 0) = true := by rw [decide_eq_true_iff]; omega
    have hmx : max (j : Int) 0 = (j : Int) := by omega
    have hmx2 : ¬ ((j : Int) < 0) := by omega
    generalize straightAt l = st at *
    clear hst hj0 hfj hpos j2 j3
    go_upto_region 9 with (first
     | (go_at_call 174; (with_reducible refine (HFl.out _ (by repeat' (with_reducible first | exact .refl _ | assumption | refine .drew ?_ | refine .drewN ?_ _ | refine .alloc ?_ _ | refine .put ?_ (by omega) _ | refine .trans ?_ (by assumption)))).mono ?_); rintro e w2 ⟨rfl, hb2⟩)
     | (go_at_call 175; (with_reducible refine (HE.out _ (by repeat' (with_reducible first | exact .refl _ | assumption | refine .drew ?_ | refine .drewN ?_ _ | refine .alloc ?_ _ | refine .put ?_ (by omega) _ | refine .trans ?_ (by assumption)))).mono ?_); rintro e w3 ⟨rfl, hb3⟩))
    have hl3 : Later wr w3 := hb2.trans hb3
    have Ho3 := Lib.hid (Ho.out.later hl3)
    rw [htr] at Hn
    clear htr
    generalize gp l ((j + l.length - 1) % l.length) = t0 at *
    generalize gp l j = t1 at *
    generalize gp l ((j + 1) % l.length) = t2 at *
    go_upto_region 10 with (first
     | (go_at_call 176; (with_reducible refine (HA.out _ (by repeat' (with_reducible first | exact .refl _ | assumption | refine .drew ?_ | refine .drewN ?_ _ | refine .alloc ?_ _ | refine .put ?_ (by omega) _ | refine .trans ?_ (by assumption)))).mono ?_); rintro e w4 ⟨g, rfl, p4, hg4, hb4⟩; have HS := Lib.hid (SrcAt.blk (Blk.new w4 28 #[.slice (some ⟨g, 0, none⟩) 3 3])); have Ho4 := Lib.hid (Ho3.out.later hb4))
     | (at_builtin; refine wpList_append_recf slt_polys pv_len pv_one rfl (.tmp 26) (.tmp 30) rfl (base := w.heap.size) (l := acc) rfl (OwnR.alloc Ho4.out _) (ad := ⟨w4.heap.size, 0, none⟩) (c := 1) [⟨some ⟨g, 0, none⟩, 3, [t0, t1, t2]⟩] rfl HS.out (by simp; omega) (by have := hb.size; have := hl3.size; have := hb4.size; simp; omega) ?_; intro A5 c5' w5 ho5 hg5 hf5))
    have hgz : g < w4.heap.size := World.block_lt_of_cell? _ _ (p4.get (k := 0) (by simp)).1
    have hl4 : Later wr w4 := hl3.trans hb4
    have hl5 : Later w w5 := Later.grown ((hb.trans hl4).alloc _) hg5 (fun g hg => (World.ownsRow.lt Ho.out g hg).1)
    have hfe4 : Fence u6.ownBlock (w4.alloc (.cells #[.slice (some ⟨g, 0, none⟩) 3 3] 28)).heap.size (some ⟨bb, ob, none⟩) := hfe.mono (by have := hl4.size; simp; omega)
    have q5 : Pts w5 (some ⟨bb, ob, none⟩) l := Pts.grown ((q3.later hl4).later ((Later.refl _).alloc _)) hg5 hfe4
    obtain ⟨b5, o5, e5, hat5⟩ := q5 (by omega)
    cases e5
    have hfeg : Fence u6.ownBlock (w4.alloc (.cells #[.slice (some ⟨g, 0, none⟩) 3 3] 28)).heap.size (some ⟨g, 0, none⟩) := by
     intro b' o' e'
     cases e'
     refine ⟨fun q => ?_, by simp; omega⟩
     have := (World.ownsRow.lt Ho.out _ q.symm).2
     have := hl3.size
     omega
    have hok5 : ∀ v ∈ acc ++ [(⟨some ⟨g, 0, none⟩, 3, [t0, t1, t2]⟩ : PV)], PvOk w5 v ∧ Fence (Value.slice A5 (acc ++ [(⟨some ⟨g, 0, none⟩, 3, [t0, t1, t2]⟩ : PV)]).length c5').ownBlock w5.heap.size v.A := by
     intro v hv
     rcases List.mem_append.1 hv with k | k
     ·obtain ⟨o1, o2⟩ := hok2 v k
      have o3 := o2.mono (m := (w4.alloc (.cells #[.slice (some ⟨g, 0, none⟩) 3 3] 28)).heap.size) (by have := hl4.size; simp; omega)
      exact ⟨⟨o1.1, o1.2.1, Pts.grown ((o1.2.2.later hl4).later ((Later.refl _).alloc _)) hg5 o3⟩, o3.fresh hf5 (Nat.le_refl _) hg5.size⟩
     ·rw [List.mem_singleton.1 k]
      refine ⟨⟨by simp, by show 3 ≤ maxLen; unfold maxLen; omega, Pts.grown (fun _ => ⟨g, 0, rfl, p4.later ((Later.refl _).alloc _)⟩) hg5 hfeg⟩, hfeg.fresh hf5 (Nat.le_refl _) hg5.size⟩
    have Hok5 := Lib.hid hok5
    have Ho5 := Lib.hid ho5
    clear hok5 ho5 hok2
    simp only [List.length_append, List.length_singleton] at Ho5 Hok5
    go_wp2_with (first
     | (go_at_call 177; (with_reducible refine (HWo.out j j1 _ hat5).mono ?_); rintro e w6 ⟨g6, c6, rfl, r1, r2, r3, r4, r5, hb6⟩))
    go_roundw
    case rel =>
     refine ⟨l.eraseIdx j, acc ++ [⟨some ⟨g, 0, none⟩, 3, [t0, t1, t2]⟩], some ⟨g6, 0, none⟩, c6, rfl, r1, r2, r3, hg2, hein j, by rw [Hel.out j j1]; have := Hf.out; omega, Ho5.out.later hb6, fun v hv => ⟨(Hok5.out v hv).1.later hb6, (Hok5.out v hv).2.mono hb6.size⟩, ?_, by rw [Hel.out j j1]; have := Hf.out; simp; omega, by rw [Hn.out, List.map_append]; rfl, hl5.trans hb6⟩
     intro b' o' e'
     cases e'
     refine ⟨fun q => ?_, r5⟩
     have := (World.ownsRow.lt Ho5.out _ q.symm).2
     omega
    case measure => simp only [lenOfV]; rw [Hel.out j j1]; have := Hf.out; omega
  ·have d3 : decide ((3 : Int) < (l.length : Int)) = false := by rw [decide_eq_false_iff_not]; omega
   have hres : splitR ps = (acc.map PV.ps ++ [l], 0) := Hsp.out _ (by rw [Hs.out]; exact split_small (by omega))
   have Hres := Lib.hid hres
   clear hres
   have HS := Lib.hid (SrcAt.blk (Blk.new wr 28 #[.slice (some ⟨bb, ob, none⟩) l.length c']))
   go_wp2_with (first
    | (at_builtin; refine wpList_append_recf slt_polys pv_len pv_one rfl (.tmp 35) (.tmp 37) rfl (base := w.heap.size) (l := acc) rfl (OwnR.alloc Ho.out _) (ad := ⟨wr.heap.size, 0, none⟩) (c := 1) [⟨some ⟨bb, ob, none⟩, c', l⟩] rfl HS.out (by simp; omega) (by have := hb.size; simp; omega) ?_; intro A5 c5' w5 ho5 hg5 hf5))
   go_ret2
   have hl5 : Later w w5 := Later.grown (hb.alloc _) hg5 (fun g hg => (World.ownsRow.lt Ho.out g hg).1)
   have hok5 : ∀ v ∈ acc ++ [(⟨some ⟨bb, ob, none⟩, c', l⟩ : PV)], PvOk w5 v := by
    intro v hv
    rcases List.mem_append.1 hv with k | k
    ·obtain ⟨o1, o2⟩ := hok2 v k
     exact ⟨o1.1, o1.2.1, Pts.grown (o1.2.2.later ((Later.refl _).alloc _)) hg5 (o2.mono (by simp))⟩
    ·rw [List.mem_singleton.1 k]
     exact ⟨q1, q2, Pts.grown (q3.later ((Later.refl _).alloc _)) hg5 (hfe.mono (by simp))⟩
   obtain ⟨A6, c6, e6, p1, p2, p3⟩ := ho5.polys hok5
   cases e6
   rw [Hres.out]
   refine ⟨A5, c5', ?_, by simpa using p1, by rw [List.map_append] at p3; exact p3, hl5⟩
   simp
set_option maxHeartbeats 1000000 in
theorem ref13_Split_err (A : Option Addr) (c : Nat) (ps : List Pt) (w : World) (hn : ps.length ≤ 1099511627776) (hcap : ps.length ≤ c) (hp : Pts w A ps) (hok : checkI ps ≠ 0) :
  Calls Tryz.prog 130 #[.slice A ps.length c] w (Ret (.tuple #[.slice none 0 0, .int .i64 (checkI ps)]) w) := by
 have hC := ref11_Normal_err A c ps w hn hcap hp hok
 generalize checkI ps = e0 at *
 have h0 : (e0 != 0) = true := by simpa using hok
 have HC := Lib.hid hC
 clear hC hok
 go_enter Tryz.func130, Tryz.ntmps130
 go_wp2_with (first | (go_at_call 173; refine HC.out.mono ?_; rintro e w1 ⟨rfl, hb1⟩))
 go_ret2
 exact ⟨rfl, hb1⟩
theorem ref13_Split (A : Option Addr) (c : Nat) (ps : List Pt) (w : World) (hn : ps.length ≤ 1099511627776) (hcap : ps.length ≤ c) (hp : Pts w A ps) :
  Calls Tryz.prog 130 #[.slice A ps.length c] w (SplitPost2 (splitR ps) w) := by
 by_cases hok : checkI ps = 0
 ·exact ref13_Split_ok A c ps w hcap hp hok
 ·refine (ref13_Split_err A c ps w hn hcap hp hok).mono ?_
  intro e w' h
  unfold splitR
  rw [if_neg hok]
  exact ⟨none, 0, h.1, Nat.le_refl _, polys_nil _ _, h.2⟩
end Go.Proofs.YtdhakoecjmaebaaGreat
