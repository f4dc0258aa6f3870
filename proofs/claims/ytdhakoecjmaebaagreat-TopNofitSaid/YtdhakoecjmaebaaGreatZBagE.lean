/-
  The bag of endings of package fill: its memory, and the walk of its method add. Printed by genbag.py out of the bag of spots.
-/
import Derived.Test.YtdhakoecjmaebaaGreatZPreA
namespace Go.Proofs.YtdhakoecjmaebaaGreat
open Go.RowKit Go.Lib Go.ChangeMaps Go.MapKept Go.WideShapes
open Go.Maps (Keyed)
set_option linter.unusedSimpArgs false
set_option linter.unusedVariables false

instance instPu : DecidableEq Pu := fun a b => decidable_of_iff (a.sh = b.sh ∧ a.fl = b.fl ∧ a.q = b.q ∧ a.x = b.x ∧ a.y = b.y) (by cases a; cases b; simp)
instance instEn : DecidableEq En := fun a b => decidable_of_iff (a.p = b.p ∧ a.r = b.r) (by cases a; cases b; simp)
def en6 (e : En) : List Value := [.int .i64 e.p.sh, .bool e.p.fl, .int .i64 e.p.q, .int .i64 e.p.x, .int .i64 e.p.y, .int .i64 e.r]
theorem en6_len (e : En) : (en6 e).length = 6 := rfl
theorem en6_one (e : En) : ∀ u ∈ en6 e, u.oneCell' = true := by
  intro u hu
  simp only [en6, List.mem_cons, List.not_mem_nil, or_false] at hu
  rcases hu with rfl | rfl | rfl | rfl | rfl | rfl <;> rfl
theorem slt_en : SlT Tryz.prog 119 128 6 := SlT.mk (z := .agg #[.int .i64 0, .bool false, .int .i64 0, .int .i64 0, .int .i64 0, .int .i64 0]) (by_ := 48) Tryz.underlying119 (by kernel_rfl) (by omega) rfl (by omega)
def R64 (n : Int) : Prop := -9223372036854775808 ≤ n ∧ n ≤ 9223372036854775807
def I64E (e : En) : Prop := R64 e.p.sh ∧ R64 e.p.q ∧ R64 e.p.x ∧ R64 e.p.y ∧ R64 e.r
def encE (e : En) : Value := .agg #[.int .i64 e.p.sh, .bool e.p.fl, .int .i64 e.p.q, .int .i64 e.p.x, .int .i64 e.p.y, .int .i64 e.r]
theorem en_keyed : Keyed Tryz.prog 128 := Keyed.of_law (deep_law_laid laid_out (m := 4) (by omega) (of_decide_eq_true (by kernel_rfl)) (by kernel_rfl) (by rw [Tryz.underlying128]))
theorem lits_bool {d : Nat} {b : Bool} : Tryz.prog.keyLits (d + 1) 4 [.bool b] = some [.bool b] := by
  unfold Program.keyLits
  rw [Tryz.underlying4]
theorem lits_spot {d : Nat} {x y : Int} (hx : R64 x) (hy : R64 y) : Tryz.prog.keyLits (d + 1 + 1) 29 [.int .i64 x, .int .i64 y] = some [.int .i64 x, .int .i64 y] := by
  have hc : Tryz.prog.cellsOf 29 = 2 := by kernel_rfl
  have hc1 : Tryz.prog.cellsOf 3 = 1 := by kernel_rfl
  unfold Program.keyLits
  rw [Tryz.underlying29]
  simp [hc, hc1, lits_int hx, lits_int hy]
theorem lits_turn {d : Nat} {b : Bool} {q : Int} (hq : R64 q) : Tryz.prog.keyLits (d + 1 + 1) 42 [.bool b, .int .i64 q] = some [.bool b, .int .i64 q] := by
  have hc : Tryz.prog.cellsOf 42 = 2 := by kernel_rfl
  have hc1 : Tryz.prog.cellsOf 3 = 1 := by kernel_rfl
  have hc2 : Tryz.prog.cellsOf 4 = 1 := by kernel_rfl
  unfold Program.keyLits
  rw [Tryz.underlying42]
  simp [hc, hc1, hc2, lits_int hq, lits_bool]
theorem lits_put {d : Nat} {p : Pu} (h : R64 p.sh ∧ R64 p.q ∧ R64 p.x ∧ R64 p.y) : Tryz.prog.keyLits (d + 1 + 1 + 1) 44 [.int .i64 p.sh, .bool p.fl, .int .i64 p.q, .int .i64 p.x, .int .i64 p.y] = some [.int .i64 p.sh, .bool p.fl, .int .i64 p.q, .int .i64 p.x, .int .i64 p.y] := by
  have hc : Tryz.prog.cellsOf 44 = 5 := by kernel_rfl
  have hc1 : Tryz.prog.cellsOf 3 = 1 := by kernel_rfl
  have hc2 : Tryz.prog.cellsOf 42 = 2 := by kernel_rfl
  have hc3 : Tryz.prog.cellsOf 29 = 2 := by kernel_rfl
  unfold Program.keyLits
  rw [Tryz.underlying44]
  simp [hc, hc1, hc2, hc3, lits_int h.1, lits_turn h.2.1, lits_spot h.2.2.1 h.2.2.2]
theorem en_key {e : En} (h : I64E e) : ∃ kl, keyOf Tryz.prog 128 (encE e) = some kl := by
  refine ⟨.string (keyBytes [.int .i64 e.p.sh, .bool e.p.fl, .int .i64 e.p.q, .int .i64 e.p.x, .int .i64 e.p.y, .int .i64 e.r]), ?_⟩
  have hkt : Tryz.prog.keyType 128 = true := by kernel_rfl
  have hc : Tryz.prog.cellsOf 128 = 6 := by kernel_rfl
  have hc1 : Tryz.prog.cellsOf 3 = 1 := by kernel_rfl
  have hc2 : Tryz.prog.cellsOf 44 = 5 := by kernel_rfl
  have hfm : (encE e).formed Tryz.prog 128 = true := by simp [encE, Value.formed, Tryz.underlying128, hc]
  have hl : ∀ d, Tryz.prog.keyLits (d + 1 + 1 + 1 + 1) 128 [.int .i64 e.p.sh, .bool e.p.fl, .int .i64 e.p.q, .int .i64 e.p.x, .int .i64 e.p.y, .int .i64 e.r] = some [.int .i64 e.p.sh, .bool e.p.fl, .int .i64 e.p.q, .int .i64 e.p.x, .int .i64 e.p.y, .int .i64 e.r] := by
    intro d
    unfold Program.keyLits
    rw [Tryz.underlying128]
    simp [hc, hc1, hc2, lits_int h.2.2.2.2, lits_put ⟨h.1, h.2.1, h.2.2.1, h.2.2.2.1⟩]
  unfold keyOf
  rw [Tryz.underlying128]
  simp only [hkt, hfm, Bool.and_true, if_true]
  obtain ⟨d, hd⟩ : ∃ d, Tryz.prog.types.size + 1 = d + 1 + 1 + 1 + 1 := ⟨Tryz.prog.types.size - 3, by
    have h0 : 3 < Tryz.prog.types.size := of_decide_eq_true (by kernel_rfl)
    omega⟩
  rw [hd]
  show Option.map _ (Tryz.prog.keyLits (d + 1 + 1 + 1 + 1) 128 [.int .i64 e.p.sh, .bool e.p.fl, .int .i64 e.p.q, .int .i64 e.p.x, .int .i64 e.p.y, .int .i64 e.r]) = _
  rw [hl]
  rfl
theorem en_enc : KeyEnc Tryz.prog 128 encE I64E where
  keyed := en_keyed
  key := en_key
  inj := by
    intro a b e
    obtain ⟨⟨a1, a2, a3, a4, a5⟩, a6⟩ := a
    obtain ⟨⟨b1, b2, b3, b4, b5⟩, b6⟩ := b
    unfold encE at e
    injection e with e
    simp at e
    obtain ⟨e1, e2, e3, e4, e5, e6⟩ := e
    subst e1 e2 e3 e4 e5 e6
    rfl
def addE (l : List En) (e : En) : List En := if e ∈ l then l else l ++ [e]
def addAllE (l xs : List En) : List En := xs.foldl addE l
theorem addAllE_len : ∀ (xs l : List En), (addAllE l xs).length ≤ l.length + xs.length
  | [], l => by simp [addAllE]
  | x :: xs, l => by
    have := addAllE_len xs (addE l x)
    have h : (addE l x).length ≤ l.length + 1 := by unfold addE; split <;> simp
    unfold addAllE at *
    rw [List.foldl_cons, List.length_cons]
    omega
theorem addAllE_next {l r : List En} {j : Nat} (h : j < r.length) : addAllE l (r.take (j + 1)) = addE (addAllE l (r.take j)) r[j] := by
  unfold addAllE
  rw [List.take_add_one, List.getElem?_eq_getElem h, List.foldl_append]
  rfl
/-- Endings in memory. -/
def Ens (w : World) (A : Option Addr) (l : List En) : Prop := ListAt w 6 en6 (fun _ _ => True) A l
theorem Ens.kept {F : Nat → Prop} {w w' : World} {A : Option Addr} {ps : List En} (h : Ens w A ps) (k : Keep F w w') (hA : ∀ b o, A = some ⟨b, o, Option.none⟩ → ¬ F b ∧ b < w.heap.size) : Ens w' A ps := fun hn => by
  obtain ⟨b, o, e, hx⟩ := h hn
  obtain ⟨f1, f2⟩ := hA b o e
  have hc : ∀ k, w'.cell? ⟨b, k, Option.none⟩ = w.cell? ⟨b, k, Option.none⟩ := fun j => World.cell?_of_block (a := ⟨b, j, Option.none⟩) (k.2.2.2.2 b f2 f1)
  exact ⟨b, o, e, fun i p hp => ⟨fun j u hu => by rw [hc]; exact (hx i p hp).1 j u hu, trivial⟩⟩
theorem Ens.at_ {w : World} {A : Option Addr} {l : List En} (h : Ens w A l) {k : Nat} (hk : k < l.length) :
    ∃ b o, A = some ⟨b, o, none⟩ ∧ w.cell? ⟨b, o + k * 6, none⟩ = some (.int .i64 l[k].p.sh) ∧ w.cell? ⟨b, o + k * 6 + 1, none⟩ = some (.bool l[k].p.fl) ∧ w.cell? ⟨b, o + k * 6 + 2, none⟩ = some (.int .i64 l[k].p.q) ∧ w.cell? ⟨b, o + k * 6 + 3, none⟩ = some (.int .i64 l[k].p.x) ∧ w.cell? ⟨b, o + k * 6 + 4, none⟩ = some (.int .i64 l[k].p.y) ∧ w.cell? ⟨b, o + k * 6 + 5, none⟩ = some (.int .i64 l[k].r) := by
  obtain ⟨b, o, e, hc⟩ := h (by omega)
  obtain ⟨h1, h2⟩ := hc k _ (List.getElem?_eq_getElem hk)
  exact ⟨b, o, e, h1 0 _ rfl, h1 1 _ rfl, h1 2 _ rfl, h1 3 _ rfl, h1 4 _ rfl, h1 5 _ rfl⟩

/-- Block g is a bag that has the elements of l, in that order; its memory lies in F. -/
structure BagE (w : World) (g : Nat) (l : List En) (F : Nat → Prop) (o : Option Nat) (v : Value) : Prop where
  blk : Blk w g 121 #[.map o, v]
  row : OwnR w 0 128 6 en6 v l
  none : o = none → l = []
  map : ∀ m, o = some m → SetM encE I64E w m l ∧ F m
  own : F g
  rowF : ∀ k, v.ownBlock = some k → F k
theorem BagE.mono {w : World} {g : Nat} {l : List En} {F G : Nat → Prop} {o : Option Nat} {v : Value} (h : BagE w g l F o v) (k : ∀ j, F j → G j) : BagE w g l G o v :=
  ⟨h.blk, h.row, h.none, fun m e => ⟨(h.map m e).1, k _ (h.map m e).2⟩, k _ h.own, fun j e => k _ (h.rowF j e)⟩
theorem BagE.cut {w : World} {g : Nat} {l : List En} {F : Nat → Prop} {o : Option Nat} {v : Value} (h : BagE w g l F o v) : BagE w g l (fun k => F k ∧ k < w.heap.size) o v :=
  ⟨h.blk, h.row, h.none, fun m e => ⟨(h.map m e).1, (h.map m e).2, (h.map m e).1.lt⟩, ⟨h.own, h.blk.lt⟩, fun j e => ⟨h.rowF j e, (World.ownsRow.lt h.row j e).2⟩⟩
theorem BagE.later {w w' : World} {g : Nat} {l : List En} {F : Nat → Prop} {o : Option Nat} {v : Value} (h : BagE w g l F o v) (k : Later w w') : BagE w' g l F o v :=
  ⟨h.blk.later k, h.row.later k, h.none, fun m e => ⟨(h.map m e).1.later k, (h.map m e).2⟩, h.own, h.rowF⟩
theorem BagE.map_ne {w : World} {g : Nat} {l : List En} {F : Nat → Prop} {m : Nat} {v : Value} (h : BagE w g l F (some m) v) : m ≠ g := by
  obtain ⟨es, clock, hb, _⟩ := (h.map m rfl).1
  rintro rfl
  have := h.blk
  unfold Blk at this
  rw [hb] at this
  cases this
theorem BagE.row_ne {w : World} {g : Nat} {l : List En} {F : Nat → Prop} {o : Option Nat} {v : Value} (h : BagE w g l F o v) : v.ownBlock ≠ some g := by
  intro e
  rcases h.row.2 with ⟨h1, _⟩ | ⟨g', cap, cur, hv, _, hg, _⟩
  · rw [h1] at e; cases e
  · subst hv
    cases e
    have := h.blk
    unfold Blk at this
    rw [hg] at this
    simp at this
theorem BagE.row_map {w : World} {g : Nat} {l : List En} {F : Nat → Prop} {m : Nat} {v : Value} (h : BagE w g l F (some m) v) : v.ownBlock ≠ some m := by
  intro e
  obtain ⟨es, clock, hb, _⟩ := (h.map m rfl).1
  rcases h.row.2 with ⟨h1, _⟩ | ⟨g', cap, cur, hv, _, hg, _⟩
  · rw [h1] at e; cases e
  · subst hv
    cases e
    rw [hb] at hg
    cases hg
theorem BagE.drewN {w : World} {g : Nat} {l : List En} {F : Nat → Prop} {o : Option Nat} {v : Value} (h : BagE w g l F o v) (n : Nat) : BagE (w.drewN n) g l F o v := h.later ((Later.refl _).drewN n)
theorem BagE.drew {w : World} {g : Nat} {l : List En} {F : Nat → Prop} {o : Option Nat} {v : Value} (h : BagE w g l F o v) : BagE w.drew g l F o v := h.later (Later.refl _).drew

def AddPostE (g : Nat) (l xs : List En) (F : Nat → Prop) (w : World) (e : Ending) (w' : World) : Prop := e = .returned (.tuple #[]) ∧ ∃ o v, BagE w' g (addAllE l xs) (fun k => F k ∨ w.heap.size ≤ k) o v ∧ Keep F w w'
set_option maxHeartbeats 8000000 in
set_option maxRecDepth 100000 in
theorem bag_addE (g : Nat) (l xs : List En) (F : Nat → Prop) (o : Option Nat) (v0 : Value) (A : Option Addr) (c : Nat) (w : World) (hb : BagE w g l F o v0) (hA : ∀ b o, A = some ⟨b, o, none⟩ → ¬ F b ∧ b < w.heap.size) (px : Ens w A xs) (hx : ∀ p ∈ xs, I64E p) (hn : l.length + xs.length ≤ 60000) :
    Calls Tryz.prog 53 #[.pointer (some ⟨g, 0, none⟩), .slice A xs.length c] w (AddPostE g l xs F w) := by
  have hmm := @run_makeMap Tryz.prog
  have hnil := fun (W : World) (r : Option Nat) => run_eql_map_nil W 118 _ _ r Tryz.underlying118
  have Hpx := Lib.hid px
  have HA := Lib.hid hA
  have Hxs := Lib.hid hx
  clear px hA hx
  have g0 : w.cell? ⟨g, 0, none⟩ = some (.map o) := hb.blk.cell 0
  have f0 := hb.blk.frozen 0
  have zg := hb.blk.lt
  rcases o with _ | m
  · have hl0 := hb.none rfl
    have Hb := Lib.hid hb
    clear hb
    go_enter Tryz.func53, Tryz.ntmps53
    go_upto_region 3 with fail
    refine name_world (fun W3 hW3 => ?_)
    have hb := Hb.out
    have hbg : Blk W3 g 121 #[.map (some w.heap.size), v0] := by rw [hW3]; exact (hb.blk.set_ 0 _).alloc _
    have hsm : SetM encE I64E W3 w.heap.size l := by
      rw [hW3, hl0]
      have h := SetM.made (enc := encE) (ok := I64E) (w.setCell ⟨g, 0, none⟩ (.map (some w.heap.size)))
      simpa using h
    have hrw : OwnR W3 0 128 6 en6 v0 l := by
      rw [hW3]
      exact (OwnR.ofBlk hb.row (fun k e => Below.heap_setCell _ ⟨g, 0, none⟩ _ k (fun e2 => hb.row_ne (by rw [e, e2])))).alloc _
    have HK0 : Hid (Keep (fun k => F k ∨ w.heap.size ≤ k) w W3) := Lib.hid (by rw [hW3]; exact ((Keep.refl _ w).put (Or.inl hb.own) _ _).alloc _)
    have HB0 : Hid (BagE W3 g l (fun k => F k ∨ w.heap.size ≤ k) (some w.heap.size) v0) := Lib.hid ⟨hbg, hrw, (fun e => by cases e), (fun m' e => by cases e; exact ⟨hsm, Or.inr (Nat.le_refl _)⟩), Or.inl hb.own, fun k e => Or.inl (hb.rowF k e)⟩
    clear hW3 g0 f0 zg hmm hnil hb hbg hsm hrw Hb
    obtain ⟨m, HB0⟩ : ∃ m, Hid (BagE W3 g l (fun k => F k ∨ w.heap.size ≤ k) (some m) v0) := ⟨_, HB0⟩
    clear hl0
    go_loopw [17] (fun iv wr => ∃ (k : Nat) (v : Value), k ≤ xs.length ∧ iv = .int .i64 k ∧ BagE wr g (addAllE l (xs.take k)) (fun k => F k ∨ w.heap.size ≤ k) (some m) v ∧ Keep (fun k => F k ∨ w.heap.size ≤ k) w wr) (fun iv _ => xs.length - (intOf iv).toNat)
    case atStart => exact ⟨0, _, by omega, rfl, by simpa [addAllE] using HB0.out, HK0.out⟩
    case round =>
      obtain ⟨k, v, hk, rfl, hB, hK⟩ := hrel
      by_cases hlt : k < xs.length
      · obtain ⟨b1, o1, rfl, x1, x2, x3, x4, x5, x6⟩ := (Hpx.out.kept hK (fun b o e => ⟨fun h => h.elim (HA.out b o e).1 (fun h => by have := (HA.out b o e).2; omega), (HA.out b o e).2⟩)).at_ hlt
        have zb := World.block_lt_of_cell? _ _ x1
        have han := addAllE_next (l := l) hlt
        have hpn := Hxs.out _ (List.getElem_mem hlt)
        have hal : (addAllE l (xs.take k)).length ≤ 60000 := by
          have := addAllE_len (xs.take k) l
          rw [List.length_take] at this
          omega
        generalize xs[k] = p at *
        generalize addAllE l (xs.take k) = cur at *
        have Hnx0 := Lib.hid han
        clear han
        obtain ⟨⟨e1, e2, e3, e4, e5⟩, e6⟩ := p
        simp only [] at x1 x2 x3 x4 x5 x6
        go_upto_region 5 with fail
        refine name_world (fun Wp hWp => ?_)
        have hbp : Later wr Wp := by rw [hWp]; exact (by repeat' (with_reducible first | exact Later.refl _ | assumption | refine Later.drew ?_ | refine Later.drewN ?_ _ | refine Later.alloc ?_ _ | refine Later.put ?_ (by omega) _ | refine Later.trans ?_ (by assumption)))
        have Dp : Blk Wp wr.heap.size 128 #[.int .i64 e1, .bool e2, .int .i64 e3, .int .i64 e4, .int .i64 e5, .int .i64 e6] := by rw [hWp]; exact (by repeat' (with_reducible first | assumption | (refine Blk.newAt ?_; simp; done) | refine Blk.alloc ?_ _ | refine Blk.drew ?_ | refine Blk.drewN ?_ _ | refine Blk.later ?_ (by assumption)))
        have hBp := hB.later hbp
        have hKp := hK.later hbp
        have hgp : wr.heap.size ≠ g := by have := hB.blk.lt; omega
        have hgm : wr.heap.size ≠ m := by have := (hB.map m rfl).1.lt; omega
        have hgr : v.ownBlock ≠ some wr.heap.size := fun e => by have := (World.ownsRow.lt hB.row _ e).2; omega
        have hgF : w.heap.size ≤ wr.heap.size := hK.2.2.2.1
        clear hWp x1 x2 x3 x4 x5 x6 zb hB hK
        generalize wr.heap.size = gp at *
        have k0 : Wp.cell? ⟨gp, 0, none⟩ = some (.int .i64 e1) := Dp.cell 0
        have k1 : Wp.cell? ⟨gp, 1, none⟩ = some (.bool e2) := Dp.cell 1
        have k2 : Wp.cell? ⟨gp, 2, none⟩ = some (.int .i64 e3) := Dp.cell 2
        have k3 : Wp.cell? ⟨gp, 3, none⟩ = some (.int .i64 e4) := Dp.cell 3
        have k4 : Wp.cell? ⟨gp, 4, none⟩ = some (.int .i64 e5) := Dp.cell 4
        have k5 : Wp.cell? ⟨gp, 5, none⟩ = some (.int .i64 e6) := Dp.cell 5
        have g0 : Wp.cell? ⟨g, 0, none⟩ = some (.map (some m)) := hBp.blk.cell 0
        have zp := Dp.lt
        have zg := hBp.blk.lt
        have hlook := fun n => ((hBp.drewN n).map m rfl).1.look en_enc Tryz.underlying118 (show (zeroValue 4).run Tryz.prog (Wp.drewN n) = .ok (.bool false) (Wp.drewN n) by go_simp) (a := ⟨⟨e1, e2, e3, e4, e5⟩, e6⟩) hpn
        unfold encE at hlook
        simp only [] at hlook
        by_cases hin : (⟨⟨e1, e2, e3, e4, e5⟩, e6⟩ : En) ∈ cur
        · have Hnx := Lib.hid (show addAllE l (xs.take (k + 1)) = cur by rw [Hnx0.out]; unfold addE; rw [if_pos hin])
          simp only [decide_eq_true hin] at hlook
          go_quiet (fail)
          go_wp2
          go_roundw
          case rel => exact ⟨k + 1, v, by omega, by go_num, by rw [Hnx.out]; exact hBp.drewN _, hKp.drewN _⟩
          case measure => simp [intOf]; omega
        · have Hnx := Lib.hid (show addAllE l (xs.take (k + 1)) = cur ++ [⟨⟨e1, e2, e3, e4, e5⟩, e6⟩] by rw [Hnx0.out]; unfold addE; rw [if_neg hin])
          simp only [decide_eq_false hin] at hlook
          go_quiet (fail)
          clear hlook k0 k1 k2 k3 k4 k5 g0
          go_upto_region 6 with fail
          refine name_world (fun W6 hW6 => ?_)
          have hl6 : Later Wp W6 := by rw [hW6]; exact (by repeat' (with_reducible first | exact Later.refl _ | assumption | refine Later.drew ?_ | refine Later.drewN ?_ _ | refine Later.alloc ?_ _ | refine Later.put ?_ (by omega) _ | refine Later.trans ?_ (by assumption)))
          clear hW6
          have D6 := Dp.later hl6
          have hB6 := hBp.later hl6
          have hK6 := hKp.later hl6
          have k0 : W6.cell? ⟨gp, 0, none⟩ = some (.int .i64 e1) := D6.cell 0
          have k1 : W6.cell? ⟨gp, 1, none⟩ = some (.bool e2) := D6.cell 1
          have k2 : W6.cell? ⟨gp, 2, none⟩ = some (.int .i64 e3) := D6.cell 2
          have k3 : W6.cell? ⟨gp, 3, none⟩ = some (.int .i64 e4) := D6.cell 3
          have k4 : W6.cell? ⟨gp, 4, none⟩ = some (.int .i64 e5) := D6.cell 4
          have k5 : W6.cell? ⟨gp, 5, none⟩ = some (.int .i64 e6) := D6.cell 5
          have g0 : W6.cell? ⟨g, 0, none⟩ = some (.map (some m)) := hB6.blk.cell 0
          have zp := D6.lt
          have zg := hB6.blk.lt
          obtain ⟨w7, y1, y2, y3, y4⟩ := (hB6.drew.map m rfl).1.put en_enc Tryz.underlying118 (a := ⟨⟨e1, e2, e3, e4, e5⟩, e6⟩) hpn hin
          unfold encE at y1
          simp only [] at y1
          have hmgne := hB6.map_ne
          have hrgne := hB6.row_ne
          have hrmne := hB6.row_map
          have q67 : ∀ k, k < W6.heap.size → k ≠ m → w7.heap[k]? = W6.heap[k]? := fun k hk hne => y3.block k hk (fun e => hne (by injection e))
          have hG7 : Blk w7 g 121 #[.map (some m), v] := (q67 g hB6.blk.lt hmgne.symm).trans hB6.blk
          have hD7 : Blk w7 gp 128 #[.int .i64 e1, .bool e2, .int .i64 e3, .int .i64 e4, .int .i64 e5, .int .i64 e6] := (q67 gp D6.lt hgm).trans D6
          have hO7 := Lib.hid (OwnR.ofBlk hB6.row (fun k e => q67 k (World.ownsRow.lt hB6.row k e).2 (fun e2 => hrmne (by rw [e, e2]))))
          have HFg := Lib.hid hB6.own
          have HFm := Lib.hid (hB6.map m rfl).2
          have HFv := Lib.hid hB6.rowF
          have HK7 := Lib.hid ((Keep.drew hK6).grown y3 (fun k e => by cases e; exact HFm.out))
          have hk7 : w.heap.size ≤ w7.heap.size := HK7.out.2.2.2.1
          have Hs7 := Lib.hid y2
          have Hmg := Lib.hid hmgne
          have Hrg := Lib.hid hrgne
          have Hrm := Lib.hid hrmne
          have Hrp := Lib.hid hgr
          have Hgp := Lib.hid hgp
          refine wp_region_still_tail 5 (by kernel_rfl) (by kernel_rfl) ?_
          simp only [List.take_succ_cons, List.take_zero, List.drop_succ_cons, List.drop_zero]
          repeat still_step
          refine wpStill_nil ?_
          change wpList _ _ _ _ _ (World.drew _)
          clear k0 k1 k2 k3 k4 k5 g0 zp zg
          go_upto_region 7 with fail
          clear y1 y2 y3 y4 D6 hB6 hK6 q67 hmgne hrgne hrmne hgr hgp Dp hBp hKp hbp hl6
          have G7 := hG7
          have D7 := hD7
          have hcl : cur.length ≤ 60000 := hal
          have hS : ∀ w' : World, Blk w' gp 128 #[.int .i64 e1, .bool e2, .int .i64 e3, .int .i64 e4, .int .i64 e5, .int .i64 e6] → (w'.cell? ⟨gp, 0, none⟩ = some (.int .i64 e1) ∧ w'.cell? ⟨gp, 1, none⟩ = some (.bool e2) ∧ w'.cell? ⟨gp, 2, none⟩ = some (.int .i64 e3) ∧ w'.cell? ⟨gp, 3, none⟩ = some (.int .i64 e4) ∧ w'.cell? ⟨gp, 4, none⟩ = some (.int .i64 e5) ∧ w'.cell? ⟨gp, 5, none⟩ = some (.int .i64 e6) ∧ gp < w'.heap.size) := fun w' h => ⟨h.cell 0, h.cell 1, h.cell 2, h.cell 3, h.cell 4, h.cell 5, h.lt⟩
          refine wp_region_held_drew (S := fun w' : World => w'.cell? ⟨gp, 0, none⟩ = some (.int .i64 e1) ∧ w'.cell? ⟨gp, 1, none⟩ = some (.bool e2) ∧ w'.cell? ⟨gp, 2, none⟩ = some (.int .i64 e3) ∧ w'.cell? ⟨gp, 3, none⟩ = some (.int .i64 e4) ∧ w'.cell? ⟨gp, 4, none⟩ = some (.int .i64 e5) ∧ w'.cell? ⟨gp, 5, none⟩ = some (.int .i64 e6) ∧ gp < w'.heap.size) (by kernel_rfl) (hS _ D7.drew) (fun hHeld => ?_)
          refine take_at (i := 0) (d := 33) (v := ?_) rfl rfl (by kernel_rfl) (by kernel_rfl) (by kernel_rfl) (fun _ _ _ h => h) (by rfl) ?_ (by assumption) ?_
          rotate_left
          · (intro w hSw; (try dsimp only at hSw); go_simp; (try with_reducible rfl))
          simp only [Act.put, List.setIfInBounds_toArray, List.set_cons_zero, List.set_cons_succ]
          refine take_at (i := 1) (d := 34) (v := ?_) rfl rfl (by kernel_rfl) (by kernel_rfl) (by kernel_rfl) (fun _ _ _ h => h) (by rfl) ?_ (by assumption) ?_
          rotate_left
          · (intro w hSw; (try dsimp only at hSw); go_simp; (try with_reducible rfl))
          simp only [Act.put, List.setIfInBounds_toArray, List.set_cons_zero, List.set_cons_succ]
          refine take_at (i := 2) (d := 35) (v := ?_) rfl rfl (by kernel_rfl) (by kernel_rfl) (by kernel_rfl) (fun _ _ _ h => h) (by rfl) ?_ (by assumption) ?_
          rotate_left
          · (intro w hSw; (try dsimp only at hSw); go_simp; (try with_reducible rfl))
          simp only [Act.put, List.setIfInBounds_toArray, List.set_cons_zero, List.set_cons_succ]
          refine take_at (i := 3) (d := 36) (v := ?_) rfl rfl (by kernel_rfl) (by kernel_rfl) (by kernel_rfl) (fun _ _ _ h => h) (by rfl) ?_ (by assumption) ?_
          rotate_left
          · (intro w hSw; (try dsimp only at hSw); go_simp; (try with_reducible rfl))
          simp only [Act.put, List.setIfInBounds_toArray, List.set_cons_zero, List.set_cons_succ]
          refine take_at (i := 5) (d := 38) (v := ?_) rfl rfl (by kernel_rfl) (by kernel_rfl) (by kernel_rfl) (fun _ _ _ h => h) (by rfl) ?_ (by assumption) ?_
          rotate_left
          · (intro w hSw; (try dsimp only at hSw); go_simp; (try with_reducible rfl))
          simp only [Act.put, List.setIfInBounds_toArray, List.set_cons_zero, List.set_cons_succ]
          clear hHeld
          have g1 : w7.cell? ⟨g, 1, none⟩ = some v := G7.cell 1
          have zg := G7.lt
          have hA2 : Later w7 (w7.drew.alloc (.cells #[.int .i64 e1, .bool e2, .int .i64 e3, .int .i64 e4, .int .i64 e5, .int .i64 e6] 128)) := (Later.refl _).drew.alloc _
          refine wpAnyH_ready (rs := [4, 6]) (by kernel_rfl) (by simp) (rdy_val (i := 4) (d := 37) (v := v) (w' := w7.drew) rfl rfl (by rfl) (by go_simp) (hS _ D7.drew) ?_ (rdy_val (i := 6) (d := 39) (v := .slice (some ⟨w7.heap.size, 0, none⟩) 1 1) (w' := w7.drew.alloc (.cells #[.int .i64 e1, .bool e2, .int .i64 e3, .int .i64 e4, .int .i64 e5, .int .i64 e6] 128)) rfl rfl (by rfl) (by go_simp) (hS _ (D7.later hA2)) ?_ AllReadyH.nil))
          · simp only [Act.put, List.setIfInBounds_toArray, List.set_cons_zero, List.set_cons_succ]
            refine val_at (i := 6) (d := 39) (v := .slice (some ⟨w7.heap.size, 0, none⟩) 1 1) (w' := w7.drew.alloc (.cells #[.int .i64 e1, .bool e2, .int .i64 e3, .int .i64 e4, .int .i64 e5, .int .i64 e6] 128)) (by kernel_rfl) rfl rfl (by rfl) (by go_simp) (hS _ (D7.later hA2)) ?_
            simp only [Act.put, List.setIfInBounds_toArray, List.set_cons_zero, List.set_cons_succ]
            clear g1 zg
            have hSX := hA2
            refine append_atf (i := 7) (d := 40) slt_en en6_len en6_one (by kernel_rfl) rfl rfl rfl (.tmp 37) (.tmp 39) rfl (base := 0) (l := cur) rfl (hO7.out.later hA2) (ad := ⟨w7.heap.size, 0, none⟩) (c := 1) [⟨⟨e1, e2, e3, e4, e5⟩, e6⟩] rfl (SrcAt.blk (cs := #[.int .i64 e1, .bool e2, .int .i64 e3, .int .i64 e4, .int .i64 e5, .int .i64 e6]) (Blk.new _ _ _)) (by simp; omega) (Nat.zero_le _) (fun A9 c9 w9 ho9 hg9 hf9 => ?_)
            have q7 : ∀ k, k < w7.heap.size → v.ownBlock ≠ some k → w9.heap[k]? = w7.heap[k]? := fun k hk hne => (hg9.block k (Nat.lt_of_lt_of_le hk hSX.size) (fun e => hne e.symm)).trans (hSX.block k hk)
            have D9 : Blk w9 gp 128 #[.int .i64 e1, .bool e2, .int .i64 e3, .int .i64 e4, .int .i64 e5, .int .i64 e6] := (q7 gp D7.lt Hrp.out).trans D7
            have G9 : Blk w9 g 121 #[.map (some m), v] := (q7 g G7.lt Hrg.out).trans G7
            refine ⟨⟨D9.cell 0, D9.cell 1, D9.cell 2, D9.cell 3, D9.cell 4, D9.cell 5, D9.lt⟩, fun hHeld => ?_⟩
            simp only [Act.put, List.setIfInBounds_toArray, List.set_cons_zero, List.set_cons_succ]
            have hle : (cur ++ [(⟨⟨e1, e2, e3, e4, e5⟩, e6⟩ : En)]).length = cur.length + 1 := by simp
            rw [hle] at ho9 hf9 ⊢
            refine take_at (i := 8) (d := 41) (v := ?_) rfl rfl (by kernel_rfl) (by kernel_rfl) (by kernel_rfl) (fun _ _ _ h => h) (by rfl) ?_ (by assumption) ?_
            rotate_left
            · (intro w hSw; (try dsimp only at hSw); go_simp; (try with_reducible rfl))
            simp only [Act.put, List.setIfInBounds_toArray, List.set_cons_zero, List.set_cons_succ]
            refine take_at (i := 9) (d := 42) (v := ?_) rfl rfl (by kernel_rfl) (by kernel_rfl) (by kernel_rfl) (fun _ _ _ h => h) (by rfl) ?_ (by assumption) ?_
            rotate_left
            · (intro w hSw; (try dsimp only at hSw); go_simp; (try with_reducible rfl))
            simp only [Act.put, List.setIfInBounds_toArray, List.set_cons_zero, List.set_cons_succ]
            clear hHeld
            have c1 : w9.cell? ⟨g, 1, none⟩ = some v := G9.cell 1
            have f1 := G9.frozen 1
            have z1 := G9.lt
            refine sto_at (i := 10) (w' := w9.setCell ⟨g, 1, none⟩ (.slice A9 (cur.length + 1) c9)) (by kernel_rfl) rfl rfl (by rfl) (by go_simp) ⟨(D9.far Hgp.out _).cell 0, (D9.far Hgp.out _).cell 1, (D9.far Hgp.out _).cell 2, (D9.far Hgp.out _).cell 3, (D9.far Hgp.out _).cell 4, (D9.far Hgp.out _).cell 5, (D9.far Hgp.out _).lt⟩ ?_
            have hnb : (Value.slice A9 (cur.length + 1) c9).ownBlock ≠ some g := fun e => by
              rcases ho9.2 with ⟨h1, _⟩ | ⟨g', cap, cc, hv, _, hg, _⟩
              · rw [h1] at e; cases e
              · rw [hv] at e
                cases e
                have h3 := G9
                unfold Blk at h3
                rw [hg] at h3
                simp at h3
            have HB9 := Lib.hid (show BagE (w9.setCell ⟨g, 1, none⟩ (.slice A9 (cur.length + 1) c9)) g (cur ++ [⟨⟨e1, e2, e3, e4, e5⟩, e6⟩]) (fun k => F k ∨ w.heap.size ≤ k) (some m) (.slice A9 (cur.length + 1) c9) from
              ⟨G9.set_ 1 _, OwnR.ofBlk ho9 (fun k e => Below.heap_setCell w9 ⟨g, 1, none⟩ _ k (fun e2 => hnb (by rw [e, e2]))), (fun e => by cases e), (fun m' e => by
                  cases e
                  exact ⟨((Hs7.out.of (q7 m Hs7.out.lt Hrm.out))).past Hmg.out, HFm.out⟩), HFg.out, (fun k e => by
                  rcases hf9 with h | h
                  · exact HFv.out k (h.symm.trans e)
                  · rw [h] at e
                    cases e
                    have := hSX.size
                    exact .inr (by omega))⟩)
            have HK9 := Lib.hid (show Keep (fun k => F k ∨ w.heap.size ≤ k) w (w9.setCell ⟨g, 1, none⟩ (.slice A9 (cur.length + 1) c9)) from ((HK7.out.later hSX).grown hg9 (fun k e => HFv.out k e)).put HFg.out _ _)
            clear ho9 hg9 hf9 q7 D9 G9 c1 f1 z1 hnb
            refine wpAnyH_done (by kernel_rfl) ?_ _
            go_wp2_with fail
            go_roundw
            case rel => exact ⟨k + 1, _, by omega, by go_num, Hnx.out ▸ HB9.out, HK9.out⟩
            case measure => simp [intOf]; omega
          · simp only [Act.put, List.setIfInBounds_toArray, List.set_cons_zero, List.set_cons_succ]
            refine val_at (i := 4) (d := 37) (v := v) (w' := w7.drew.alloc (.cells #[.int .i64 e1, .bool e2, .int .i64 e3, .int .i64 e4, .int .i64 e5, .int .i64 e6] 128)) (by kernel_rfl) rfl rfl (by rfl) (by go_simp) (hS _ (D7.later hA2)) ?_
            simp only [Act.put, List.setIfInBounds_toArray, List.set_cons_zero, List.set_cons_succ]
            clear g1 zg
            have hSX := hA2
            refine append_atf (i := 7) (d := 40) slt_en en6_len en6_one (by kernel_rfl) rfl rfl rfl (.tmp 37) (.tmp 39) rfl (base := 0) (l := cur) rfl (hO7.out.later hA2) (ad := ⟨w7.heap.size, 0, none⟩) (c := 1) [⟨⟨e1, e2, e3, e4, e5⟩, e6⟩] rfl (SrcAt.blk (cs := #[.int .i64 e1, .bool e2, .int .i64 e3, .int .i64 e4, .int .i64 e5, .int .i64 e6]) (Blk.new _ _ _)) (by simp; omega) (Nat.zero_le _) (fun A9 c9 w9 ho9 hg9 hf9 => ?_)
            have q7 : ∀ k, k < w7.heap.size → v.ownBlock ≠ some k → w9.heap[k]? = w7.heap[k]? := fun k hk hne => (hg9.block k (Nat.lt_of_lt_of_le hk hSX.size) (fun e => hne e.symm)).trans (hSX.block k hk)
            have D9 : Blk w9 gp 128 #[.int .i64 e1, .bool e2, .int .i64 e3, .int .i64 e4, .int .i64 e5, .int .i64 e6] := (q7 gp D7.lt Hrp.out).trans D7
            have G9 : Blk w9 g 121 #[.map (some m), v] := (q7 g G7.lt Hrg.out).trans G7
            refine ⟨⟨D9.cell 0, D9.cell 1, D9.cell 2, D9.cell 3, D9.cell 4, D9.cell 5, D9.lt⟩, fun hHeld => ?_⟩
            simp only [Act.put, List.setIfInBounds_toArray, List.set_cons_zero, List.set_cons_succ]
            have hle : (cur ++ [(⟨⟨e1, e2, e3, e4, e5⟩, e6⟩ : En)]).length = cur.length + 1 := by simp
            rw [hle] at ho9 hf9 ⊢
            refine take_at (i := 8) (d := 41) (v := ?_) rfl rfl (by kernel_rfl) (by kernel_rfl) (by kernel_rfl) (fun _ _ _ h => h) (by rfl) ?_ (by assumption) ?_
            rotate_left
            · (intro w hSw; (try dsimp only at hSw); go_simp; (try with_reducible rfl))
            simp only [Act.put, List.setIfInBounds_toArray, List.set_cons_zero, List.set_cons_succ]
            refine take_at (i := 9) (d := 42) (v := ?_) rfl rfl (by kernel_rfl) (by kernel_rfl) (by kernel_rfl) (fun _ _ _ h => h) (by rfl) ?_ (by assumption) ?_
            rotate_left
            · (intro w hSw; (try dsimp only at hSw); go_simp; (try with_reducible rfl))
            simp only [Act.put, List.setIfInBounds_toArray, List.set_cons_zero, List.set_cons_succ]
            clear hHeld
            have c1 : w9.cell? ⟨g, 1, none⟩ = some v := G9.cell 1
            have f1 := G9.frozen 1
            have z1 := G9.lt
            refine sto_at (i := 10) (w' := w9.setCell ⟨g, 1, none⟩ (.slice A9 (cur.length + 1) c9)) (by kernel_rfl) rfl rfl (by rfl) (by go_simp) ⟨(D9.far Hgp.out _).cell 0, (D9.far Hgp.out _).cell 1, (D9.far Hgp.out _).cell 2, (D9.far Hgp.out _).cell 3, (D9.far Hgp.out _).cell 4, (D9.far Hgp.out _).cell 5, (D9.far Hgp.out _).lt⟩ ?_
            have hnb : (Value.slice A9 (cur.length + 1) c9).ownBlock ≠ some g := fun e => by
              rcases ho9.2 with ⟨h1, _⟩ | ⟨g', cap, cc, hv, _, hg, _⟩
              · rw [h1] at e; cases e
              · rw [hv] at e
                cases e
                have h3 := G9
                unfold Blk at h3
                rw [hg] at h3
                simp at h3
            have HB9 := Lib.hid (show BagE (w9.setCell ⟨g, 1, none⟩ (.slice A9 (cur.length + 1) c9)) g (cur ++ [⟨⟨e1, e2, e3, e4, e5⟩, e6⟩]) (fun k => F k ∨ w.heap.size ≤ k) (some m) (.slice A9 (cur.length + 1) c9) from
              ⟨G9.set_ 1 _, OwnR.ofBlk ho9 (fun k e => Below.heap_setCell w9 ⟨g, 1, none⟩ _ k (fun e2 => hnb (by rw [e, e2]))), (fun e => by cases e), (fun m' e => by
                  cases e
                  exact ⟨((Hs7.out.of (q7 m Hs7.out.lt Hrm.out))).past Hmg.out, HFm.out⟩), HFg.out, (fun k e => by
                  rcases hf9 with h | h
                  · exact HFv.out k (h.symm.trans e)
                  · rw [h] at e
                    cases e
                    have := hSX.size
                    exact .inr (by omega))⟩)
            have HK9 := Lib.hid (show Keep (fun k => F k ∨ w.heap.size ≤ k) w (w9.setCell ⟨g, 1, none⟩ (.slice A9 (cur.length + 1) c9)) from ((HK7.out.later hSX).grown hg9 (fun k e => HFv.out k e)).put HFg.out _ _)
            clear ho9 hg9 hf9 q7 D9 G9 c1 f1 z1 hnb
            refine wpAnyH_done (by kernel_rfl) ?_ _
            go_wp2_with fail
            go_roundw
            case rel => exact ⟨k + 1, _, by omega, by go_num, Hnx.out ▸ HB9.out, HK9.out⟩
            case measure => simp [intOf]; omega
      · have hke : xs.take k = xs := List.take_of_length_le (by omega)
        rw [hke] at hB
        have HBe := Lib.hid hB
        have HKe := Lib.hid hK
        clear hB hK
        go_wp2
        (try simp only [Exit.inBlock, Exit.then])
        refine bodyPost_ret (results_none rfl _ _ _) rfl ?_
        exact ⟨rfl, some m, v, HBe.out, HKe.out.back⟩
  · have HB0 := Lib.hid (hb.mono (fun j h => (Or.inl h : F j ∨ w.heap.size ≤ j)))
    have HK0 := Lib.hid (Keep.refl (fun k => F k ∨ w.heap.size ≤ k) w)
    clear hb
    go_enter Tryz.func53, Tryz.ntmps53
    go_upto_region 3 with fail
    clear g0 f0 zg hmm hnil
    go_loopw [17] (fun iv wr => ∃ (k : Nat) (v : Value), k ≤ xs.length ∧ iv = .int .i64 k ∧ BagE wr g (addAllE l (xs.take k)) (fun k => F k ∨ w.heap.size ≤ k) (some m) v ∧ Keep (fun k => F k ∨ w.heap.size ≤ k) w wr) (fun iv _ => xs.length - (intOf iv).toNat)
    case atStart => exact ⟨0, _, by omega, rfl, by simpa [addAllE] using HB0.out, HK0.out⟩
    case round =>
      obtain ⟨k, v, hk, rfl, hB, hK⟩ := hrel
      by_cases hlt : k < xs.length
      · obtain ⟨b1, o1, rfl, x1, x2, x3, x4, x5, x6⟩ := (Hpx.out.kept hK (fun b o e => ⟨fun h => h.elim (HA.out b o e).1 (fun h => by have := (HA.out b o e).2; omega), (HA.out b o e).2⟩)).at_ hlt
        have zb := World.block_lt_of_cell? _ _ x1
        have han := addAllE_next (l := l) hlt
        have hpn := Hxs.out _ (List.getElem_mem hlt)
        have hal : (addAllE l (xs.take k)).length ≤ 60000 := by
          have := addAllE_len (xs.take k) l
          rw [List.length_take] at this
          omega
        generalize xs[k] = p at *
        generalize addAllE l (xs.take k) = cur at *
        have Hnx0 := Lib.hid han
        clear han
        obtain ⟨⟨e1, e2, e3, e4, e5⟩, e6⟩ := p
        simp only [] at x1 x2 x3 x4 x5 x6
        go_upto_region 5 with fail
        refine name_world (fun Wp hWp => ?_)
        have hbp : Later wr Wp := by rw [hWp]; exact (by repeat' (with_reducible first | exact Later.refl _ | assumption | refine Later.drew ?_ | refine Later.drewN ?_ _ | refine Later.alloc ?_ _ | refine Later.put ?_ (by omega) _ | refine Later.trans ?_ (by assumption)))
        have Dp : Blk Wp wr.heap.size 128 #[.int .i64 e1, .bool e2, .int .i64 e3, .int .i64 e4, .int .i64 e5, .int .i64 e6] := by rw [hWp]; exact (by repeat' (with_reducible first | assumption | (refine Blk.newAt ?_; simp; done) | refine Blk.alloc ?_ _ | refine Blk.drew ?_ | refine Blk.drewN ?_ _ | refine Blk.later ?_ (by assumption)))
        have hBp := hB.later hbp
        have hKp := hK.later hbp
        have hgp : wr.heap.size ≠ g := by have := hB.blk.lt; omega
        have hgm : wr.heap.size ≠ m := by have := (hB.map m rfl).1.lt; omega
        have hgr : v.ownBlock ≠ some wr.heap.size := fun e => by have := (World.ownsRow.lt hB.row _ e).2; omega
        have hgF : w.heap.size ≤ wr.heap.size := hK.2.2.2.1
        clear hWp x1 x2 x3 x4 x5 x6 zb hB hK
        generalize wr.heap.size = gp at *
        have k0 : Wp.cell? ⟨gp, 0, none⟩ = some (.int .i64 e1) := Dp.cell 0
        have k1 : Wp.cell? ⟨gp, 1, none⟩ = some (.bool e2) := Dp.cell 1
        have k2 : Wp.cell? ⟨gp, 2, none⟩ = some (.int .i64 e3) := Dp.cell 2
        have k3 : Wp.cell? ⟨gp, 3, none⟩ = some (.int .i64 e4) := Dp.cell 3
        have k4 : Wp.cell? ⟨gp, 4, none⟩ = some (.int .i64 e5) := Dp.cell 4
        have k5 : Wp.cell? ⟨gp, 5, none⟩ = some (.int .i64 e6) := Dp.cell 5
        have g0 : Wp.cell? ⟨g, 0, none⟩ = some (.map (some m)) := hBp.blk.cell 0
        have zp := Dp.lt
        have zg := hBp.blk.lt
        have hlook := fun n => ((hBp.drewN n).map m rfl).1.look en_enc Tryz.underlying118 (show (zeroValue 4).run Tryz.prog (Wp.drewN n) = .ok (.bool false) (Wp.drewN n) by go_simp) (a := ⟨⟨e1, e2, e3, e4, e5⟩, e6⟩) hpn
        unfold encE at hlook
        simp only [] at hlook
        by_cases hin : (⟨⟨e1, e2, e3, e4, e5⟩, e6⟩ : En) ∈ cur
        · have Hnx := Lib.hid (show addAllE l (xs.take (k + 1)) = cur by rw [Hnx0.out]; unfold addE; rw [if_pos hin])
          simp only [decide_eq_true hin] at hlook
          go_quiet (fail)
          go_wp2
          go_roundw
          case rel => exact ⟨k + 1, v, by omega, by go_num, by rw [Hnx.out]; exact hBp.drewN _, hKp.drewN _⟩
          case measure => simp [intOf]; omega
        · have Hnx := Lib.hid (show addAllE l (xs.take (k + 1)) = cur ++ [⟨⟨e1, e2, e3, e4, e5⟩, e6⟩] by rw [Hnx0.out]; unfold addE; rw [if_neg hin])
          simp only [decide_eq_false hin] at hlook
          go_quiet (fail)
          clear hlook k0 k1 k2 k3 k4 k5 g0
          go_upto_region 6 with fail
          refine name_world (fun W6 hW6 => ?_)
          have hl6 : Later Wp W6 := by rw [hW6]; exact (by repeat' (with_reducible first | exact Later.refl _ | assumption | refine Later.drew ?_ | refine Later.drewN ?_ _ | refine Later.alloc ?_ _ | refine Later.put ?_ (by omega) _ | refine Later.trans ?_ (by assumption)))
          clear hW6
          have D6 := Dp.later hl6
          have hB6 := hBp.later hl6
          have hK6 := hKp.later hl6
          have k0 : W6.cell? ⟨gp, 0, none⟩ = some (.int .i64 e1) := D6.cell 0
          have k1 : W6.cell? ⟨gp, 1, none⟩ = some (.bool e2) := D6.cell 1
          have k2 : W6.cell? ⟨gp, 2, none⟩ = some (.int .i64 e3) := D6.cell 2
          have k3 : W6.cell? ⟨gp, 3, none⟩ = some (.int .i64 e4) := D6.cell 3
          have k4 : W6.cell? ⟨gp, 4, none⟩ = some (.int .i64 e5) := D6.cell 4
          have k5 : W6.cell? ⟨gp, 5, none⟩ = some (.int .i64 e6) := D6.cell 5
          have g0 : W6.cell? ⟨g, 0, none⟩ = some (.map (some m)) := hB6.blk.cell 0
          have zp := D6.lt
          have zg := hB6.blk.lt
          obtain ⟨w7, y1, y2, y3, y4⟩ := (hB6.drew.map m rfl).1.put en_enc Tryz.underlying118 (a := ⟨⟨e1, e2, e3, e4, e5⟩, e6⟩) hpn hin
          unfold encE at y1
          simp only [] at y1
          have hmgne := hB6.map_ne
          have hrgne := hB6.row_ne
          have hrmne := hB6.row_map
          have q67 : ∀ k, k < W6.heap.size → k ≠ m → w7.heap[k]? = W6.heap[k]? := fun k hk hne => y3.block k hk (fun e => hne (by injection e))
          have hG7 : Blk w7 g 121 #[.map (some m), v] := (q67 g hB6.blk.lt hmgne.symm).trans hB6.blk
          have hD7 : Blk w7 gp 128 #[.int .i64 e1, .bool e2, .int .i64 e3, .int .i64 e4, .int .i64 e5, .int .i64 e6] := (q67 gp D6.lt hgm).trans D6
          have hO7 := Lib.hid (OwnR.ofBlk hB6.row (fun k e => q67 k (World.ownsRow.lt hB6.row k e).2 (fun e2 => hrmne (by rw [e, e2]))))
          have HFg := Lib.hid hB6.own
          have HFm := Lib.hid (hB6.map m rfl).2
          have HFv := Lib.hid hB6.rowF
          have HK7 := Lib.hid ((Keep.drew hK6).grown y3 (fun k e => by cases e; exact HFm.out))
          have hk7 : w.heap.size ≤ w7.heap.size := HK7.out.2.2.2.1
          have Hs7 := Lib.hid y2
          have Hmg := Lib.hid hmgne
          have Hrg := Lib.hid hrgne
          have Hrm := Lib.hid hrmne
          have Hrp := Lib.hid hgr
          have Hgp := Lib.hid hgp
          refine wp_region_still_tail 5 (by kernel_rfl) (by kernel_rfl) ?_
          simp only [List.take_succ_cons, List.take_zero, List.drop_succ_cons, List.drop_zero]
          repeat still_step
          refine wpStill_nil ?_
          change wpList _ _ _ _ _ (World.drew _)
          clear k0 k1 k2 k3 k4 k5 g0 zp zg
          go_upto_region 7 with fail
          clear y1 y2 y3 y4 D6 hB6 hK6 q67 hmgne hrgne hrmne hgr hgp Dp hBp hKp hbp hl6
          have G7 := hG7
          have D7 := hD7
          have hcl : cur.length ≤ 60000 := hal
          have hS : ∀ w' : World, Blk w' gp 128 #[.int .i64 e1, .bool e2, .int .i64 e3, .int .i64 e4, .int .i64 e5, .int .i64 e6] → (w'.cell? ⟨gp, 0, none⟩ = some (.int .i64 e1) ∧ w'.cell? ⟨gp, 1, none⟩ = some (.bool e2) ∧ w'.cell? ⟨gp, 2, none⟩ = some (.int .i64 e3) ∧ w'.cell? ⟨gp, 3, none⟩ = some (.int .i64 e4) ∧ w'.cell? ⟨gp, 4, none⟩ = some (.int .i64 e5) ∧ w'.cell? ⟨gp, 5, none⟩ = some (.int .i64 e6) ∧ gp < w'.heap.size) := fun w' h => ⟨h.cell 0, h.cell 1, h.cell 2, h.cell 3, h.cell 4, h.cell 5, h.lt⟩
          refine wp_region_held_drew (S := fun w' : World => w'.cell? ⟨gp, 0, none⟩ = some (.int .i64 e1) ∧ w'.cell? ⟨gp, 1, none⟩ = some (.bool e2) ∧ w'.cell? ⟨gp, 2, none⟩ = some (.int .i64 e3) ∧ w'.cell? ⟨gp, 3, none⟩ = some (.int .i64 e4) ∧ w'.cell? ⟨gp, 4, none⟩ = some (.int .i64 e5) ∧ w'.cell? ⟨gp, 5, none⟩ = some (.int .i64 e6) ∧ gp < w'.heap.size) (by kernel_rfl) (hS _ D7.drew) (fun hHeld => ?_)
          refine take_at (i := 0) (d := 33) (v := ?_) rfl rfl (by kernel_rfl) (by kernel_rfl) (by kernel_rfl) (fun _ _ _ h => h) (by rfl) ?_ (by assumption) ?_
          rotate_left
          · (intro w hSw; (try dsimp only at hSw); go_simp; (try with_reducible rfl))
          simp only [Act.put, List.setIfInBounds_toArray, List.set_cons_zero, List.set_cons_succ]
          refine take_at (i := 1) (d := 34) (v := ?_) rfl rfl (by kernel_rfl) (by kernel_rfl) (by kernel_rfl) (fun _ _ _ h => h) (by rfl) ?_ (by assumption) ?_
          rotate_left
          · (intro w hSw; (try dsimp only at hSw); go_simp; (try with_reducible rfl))
          simp only [Act.put, List.setIfInBounds_toArray, List.set_cons_zero, List.set_cons_succ]
          refine take_at (i := 2) (d := 35) (v := ?_) rfl rfl (by kernel_rfl) (by kernel_rfl) (by kernel_rfl) (fun _ _ _ h => h) (by rfl) ?_ (by assumption) ?_
          rotate_left
          · (intro w hSw; (try dsimp only at hSw); go_simp; (try with_reducible rfl))
          simp only [Act.put, List.setIfInBounds_toArray, List.set_cons_zero, List.set_cons_succ]
          refine take_at (i := 3) (d := 36) (v := ?_) rfl rfl (by kernel_rfl) (by kernel_rfl) (by kernel_rfl) (fun _ _ _ h => h) (by rfl) ?_ (by assumption) ?_
          rotate_left
          · (intro w hSw; (try dsimp only at hSw); go_simp; (try with_reducible rfl))
          simp only [Act.put, List.setIfInBounds_toArray, List.set_cons_zero, List.set_cons_succ]
          refine take_at (i := 5) (d := 38) (v := ?_) rfl rfl (by kernel_rfl) (by kernel_rfl) (by kernel_rfl) (fun _ _ _ h => h) (by rfl) ?_ (by assumption) ?_
          rotate_left
          · (intro w hSw; (try dsimp only at hSw); go_simp; (try with_reducible rfl))
          simp only [Act.put, List.setIfInBounds_toArray, List.set_cons_zero, List.set_cons_succ]
          clear hHeld
          have g1 : w7.cell? ⟨g, 1, none⟩ = some v := G7.cell 1
          have zg := G7.lt
          have hA2 : Later w7 (w7.drew.alloc (.cells #[.int .i64 e1, .bool e2, .int .i64 e3, .int .i64 e4, .int .i64 e5, .int .i64 e6] 128)) := (Later.refl _).drew.alloc _
          refine wpAnyH_ready (rs := [4, 6]) (by kernel_rfl) (by simp) (rdy_val (i := 4) (d := 37) (v := v) (w' := w7.drew) rfl rfl (by rfl) (by go_simp) (hS _ D7.drew) ?_ (rdy_val (i := 6) (d := 39) (v := .slice (some ⟨w7.heap.size, 0, none⟩) 1 1) (w' := w7.drew.alloc (.cells #[.int .i64 e1, .bool e2, .int .i64 e3, .int .i64 e4, .int .i64 e5, .int .i64 e6] 128)) rfl rfl (by rfl) (by go_simp) (hS _ (D7.later hA2)) ?_ AllReadyH.nil))
          · simp only [Act.put, List.setIfInBounds_toArray, List.set_cons_zero, List.set_cons_succ]
            refine val_at (i := 6) (d := 39) (v := .slice (some ⟨w7.heap.size, 0, none⟩) 1 1) (w' := w7.drew.alloc (.cells #[.int .i64 e1, .bool e2, .int .i64 e3, .int .i64 e4, .int .i64 e5, .int .i64 e6] 128)) (by kernel_rfl) rfl rfl (by rfl) (by go_simp) (hS _ (D7.later hA2)) ?_
            simp only [Act.put, List.setIfInBounds_toArray, List.set_cons_zero, List.set_cons_succ]
            clear g1 zg
            have hSX := hA2
            refine append_atf (i := 7) (d := 40) slt_en en6_len en6_one (by kernel_rfl) rfl rfl rfl (.tmp 37) (.tmp 39) rfl (base := 0) (l := cur) rfl (hO7.out.later hA2) (ad := ⟨w7.heap.size, 0, none⟩) (c := 1) [⟨⟨e1, e2, e3, e4, e5⟩, e6⟩] rfl (SrcAt.blk (cs := #[.int .i64 e1, .bool e2, .int .i64 e3, .int .i64 e4, .int .i64 e5, .int .i64 e6]) (Blk.new _ _ _)) (by simp; omega) (Nat.zero_le _) (fun A9 c9 w9 ho9 hg9 hf9 => ?_)
            have q7 : ∀ k, k < w7.heap.size → v.ownBlock ≠ some k → w9.heap[k]? = w7.heap[k]? := fun k hk hne => (hg9.block k (Nat.lt_of_lt_of_le hk hSX.size) (fun e => hne e.symm)).trans (hSX.block k hk)
            have D9 : Blk w9 gp 128 #[.int .i64 e1, .bool e2, .int .i64 e3, .int .i64 e4, .int .i64 e5, .int .i64 e6] := (q7 gp D7.lt Hrp.out).trans D7
            have G9 : Blk w9 g 121 #[.map (some m), v] := (q7 g G7.lt Hrg.out).trans G7
            refine ⟨⟨D9.cell 0, D9.cell 1, D9.cell 2, D9.cell 3, D9.cell 4, D9.cell 5, D9.lt⟩, fun hHeld => ?_⟩
            simp only [Act.put, List.setIfInBounds_toArray, List.set_cons_zero, List.set_cons_succ]
            have hle : (cur ++ [(⟨⟨e1, e2, e3, e4, e5⟩, e6⟩ : En)]).length = cur.length + 1 := by simp
            rw [hle] at ho9 hf9 ⊢
            refine take_at (i := 8) (d := 41) (v := ?_) rfl rfl (by kernel_rfl) (by kernel_rfl) (by kernel_rfl) (fun _ _ _ h => h) (by rfl) ?_ (by assumption) ?_
            rotate_left
            · (intro w hSw; (try dsimp only at hSw); go_simp; (try with_reducible rfl))
            simp only [Act.put, List.setIfInBounds_toArray, List.set_cons_zero, List.set_cons_succ]
            refine take_at (i := 9) (d := 42) (v := ?_) rfl rfl (by kernel_rfl) (by kernel_rfl) (by kernel_rfl) (fun _ _ _ h => h) (by rfl) ?_ (by assumption) ?_
            rotate_left
            · (intro w hSw; (try dsimp only at hSw); go_simp; (try with_reducible rfl))
            simp only [Act.put, List.setIfInBounds_toArray, List.set_cons_zero, List.set_cons_succ]
            clear hHeld
            have c1 : w9.cell? ⟨g, 1, none⟩ = some v := G9.cell 1
            have f1 := G9.frozen 1
            have z1 := G9.lt
            refine sto_at (i := 10) (w' := w9.setCell ⟨g, 1, none⟩ (.slice A9 (cur.length + 1) c9)) (by kernel_rfl) rfl rfl (by rfl) (by go_simp) ⟨(D9.far Hgp.out _).cell 0, (D9.far Hgp.out _).cell 1, (D9.far Hgp.out _).cell 2, (D9.far Hgp.out _).cell 3, (D9.far Hgp.out _).cell 4, (D9.far Hgp.out _).cell 5, (D9.far Hgp.out _).lt⟩ ?_
            have hnb : (Value.slice A9 (cur.length + 1) c9).ownBlock ≠ some g := fun e => by
              rcases ho9.2 with ⟨h1, _⟩ | ⟨g', cap, cc, hv, _, hg, _⟩
              · rw [h1] at e; cases e
              · rw [hv] at e
                cases e
                have h3 := G9
                unfold Blk at h3
                rw [hg] at h3
                simp at h3
            have HB9 := Lib.hid (show BagE (w9.setCell ⟨g, 1, none⟩ (.slice A9 (cur.length + 1) c9)) g (cur ++ [⟨⟨e1, e2, e3, e4, e5⟩, e6⟩]) (fun k => F k ∨ w.heap.size ≤ k) (some m) (.slice A9 (cur.length + 1) c9) from
              ⟨G9.set_ 1 _, OwnR.ofBlk ho9 (fun k e => Below.heap_setCell w9 ⟨g, 1, none⟩ _ k (fun e2 => hnb (by rw [e, e2]))), (fun e => by cases e), (fun m' e => by
                  cases e
                  exact ⟨((Hs7.out.of (q7 m Hs7.out.lt Hrm.out))).past Hmg.out, HFm.out⟩), HFg.out, (fun k e => by
                  rcases hf9 with h | h
                  · exact HFv.out k (h.symm.trans e)
                  · rw [h] at e
                    cases e
                    have := hSX.size
                    exact .inr (by omega))⟩)
            have HK9 := Lib.hid (show Keep (fun k => F k ∨ w.heap.size ≤ k) w (w9.setCell ⟨g, 1, none⟩ (.slice A9 (cur.length + 1) c9)) from ((HK7.out.later hSX).grown hg9 (fun k e => HFv.out k e)).put HFg.out _ _)
            clear ho9 hg9 hf9 q7 D9 G9 c1 f1 z1 hnb
            refine wpAnyH_done (by kernel_rfl) ?_ _
            go_wp2_with fail
            go_roundw
            case rel => exact ⟨k + 1, _, by omega, by go_num, Hnx.out ▸ HB9.out, HK9.out⟩
            case measure => simp [intOf]; omega
          · simp only [Act.put, List.setIfInBounds_toArray, List.set_cons_zero, List.set_cons_succ]
            refine val_at (i := 4) (d := 37) (v := v) (w' := w7.drew.alloc (.cells #[.int .i64 e1, .bool e2, .int .i64 e3, .int .i64 e4, .int .i64 e5, .int .i64 e6] 128)) (by kernel_rfl) rfl rfl (by rfl) (by go_simp) (hS _ (D7.later hA2)) ?_
            simp only [Act.put, List.setIfInBounds_toArray, List.set_cons_zero, List.set_cons_succ]
            clear g1 zg
            have hSX := hA2
            refine append_atf (i := 7) (d := 40) slt_en en6_len en6_one (by kernel_rfl) rfl rfl rfl (.tmp 37) (.tmp 39) rfl (base := 0) (l := cur) rfl (hO7.out.later hA2) (ad := ⟨w7.heap.size, 0, none⟩) (c := 1) [⟨⟨e1, e2, e3, e4, e5⟩, e6⟩] rfl (SrcAt.blk (cs := #[.int .i64 e1, .bool e2, .int .i64 e3, .int .i64 e4, .int .i64 e5, .int .i64 e6]) (Blk.new _ _ _)) (by simp; omega) (Nat.zero_le _) (fun A9 c9 w9 ho9 hg9 hf9 => ?_)
            have q7 : ∀ k, k < w7.heap.size → v.ownBlock ≠ some k → w9.heap[k]? = w7.heap[k]? := fun k hk hne => (hg9.block k (Nat.lt_of_lt_of_le hk hSX.size) (fun e => hne e.symm)).trans (hSX.block k hk)
            have D9 : Blk w9 gp 128 #[.int .i64 e1, .bool e2, .int .i64 e3, .int .i64 e4, .int .i64 e5, .int .i64 e6] := (q7 gp D7.lt Hrp.out).trans D7
            have G9 : Blk w9 g 121 #[.map (some m), v] := (q7 g G7.lt Hrg.out).trans G7
            refine ⟨⟨D9.cell 0, D9.cell 1, D9.cell 2, D9.cell 3, D9.cell 4, D9.cell 5, D9.lt⟩, fun hHeld => ?_⟩
            simp only [Act.put, List.setIfInBounds_toArray, List.set_cons_zero, List.set_cons_succ]
            have hle : (cur ++ [(⟨⟨e1, e2, e3, e4, e5⟩, e6⟩ : En)]).length = cur.length + 1 := by simp
            rw [hle] at ho9 hf9 ⊢
            refine take_at (i := 8) (d := 41) (v := ?_) rfl rfl (by kernel_rfl) (by kernel_rfl) (by kernel_rfl) (fun _ _ _ h => h) (by rfl) ?_ (by assumption) ?_
            rotate_left
            · (intro w hSw; (try dsimp only at hSw); go_simp; (try with_reducible rfl))
            simp only [Act.put, List.setIfInBounds_toArray, List.set_cons_zero, List.set_cons_succ]
            refine take_at (i := 9) (d := 42) (v := ?_) rfl rfl (by kernel_rfl) (by kernel_rfl) (by kernel_rfl) (fun _ _ _ h => h) (by rfl) ?_ (by assumption) ?_
            rotate_left
            · (intro w hSw; (try dsimp only at hSw); go_simp; (try with_reducible rfl))
            simp only [Act.put, List.setIfInBounds_toArray, List.set_cons_zero, List.set_cons_succ]
            clear hHeld
            have c1 : w9.cell? ⟨g, 1, none⟩ = some v := G9.cell 1
            have f1 := G9.frozen 1
            have z1 := G9.lt
            refine sto_at (i := 10) (w' := w9.setCell ⟨g, 1, none⟩ (.slice A9 (cur.length + 1) c9)) (by kernel_rfl) rfl rfl (by rfl) (by go_simp) ⟨(D9.far Hgp.out _).cell 0, (D9.far Hgp.out _).cell 1, (D9.far Hgp.out _).cell 2, (D9.far Hgp.out _).cell 3, (D9.far Hgp.out _).cell 4, (D9.far Hgp.out _).cell 5, (D9.far Hgp.out _).lt⟩ ?_
            have hnb : (Value.slice A9 (cur.length + 1) c9).ownBlock ≠ some g := fun e => by
              rcases ho9.2 with ⟨h1, _⟩ | ⟨g', cap, cc, hv, _, hg, _⟩
              · rw [h1] at e; cases e
              · rw [hv] at e
                cases e
                have h3 := G9
                unfold Blk at h3
                rw [hg] at h3
                simp at h3
            have HB9 := Lib.hid (show BagE (w9.setCell ⟨g, 1, none⟩ (.slice A9 (cur.length + 1) c9)) g (cur ++ [⟨⟨e1, e2, e3, e4, e5⟩, e6⟩]) (fun k => F k ∨ w.heap.size ≤ k) (some m) (.slice A9 (cur.length + 1) c9) from
              ⟨G9.set_ 1 _, OwnR.ofBlk ho9 (fun k e => Below.heap_setCell w9 ⟨g, 1, none⟩ _ k (fun e2 => hnb (by rw [e, e2]))), (fun e => by cases e), (fun m' e => by
                  cases e
                  exact ⟨((Hs7.out.of (q7 m Hs7.out.lt Hrm.out))).past Hmg.out, HFm.out⟩), HFg.out, (fun k e => by
                  rcases hf9 with h | h
                  · exact HFv.out k (h.symm.trans e)
                  · rw [h] at e
                    cases e
                    have := hSX.size
                    exact .inr (by omega))⟩)
            have HK9 := Lib.hid (show Keep (fun k => F k ∨ w.heap.size ≤ k) w (w9.setCell ⟨g, 1, none⟩ (.slice A9 (cur.length + 1) c9)) from ((HK7.out.later hSX).grown hg9 (fun k e => HFv.out k e)).put HFg.out _ _)
            clear ho9 hg9 hf9 q7 D9 G9 c1 f1 z1 hnb
            refine wpAnyH_done (by kernel_rfl) ?_ _
            go_wp2_with fail
            go_roundw
            case rel => exact ⟨k + 1, _, by omega, by go_num, Hnx.out ▸ HB9.out, HK9.out⟩
            case measure => simp [intOf]; omega
      · have hke : xs.take k = xs := List.take_of_length_le (by omega)
        rw [hke] at hB
        have HBe := Lib.hid hB
        have HKe := Lib.hid hK
        clear hB hK
        go_wp2
        (try simp only [Exit.inBlock, Exit.then])
        refine bodyPost_ret (results_none rfl _ _ _) rfl ?_
        exact ⟨rfl, some m, v, HBe.out, HKe.out.back⟩
end Go.Proofs.YtdhakoecjmaebaaGreat
