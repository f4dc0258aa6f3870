/-
  The bag of spots of package fill: its memory, and the walk of its method add.
-/
import Derived.Test.YtdhakoecjmaebaaGreatZStepA
namespace Go.Proofs.YtdhakoecjmaebaaGreat
open Go.RowKit Go.Lib
set_option linter.unusedSimpArgs false
set_option linter.unusedVariables false

section
variable {P : Program} {ops : Array Oper} {Q : Exit → Act → World → Prop} {md : Region.Mode} {S : World → Prop}
theorem rdy_val {i d : Nat} {o : Oper} {v : Value} {fuel : Nat} {listed : Array Bool} {a : Act} {w w' : World} {rs : List Nat} (ho : ops[i]? = some o) (hd : o.dst = some d) (hw : Region.wanted o (yielded ops a.tmps) = true) (he : (execOp a.eval o).run P w = .ok (.value v) w') (hS : S w')
    (h : wpAnyH P md ops Q S fuel (listed.setIfInBounds i true) (a.put (some d) v) w') (hs : AllReadyH P md ops Q S fuel listed a w rs) : AllReadyH P md ops Q S fuel listed a w (i :: rs) :=
  ready_val' ho hw he hS (hd.symm ▸ h) hs
theorem sto_at {i : Nat} {o : Oper} {fuel : Nat} {listed : Array Bool} {a : Act} {w w' : World} (hr : Region.ready md ops listed = [i]) (ho : ops[i]? = some o) (hd : o.dst = none)
    (hw : Region.wanted o (yielded ops a.tmps) = true) (he : (execOp a.eval o).run P w = .ok .skip w') (hS : S w')
    (h : wpAnyH P md ops Q S fuel (listed.setIfInBounds i true) a w') : wpAnyH P md ops Q S (fuel + 1) listed a w := by
  refine wpAnyH_ready hr (by simp) (AllReadyH.cons ho (fun K hK => ?_) AllReadyH.nil)
  rw [if_pos hw]
  unfold Oper.wp
  rw [he]
  have := hK.out a w' hS (fun _ => h)
  rw [Oper.upon_skip, hd]
  exact this
end

section
variable {α : Type} {cells : α → List Value} {sz : Nat} {P : Program} {ops : Array Oper} {Q : Exit → Act → World → Prop} {md : Region.Mode} {S : World → Prop}
theorem append_atf {t e : TypeId} (hT : SlT P t e sz) (hc : ∀ a, (cells a).length = sz) (hon : ∀ a, ∀ u ∈ cells a, u.oneCell' = true) {i d : Nat} {o : Oper} {fuel : Nat} {listed : Array Bool} {a : Act} {w : World}
    (hr : Region.ready md ops listed = [i]) (ho : ops[i]? = some o) (hd : o.dst = some d) (hgd : o.guard = none) (s x : Operand)
    (hop : o.op = .call { callee := .builtin .append, args := #[s, x], argTypes := #[t, t] }) {base : Nat} {v : Value} {l : List α} (hv : a.eval s = v) (hown : OwnR w base e sz cells v l)
    {ad : Addr} {c : Nat} (news : List α) (hx : a.eval x = .slice (some ad) news.length c) (hs : SrcAt w (some ad) (news.flatMap cells)) (hn : l.length + news.length ≤ 65536) (hb : base ≤ w.heap.size)
    (h : ∀ A' c' w', OwnR w' base e sz cells (.slice A' (l ++ news).length c') (l ++ news) → w.grownBy w' v.ownBlock → ((Value.slice A' (l ++ news).length c').ownBlock = v.ownBlock ∨ (Value.slice A' (l ++ news).length c').ownBlock = some w.heap.size) →
      S w' ∧ (S w' → wpAnyH P md ops Q S fuel (listed.setIfInBounds i true) (a.put (some d) (.slice A' (l ++ news).length c')) w')) :
    wpAnyH P md ops Q S (fuel + 1) listed a w := by
  refine wpAnyH_ready hr (by simp) (AllReadyH.cons ho (fun K hK => ?_) AllReadyH.nil)
  have hw : Region.wanted o (yielded ops a.tmps) = true := by simp [Region.wanted, hgd]
  rw [if_pos hw]
  obtain ⟨A', c', w', hr', h2, h3, h4⟩ := run_append_recf (P := P) hT hc hon o.type hown (c := c) hs hn hb
  obtain ⟨k1, k2⟩ := h A' c' w' h2 h3 h4
  unfold Oper.wp execOp
  simp only [hop, resolve, invoke, builtin, Sem.run_bind, Sem.run_pure, Result.andThen_ok, List.map_toArray, List.map_cons, List.map_nil, hv, hx, hr']
  exact hK.out _ _ k1 (fun h' => hd.symm ▸ k2 h')
end

/-- The world kept all blocks but those of F. -/
def Keep (F : Nat → Prop) (w w' : World) : Prop := w'.os = w.os ∧ w'.tape = w.tape ∧ w'.output = w.output ∧ w.heap.size ≤ w'.heap.size ∧ ∀ k, k < w.heap.size → ¬ F k → w'.heap[k]? = w.heap[k]?
theorem Keep.refl (F : Nat → Prop) (w : World) : Keep F w w := ⟨rfl, rfl, rfl, Nat.le_refl _, fun _ _ _ => rfl⟩
theorem Keep.trans {F : Nat → Prop} {a b c : World} (h : Keep F a b) (k : Keep F b c) : Keep F a c :=
  ⟨k.1.trans h.1, k.2.1.trans h.2.1, k.2.2.1.trans h.2.2.1, Nat.le_trans h.2.2.2.1 k.2.2.2.1, fun j hj hF => (k.2.2.2.2 j (Nat.lt_of_lt_of_le hj h.2.2.2.1) hF).trans (h.2.2.2.2 j hj hF)⟩
theorem Keep.grown {F : Nat → Prop} {a b c : World} {row : Option Nat} (h : Keep F a b) (g : b.grownBy c row) (hr : ∀ k, row = some k → F k) : Keep F a c :=
  h.trans ⟨g.os, g.tape, g.output, g.size, fun k hk hF => g.block k hk (fun e => hF (hr k e.symm))⟩
theorem Keep.alloc {F : Nat → Prop} {a b : World} (h : Keep F a b) (o : Obj) : Keep F a (b.alloc o) := h.grown (World.grownBy_alloc b o none) (fun _ e => by cases e)
theorem Keep.drew {F : Nat → Prop} {a b : World} (h : Keep F a b) : Keep F a b.drew := h
theorem Keep.drewN {F : Nat → Prop} {a b : World} (h : Keep F a b) (n : Nat) : Keep F a (b.drewN n) := h
theorem Keep.later {F : Nat → Prop} {a b c : World} (h : Keep F a b) (l : Later b c) : Keep F a c :=
  h.trans ⟨l.os, l.tape, l.output, l.size, fun k hk _ => l.block k hk⟩
theorem Keep.put {F : Nat → Prop} {a b : World} (h : Keep F a b) {g : Nat} (hg : F g) (o : Nat) (u : Value) : Keep F a (b.setCell ⟨g, o, none⟩ u) :=
  h.trans ⟨rfl, rfl, rfl, by simp, fun k hk hF => Below.heap_setCell b ⟨g, o, none⟩ u k (fun e => hF (by rw [e]; exact hg))⟩
theorem Keep.mono {F G : Nat → Prop} {a b : World} (h : Keep F a b) (k : ∀ j, F j → G j) : Keep G a b := ⟨h.1, h.2.1, h.2.2.1, h.2.2.2.1, fun j hj hG => h.2.2.2.2 j hj (fun hF => hG (k j hF))⟩
theorem Later.keep {F : Nat → Prop} {a b c : World} (h : Later a b) (k : Keep F b c) (hF : ∀ j, F j → a.heap.size ≤ j) : Later a c :=
  ⟨k.1.trans h.os, k.2.1.trans h.tape, k.2.2.1.trans h.output, Nat.le_trans h.size k.2.2.2.1, fun j hj => (k.2.2.2.2 j (Nat.lt_of_lt_of_le hj h.size) (fun hj2 => by have := hF j hj2; omega)).trans (h.block j hj)⟩
theorem Keep.back {F : Nat → Prop} {a b : World} (h : Keep (fun k => F k ∨ a.heap.size ≤ k) a b) : Keep F a b := ⟨h.1, h.2.1, h.2.2.1, h.2.2.2.1, fun j hj hF => h.2.2.2.2 j hj (fun k => k.elim hF (fun k => by omega))⟩
theorem Pts.kept {F : Nat → Prop} {w w' : World} {A : Option Addr} {ps : List Pt} (h : Pts w A ps) (k : Keep F w w') (hA : ∀ b o, A = some ⟨b, o, Option.none⟩ → ¬ F b ∧ b < w.heap.size) : Pts w' A ps := fun hn => by
  obtain ⟨b, o, e, hx⟩ := h hn
  obtain ⟨f1, f2⟩ := hA b o e
  have hc : ∀ k, w'.cell? ⟨b, k, Option.none⟩ = w.cell? ⟨b, k, Option.none⟩ := fun j => World.cell?_of_block (a := ⟨b, j, Option.none⟩) (k.2.2.2.2 b f2 f1)
  exact ⟨b, o, e, fun i p hp => ⟨by rw [hc]; exact (hx i p hp).1, by rw [hc]; exact (hx i p hp).2⟩⟩

/-- Block g is a bag that has the elements of l, in that order; its memory lies in F. -/
structure Bag (w : World) (g : Nat) (l : List Pt) (F : Nat → Prop) (o : Option Nat) (v : Value) : Prop where
  blk : Blk w g 163 #[.map o, v]
  row : OwnR w 0 29 2 pt2 v l
  none : o = none → l = []
  map : ∀ m, o = some m → SetM encP I64P w m l ∧ F m
  own : F g
  rowF : ∀ k, v.ownBlock = some k → F k
theorem Bag.mono {w : World} {g : Nat} {l : List Pt} {F G : Nat → Prop} {o : Option Nat} {v : Value} (h : Bag w g l F o v) (k : ∀ j, F j → G j) : Bag w g l G o v :=
  ⟨h.blk, h.row, h.none, fun m e => ⟨(h.map m e).1, k _ (h.map m e).2⟩, k _ h.own, fun j e => k _ (h.rowF j e)⟩
theorem Bag.cut {w : World} {g : Nat} {l : List Pt} {F : Nat → Prop} {o : Option Nat} {v : Value} (h : Bag w g l F o v) : Bag w g l (fun k => F k ∧ k < w.heap.size) o v :=
  ⟨h.blk, h.row, h.none, fun m e => ⟨(h.map m e).1, (h.map m e).2, (h.map m e).1.lt⟩, ⟨h.own, h.blk.lt⟩, fun j e => ⟨h.rowF j e, (World.ownsRow.lt h.row j e).2⟩⟩
theorem Bag.later {w w' : World} {g : Nat} {l : List Pt} {F : Nat → Prop} {o : Option Nat} {v : Value} (h : Bag w g l F o v) (k : Later w w') : Bag w' g l F o v :=
  ⟨h.blk.later k, h.row.later k, h.none, fun m e => ⟨(h.map m e).1.later k, (h.map m e).2⟩, h.own, h.rowF⟩
theorem Bag.map_ne {w : World} {g : Nat} {l : List Pt} {F : Nat → Prop} {m : Nat} {v : Value} (h : Bag w g l F (some m) v) : m ≠ g := by
  obtain ⟨es, clock, hb, _⟩ := (h.map m rfl).1
  rintro rfl
  have := h.blk
  unfold Blk at this
  rw [hb] at this
  cases this
theorem Bag.row_ne {w : World} {g : Nat} {l : List Pt} {F : Nat → Prop} {o : Option Nat} {v : Value} (h : Bag w g l F o v) : v.ownBlock ≠ some g := by
  intro e
  rcases h.row.2 with ⟨h1, _⟩ | ⟨g', cap, cur, hv, _, hg, _⟩
  · rw [h1] at e; cases e
  · subst hv
    cases e
    have := h.blk
    unfold Blk at this
    rw [hg] at this
    simp at this
theorem Bag.row_map {w : World} {g : Nat} {l : List Pt} {F : Nat → Prop} {m : Nat} {v : Value} (h : Bag w g l F (some m) v) : v.ownBlock ≠ some m := by
  intro e
  obtain ⟨es, clock, hb, _⟩ := (h.map m rfl).1
  rcases h.row.2 with ⟨h1, _⟩ | ⟨g', cap, cur, hv, _, hg, _⟩
  · rw [h1] at e; cases e
  · subst hv
    cases e
    rw [hb] at hg
    cases hg
theorem Bag.drewN {w : World} {g : Nat} {l : List Pt} {F : Nat → Prop} {o : Option Nat} {v : Value} (h : Bag w g l F o v) (n : Nat) : Bag (w.drewN n) g l F o v := h.later ((Later.refl _).drewN n)
theorem Bag.drew {w : World} {g : Nat} {l : List Pt} {F : Nat → Prop} {o : Option Nat} {v : Value} (h : Bag w g l F o v) : Bag w.drew g l F o v := h.later (Later.refl _).drew

def AddPost (g : Nat) (l xs : List Pt) (F : Nat → Prop) (w : World) (e : Ending) (w' : World) : Prop := e = .returned (.tuple #[]) ∧ ∃ o v, Bag w' g (addAll l xs) (fun k => F k ∨ w.heap.size ≤ k) o v ∧ Keep F w w'
set_option maxHeartbeats 8000000 in
set_option maxRecDepth 100000 in
theorem bag_add (g : Nat) (l xs : List Pt) (F : Nat → Prop) (o : Option Nat) (v0 : Value) (A : Option Addr) (c : Nat) (w : World) (hb : Bag w g l F o v0) (hA : ∀ b o, A = some ⟨b, o, none⟩ → ¬ F b ∧ b < w.heap.size) (px : Pts w A xs) (hx : ∀ p ∈ xs, I64P p) (hn : l.length + xs.length ≤ 60000) :
    Calls Tryz.prog 90 #[.pointer (some ⟨g, 0, none⟩), .slice A xs.length c] w (AddPost g l xs F w) := by
  have hmm := @run_makeMap Tryz.prog
  have hnil := fun (W : World) (r : Option Nat) => run_eql_map_nil W 161 _ _ r Tryz.underlying161
  have Hpx := Lib.hid px
  have HA := Lib.hid hA
  have Hxs := Lib.hid hx
  clear px hA hx
  have g0 : w.cell? ⟨g, 0, none⟩ = some (.map o) := hb.blk.cell 0
  have f0 := hb.blk.frozen 0
  have zg := hb.blk.lt
  rcases o with _ | m
  · have hl0 := hb.none rfl
    have Hb := Lib.hid hb
    clear hb
    go_enter Tryz.func90, Tryz.ntmps90
    go_upto_region 3 with fail
    refine name_world (fun W3 hW3 => ?_)
    have hb := Hb.out
    have hbg : Blk W3 g 163 #[.map (some w.heap.size), v0] := by rw [hW3]; exact (hb.blk.set_ 0 _).alloc _
    have hsm : SetM encP I64P W3 w.heap.size l := by
      rw [hW3, hl0]
      have h := SetM.made (enc := encP) (ok := I64P) (w.setCell ⟨g, 0, none⟩ (.map (some w.heap.size)))
      simpa using h
    have hrw : OwnR W3 0 29 2 pt2 v0 l := by
      rw [hW3]
      exact (OwnR.ofBlk hb.row (fun k e => Below.heap_setCell _ ⟨g, 0, none⟩ _ k (fun e2 => hb.row_ne (by rw [e, e2])))).alloc _
    have HK0 : Hid (Keep (fun k => F k ∨ w.heap.size ≤ k) w W3) := Lib.hid (by rw [hW3]; exact ((Keep.refl _ w).put (Or.inl hb.own) _ _).alloc _)
    have HB0 : Hid (Bag W3 g l (fun k => F k ∨ w.heap.size ≤ k) (some w.heap.size) v0) := Lib.hid ⟨hbg, hrw, (fun e => by cases e), (fun m' e => by cases e; exact ⟨hsm, Or.inr (Nat.le_refl _)⟩), Or.inl hb.own, fun k e => Or.inl (hb.rowF k e)⟩
    clear hW3 g0 f0 zg hmm hnil hb hbg hsm hrw Hb
    obtain ⟨m, HB0⟩ : ∃ m, Hid (Bag W3 g l (fun k => F k ∨ w.heap.size ≤ k) (some m) v0) := ⟨_, HB0⟩
    clear hl0
    go_loopw [17] (fun iv wr => ∃ (k : Nat) (v : Value), k ≤ xs.length ∧ iv = .int .i64 k ∧ Bag wr g (addAll l (xs.take k)) (fun k => F k ∨ w.heap.size ≤ k) (some m) v ∧ Keep (fun k => F k ∨ w.heap.size ≤ k) w wr) (fun iv _ => xs.length - (intOf iv).toNat)
    case atStart => exact ⟨0, _, by omega, rfl, by simpa [addAll] using HB0.out, HK0.out⟩
    case round =>
      obtain ⟨k, v, hk, rfl, hB, hK⟩ := hrel
      by_cases hlt : k < xs.length
      · obtain ⟨b1, o1, rfl, e1, e2⟩ := (Hpx.out.kept hK (fun b o e => ⟨fun h => h.elim (HA.out b o e).1 (fun h => by have := (HA.out b o e).2; omega), (HA.out b o e).2⟩)).at_ hlt
        have zb := World.block_lt_of_cell? _ _ e1
        have han := addAll_next (l := l) hlt
        have hpn := Hxs.out _ (List.getElem_mem hlt)
        have hal : (addAll l (xs.take k)).length ≤ 60000 := by
          have := addAll_len (xs.take k) l
          rw [List.length_take] at this
          omega
        generalize xs[k] = p at *
        generalize addAll l (xs.take k) = cur at *
        have Hnx0 := Lib.hid han
        clear han
        obtain ⟨px, py⟩ := p
        simp only [] at e1 e2
        go_upto_region 5 with fail
        refine name_world (fun Wp hWp => ?_)
        have hbp : Later wr Wp := by rw [hWp]; exact (by repeat' (with_reducible first | exact Later.refl _ | assumption | refine Later.drew ?_ | refine Later.drewN ?_ _ | refine Later.alloc ?_ _ | refine Later.put ?_ (by omega) _ | refine Later.trans ?_ (by assumption)))
        have Dp : Blk Wp wr.heap.size 29 #[.int .i64 px, .int .i64 py] := by rw [hWp]; exact (by repeat' (with_reducible first | assumption | (refine Blk.newAt ?_; simp; done) | refine Blk.alloc ?_ _ | refine Blk.drew ?_ | refine Blk.drewN ?_ _ | refine Blk.later ?_ (by assumption)))
        have hBp := hB.later hbp
        have hKp := hK.later hbp
        have hgp : wr.heap.size ≠ g := by have := hB.blk.lt; omega
        have hgm : wr.heap.size ≠ m := by have := (hB.map m rfl).1.lt; omega
        have hgr : v.ownBlock ≠ some wr.heap.size := fun e => by have := (World.ownsRow.lt hB.row _ e).2; omega
        have hgF : w.heap.size ≤ wr.heap.size := hK.2.2.2.1
        clear hWp e1 e2 zb hB hK
        generalize wr.heap.size = gp at *
        have k0 : Wp.cell? ⟨gp, 0, none⟩ = some (.int .i64 px) := Dp.cell 0
        have k1 : Wp.cell? ⟨gp, 1, none⟩ = some (.int .i64 py) := Dp.cell 1
        have g0 : Wp.cell? ⟨g, 0, none⟩ = some (.map (some m)) := hBp.blk.cell 0
        have zp := Dp.lt
        have zg := hBp.blk.lt
        have hlook := fun n => ((hBp.drewN n).map m rfl).1.look spot_enc Tryz.underlying161 (show (zeroValue 4).run Tryz.prog (Wp.drewN n) = .ok (.bool false) (Wp.drewN n) by go_simp) (a := ⟨px, py⟩) hpn
        unfold encP at hlook
        simp only [] at hlook
        by_cases hin : (⟨px, py⟩ : Pt) ∈ cur
        · have Hnx := Lib.hid (show addAll l (xs.take (k + 1)) = cur by rw [Hnx0.out]; unfold addP; rw [if_pos hin])
          simp only [decide_eq_true hin] at hlook
          go_quiet (fail)
          go_wp2
          go_roundw
          case rel => exact ⟨k + 1, v, by omega, by go_num, by rw [Hnx.out]; exact hBp.drewN _, hKp.drewN _⟩
          case measure => simp [intOf]; omega
        · have Hnx := Lib.hid (show addAll l (xs.take (k + 1)) = cur ++ [⟨px, py⟩] by rw [Hnx0.out]; unfold addP; rw [if_neg hin])
          simp only [decide_eq_false hin] at hlook
          go_quiet (fail)
          clear hlook k0 k1 g0
          go_upto_region 6 with fail
          refine name_world (fun W6 hW6 => ?_)
          have hl6 : Later Wp W6 := by rw [hW6]; exact (by repeat' (with_reducible first | exact Later.refl _ | assumption | refine Later.drew ?_ | refine Later.drewN ?_ _ | refine Later.alloc ?_ _ | refine Later.put ?_ (by omega) _ | refine Later.trans ?_ (by assumption)))
          clear hW6
          have D6 := Dp.later hl6
          have hB6 := hBp.later hl6
          have hK6 := hKp.later hl6
          have k0 : W6.cell? ⟨gp, 0, none⟩ = some (.int .i64 px) := D6.cell 0
          have k1 : W6.cell? ⟨gp, 1, none⟩ = some (.int .i64 py) := D6.cell 1
          have g0 : W6.cell? ⟨g, 0, none⟩ = some (.map (some m)) := hB6.blk.cell 0
          have zp := D6.lt
          have zg := hB6.blk.lt
          obtain ⟨w7, y1, y2, y3, y4⟩ := (hB6.drew.map m rfl).1.put spot_enc Tryz.underlying161 (a := ⟨px, py⟩) hpn hin
          unfold encP at y1
          simp only [] at y1
          have hmgne := hB6.map_ne
          have hrgne := hB6.row_ne
          have hrmne := hB6.row_map
          have q67 : ∀ k, k < W6.heap.size → k ≠ m → w7.heap[k]? = W6.heap[k]? := fun k hk hne => y3.block k hk (fun e => hne (by injection e))
          have hG7 : Blk w7 g 163 #[.map (some m), v] := (q67 g hB6.blk.lt hmgne.symm).trans hB6.blk
          have hD7 : Blk w7 gp 29 #[.int .i64 px, .int .i64 py] := (q67 gp D6.lt hgm).trans D6
          have hO7 := Lib.hid (OwnR.ofBlk hB6.row (fun k e => q67 k (World.ownsRow.lt hB6.row k e).2 (fun e2 => hrmne (by rw [e, e2]))))
          have HFg := Lib.hid hB6.own
          have HFm := Lib.hid (hB6.map m rfl).2
          have HFv := Lib.hid hB6.rowF
          have HK7 := Lib.hid ((Keep.drew hK6).grown y3 (fun k e => by cases e; exact HFm.out))
          have hk7 : w.heap.size ≤ w7.heap.size := HK7.out.2.2.2.1
          have Hs7 := Lib.hid y2
          have Hmg := Lib.hid hmgne
          have Hrg := Lib.hid hrgne
          have Hrm := Lib.hid hrmne
          have Hrp := Lib.hid hgr
          have Hgp := Lib.hid hgp
          refine wp_region_still_tail 5 (by kernel_rfl) (by kernel_rfl) ?_
          simp only [List.take_succ_cons, List.take_zero, List.drop_succ_cons, List.drop_zero]
          repeat still_step
          refine wpStill_nil ?_
          change wpList _ _ _ _ _ (World.drew _)
          clear k0 k1 g0 zp zg
          go_upto_region 7 with fail
          clear y1 y2 y3 y4 D6 hB6 hK6 q67 hmgne hrgne hrmne hgr hgp Dp hBp hKp hbp hl6
          have G7 := hG7
          have D7 := hD7
          have hcl : cur.length ≤ 60000 := hal
          have hS : ∀ w' : World, Blk w' gp 29 #[.int .i64 px, .int .i64 py] → (w'.cell? ⟨gp, 0, none⟩ = some (.int .i64 px) ∧ w'.cell? ⟨gp, 1, none⟩ = some (.int .i64 py) ∧ gp < w'.heap.size) := fun w' h => ⟨h.cell 0, h.cell 1, h.lt⟩
          refine wp_region_held_drew (S := fun w' : World => w'.cell? ⟨gp, 0, none⟩ = some (.int .i64 px) ∧ w'.cell? ⟨gp, 1, none⟩ = some (.int .i64 py) ∧ gp < w'.heap.size) (by kernel_rfl) (hS _ D7.drew) (fun hHeld => ?_)
          refine take_at (i := 0) (d := 33) (v := ?_) rfl rfl (by kernel_rfl) (by kernel_rfl) (by kernel_rfl) (fun _ _ _ h => h) (by rfl) ?_ (by assumption) ?_
          rotate_left
          · (intro w hSw; (try dsimp only at hSw); go_simp; (try with_reducible rfl))
          simp only [Act.put, List.setIfInBounds_toArray, List.set_cons_zero, List.set_cons_succ]
          refine take_at (i := 1) (d := 34) (v := ?_) rfl rfl (by kernel_rfl) (by kernel_rfl) (by kernel_rfl) (fun _ _ _ h => h) (by rfl) ?_ (by assumption) ?_
          rotate_left
          · (intro w hSw; (try dsimp only at hSw); go_simp; (try with_reducible rfl))
          simp only [Act.put, List.setIfInBounds_toArray, List.set_cons_zero, List.set_cons_succ]
          refine take_at (i := 2) (d := 35) (v := ?_) rfl rfl (by kernel_rfl) (by kernel_rfl) (by kernel_rfl) (fun _ _ _ h => h) (by rfl) ?_ (by assumption) ?_
          rotate_left
          · (intro w hSw; (try dsimp only at hSw); go_simp; (try with_reducible rfl))
          simp only [Act.put, List.setIfInBounds_toArray, List.set_cons_zero, List.set_cons_succ]
          refine take_at (i := 3) (d := 36) (v := ?_) rfl rfl (by kernel_rfl) (by kernel_rfl) (by kernel_rfl) (fun _ _ _ h => h) (by rfl) ?_ (by assumption) ?_
          rotate_left
          · (intro w hSw; (try dsimp only at hSw); go_simp; (try with_reducible rfl))
          simp only [Act.put, List.setIfInBounds_toArray, List.set_cons_zero, List.set_cons_succ]
          refine take_at (i := 5) (d := 38) (v := ?_) rfl rfl (by kernel_rfl) (by kernel_rfl) (by kernel_rfl) (fun _ _ _ h => h) (by rfl) ?_ (by assumption) ?_
          rotate_left
          · (intro w hSw; (try dsimp only at hSw); go_simp; (try with_reducible rfl))
          simp only [Act.put, List.setIfInBounds_toArray, List.set_cons_zero, List.set_cons_succ]
          clear hHeld
          have g1 : w7.cell? ⟨g, 1, none⟩ = some v := G7.cell 1
          have zg := G7.lt
          have hA2 : Later w7 (w7.drew.alloc (.cells #[.int .i64 px, .int .i64 py] 29)) := (Later.refl _).drew.alloc _
          refine wpAnyH_ready (rs := [4, 6]) (by kernel_rfl) (by simp) (rdy_val (i := 4) (d := 37) (v := v) (w' := w7.drew) rfl rfl (by rfl) (by go_simp) (hS _ D7.drew) ?_ (rdy_val (i := 6) (d := 39) (v := .slice (some ⟨w7.heap.size, 0, none⟩) 1 1) (w' := w7.drew.alloc (.cells #[.int .i64 px, .int .i64 py] 29)) rfl rfl (by rfl) (by go_simp) (hS _ (D7.later hA2)) ?_ AllReadyH.nil))
          · simp only [Act.put, List.setIfInBounds_toArray, List.set_cons_zero, List.set_cons_succ]
            refine val_at (i := 6) (d := 39) (v := .slice (some ⟨w7.heap.size, 0, none⟩) 1 1) (w' := w7.drew.alloc (.cells #[.int .i64 px, .int .i64 py] 29)) (by kernel_rfl) rfl rfl (by rfl) (by go_simp) (hS _ (D7.later hA2)) ?_
            simp only [Act.put, List.setIfInBounds_toArray, List.set_cons_zero, List.set_cons_succ]
            clear g1 zg
            have hSX := hA2
            refine append_atf (i := 7) (d := 40) slt_spot pt2_len pt2_one (by kernel_rfl) rfl rfl rfl (.tmp 37) (.tmp 39) rfl (base := 0) (l := cur) rfl (hO7.out.later hA2) (ad := ⟨w7.heap.size, 0, none⟩) (c := 1) [⟨px, py⟩] rfl (SrcAt.blk (cs := #[.int .i64 px, .int .i64 py]) (Blk.new _ _ _)) (by simp; omega) (Nat.zero_le _) (fun A9 c9 w9 ho9 hg9 hf9 => ?_)
            have q7 : ∀ k, k < w7.heap.size → v.ownBlock ≠ some k → w9.heap[k]? = w7.heap[k]? := fun k hk hne => (hg9.block k (Nat.lt_of_lt_of_le hk hSX.size) (fun e => hne e.symm)).trans (hSX.block k hk)
            have D9 : Blk w9 gp 29 #[.int .i64 px, .int .i64 py] := (q7 gp D7.lt Hrp.out).trans D7
            have G9 : Blk w9 g 163 #[.map (some m), v] := (q7 g G7.lt Hrg.out).trans G7
            refine ⟨⟨D9.cell 0, D9.cell 1, D9.lt⟩, fun hHeld => ?_⟩
            simp only [Act.put, List.setIfInBounds_toArray, List.set_cons_zero, List.set_cons_succ]
            have hle : (cur ++ [(⟨px, py⟩ : Pt)]).length = cur.length + 1 := by simp
            rw [hle] at ho9 hf9 ⊢
            refine take_at (i := 8) (d := 41) (v := ?_) rfl rfl (by kernel_rfl) (by kernel_rfl) (by kernel_rfl) (fun _ _ _ h => h) (by rfl) ?_ (by assumption) ?_
            rotate_left
            · (intro w hSw; (try dsimp only at hSw); go_simp; (try with_reducible rfl))
            simp only [Act.put, List.setIfInBounds_toArray, List.set_cons_zero, List.set_cons_succ]
            refine take_at (i := 9) (d := 42) (v := ?_) rfl rfl (by kernel_rfl) (by kernel_rfl) (by kernel_rfl) (fun _ _ _ h => h) (by rfl) ?_ (by assumption) ?_
            rotate_left
            · (intro w hSw; (try dsimp only at hSw); go_simp; (try with_reducible rfl))
            simp only [Act.put, List.setIfInBounds_toArray, List.set_cons_zero, List.set_cons_succ]
            clear hHeld
            have c1 : w9.cell? ⟨g, 1, none⟩ = some v := G9.cell 1
            have f1 := G9.frozen 1
            have z1 := G9.lt
            refine sto_at (i := 10) (w' := w9.setCell ⟨g, 1, none⟩ (.slice A9 (cur.length + 1) c9)) (by kernel_rfl) rfl rfl (by rfl) (by go_simp) ⟨(D9.far Hgp.out _).cell 0, (D9.far Hgp.out _).cell 1, (D9.far Hgp.out _).lt⟩ ?_
            have hnb : (Value.slice A9 (cur.length + 1) c9).ownBlock ≠ some g := fun e => by
              rcases ho9.2 with ⟨h1, _⟩ | ⟨g', cap, cc, hv, _, hg, _⟩
              · rw [h1] at e; cases e
              · rw [hv] at e
                cases e
                have h3 := G9
                unfold Blk at h3
                rw [hg] at h3
                simp at h3
            have HB9 := Lib.hid (show Bag (w9.setCell ⟨g, 1, none⟩ (.slice A9 (cur.length + 1) c9)) g (cur ++ [⟨px, py⟩]) (fun k => F k ∨ w.heap.size ≤ k) (some m) (.slice A9 (cur.length + 1) c9) from
              ⟨G9.set_ 1 _, OwnR.ofBlk ho9 (fun k e => Below.heap_setCell w9 ⟨g, 1, none⟩ _ k (fun e2 => hnb (by rw [e, e2]))), (fun e => by cases e), (fun m' e => by
                  cases e
                  exact ⟨((Hs7.out.of (q7 m Hs7.out.lt Hrm.out))).past Hmg.out, HFm.out⟩), HFg.out, (fun k e => by
                  rcases hf9 with h | h
                  · exact HFv.out k (h.symm.trans e)
                  · rw [h] at e
                    cases e
                    have := hSX.size
                    exact .inr (by omega))⟩)
            have HK9 := Lib.hid (show Keep (fun k => F k ∨ w.heap.size ≤ k) w (w9.setCell ⟨g, 1, none⟩ (.slice A9 (cur.length + 1) c9)) from ((HK7.out.later hSX).grown hg9 (fun k e => HFv.out k e)).put HFg.out _ _)
            clear ho9 hg9 hf9 q7 D9 G9 c1 f1 z1 hnb
            refine wpAnyH_done (by kernel_rfl) ?_ _
            go_wp2_with fail
            go_roundw
            case rel => exact ⟨k + 1, _, by omega, by go_num, Hnx.out ▸ HB9.out, HK9.out⟩
            case measure => simp [intOf]; omega
          · simp only [Act.put, List.setIfInBounds_toArray, List.set_cons_zero, List.set_cons_succ]
            refine val_at (i := 4) (d := 37) (v := v) (w' := w7.drew.alloc (.cells #[.int .i64 px, .int .i64 py] 29)) (by kernel_rfl) rfl rfl (by rfl) (by go_simp) (hS _ (D7.later hA2)) ?_
            simp only [Act.put, List.setIfInBounds_toArray, List.set_cons_zero, List.set_cons_succ]
            clear g1 zg
            have hSX := hA2
            refine append_atf (i := 7) (d := 40) slt_spot pt2_len pt2_one (by kernel_rfl) rfl rfl rfl (.tmp 37) (.tmp 39) rfl (base := 0) (l := cur) rfl (hO7.out.later hA2) (ad := ⟨w7.heap.size, 0, none⟩) (c := 1) [⟨px, py⟩] rfl (SrcAt.blk (cs := #[.int .i64 px, .int .i64 py]) (Blk.new _ _ _)) (by simp; omega) (Nat.zero_le _) (fun A9 c9 w9 ho9 hg9 hf9 => ?_)
            have q7 : ∀ k, k < w7.heap.size → v.ownBlock ≠ some k → w9.heap[k]? = w7.heap[k]? := fun k hk hne => (hg9.block k (Nat.lt_of_lt_of_le hk hSX.size) (fun e => hne e.symm)).trans (hSX.block k hk)
            have D9 : Blk w9 gp 29 #[.int .i64 px, .int .i64 py] := (q7 gp D7.lt Hrp.out).trans D7
            have G9 : Blk w9 g 163 #[.map (some m), v] := (q7 g G7.lt Hrg.out).trans G7
            refine ⟨⟨D9.cell 0, D9.cell 1, D9.lt⟩, fun hHeld => ?_⟩
            simp only [Act.put, List.setIfInBounds_toArray, List.set_cons_zero, List.set_cons_succ]
            have hle : (cur ++ [(⟨px, py⟩ : Pt)]).length = cur.length + 1 := by simp
            rw [hle] at ho9 hf9 ⊢
            refine take_at (i := 8) (d := 41) (v := ?_) rfl rfl (by kernel_rfl) (by kernel_rfl) (by kernel_rfl) (fun _ _ _ h => h) (by rfl) ?_ (by assumption) ?_
            rotate_left
            · (intro w hSw; (try dsimp only at hSw); go_simp; (try with_reducible rfl))
            simp only [Act.put, List.setIfInBounds_toArray, List.set_cons_zero, List.set_cons_succ]
            refine take_at (i := 9) (d := 42) (v := ?_) rfl rfl (by kernel_rfl) (by kernel_rfl) (by kernel_rfl) (fun _ _ _ h => h) (by rfl) ?_ (by assumption) ?_
            rotate_left
            · (intro w hSw; (try dsimp only at hSw); go_simp; (try with_reducible rfl))
            simp only [Act.put, List.setIfInBounds_toArray, List.set_cons_zero, List.set_cons_succ]
            clear hHeld
            have c1 : w9.cell? ⟨g, 1, none⟩ = some v := G9.cell 1
            have f1 := G9.frozen 1
            have z1 := G9.lt
            refine sto_at (i := 10) (w' := w9.setCell ⟨g, 1, none⟩ (.slice A9 (cur.length + 1) c9)) (by kernel_rfl) rfl rfl (by rfl) (by go_simp) ⟨(D9.far Hgp.out _).cell 0, (D9.far Hgp.out _).cell 1, (D9.far Hgp.out _).lt⟩ ?_
            have hnb : (Value.slice A9 (cur.length + 1) c9).ownBlock ≠ some g := fun e => by
              rcases ho9.2 with ⟨h1, _⟩ | ⟨g', cap, cc, hv, _, hg, _⟩
              · rw [h1] at e; cases e
              · rw [hv] at e
                cases e
                have h3 := G9
                unfold Blk at h3
                rw [hg] at h3
                simp at h3
            have HB9 := Lib.hid (show Bag (w9.setCell ⟨g, 1, none⟩ (.slice A9 (cur.length + 1) c9)) g (cur ++ [⟨px, py⟩]) (fun k => F k ∨ w.heap.size ≤ k) (some m) (.slice A9 (cur.length + 1) c9) from
              ⟨G9.set_ 1 _, OwnR.ofBlk ho9 (fun k e => Below.heap_setCell w9 ⟨g, 1, none⟩ _ k (fun e2 => hnb (by rw [e, e2]))), (fun e => by cases e), (fun m' e => by
                  cases e
                  exact ⟨((Hs7.out.of (q7 m Hs7.out.lt Hrm.out))).past Hmg.out, HFm.out⟩), HFg.out, (fun k e => by
                  rcases hf9 with h | h
                  · exact HFv.out k (h.symm.trans e)
                  · rw [h] at e
                    cases e
                    have := hSX.size
                    exact .inr (by omega))⟩)
            have HK9 := Lib.hid (show Keep (fun k => F k ∨ w.heap.size ≤ k) w (w9.setCell ⟨g, 1, none⟩ (.slice A9 (cur.length + 1) c9)) from ((HK7.out.later hSX).grown hg9 (fun k e => HFv.out k e)).put HFg.out _ _)
            clear ho9 hg9 hf9 q7 D9 G9 c1 f1 z1 hnb
            refine wpAnyH_done (by kernel_rfl) ?_ _
            go_wp2_with fail
            go_roundw
            case rel => exact ⟨k + 1, _, by omega, by go_num, Hnx.out ▸ HB9.out, HK9.out⟩
            case measure => simp [intOf]; omega
      · have hke : xs.take k = xs := List.take_of_length_le (by omega)
        rw [hke] at hB
        have HBe := Lib.hid hB
        have HKe := Lib.hid hK
        clear hB hK
        go_wp2
        (try simp only [Exit.inBlock, Exit.then])
        refine bodyPost_ret (results_none rfl _ _ _) rfl ?_
        exact ⟨rfl, some m, v, HBe.out, HKe.out.back⟩
  · have HB0 := Lib.hid (hb.mono (fun j h => (Or.inl h : F j ∨ w.heap.size ≤ j)))
    have HK0 := Lib.hid (Keep.refl (fun k => F k ∨ w.heap.size ≤ k) w)
    clear hb
    go_enter Tryz.func90, Tryz.ntmps90
    go_upto_region 3 with fail
    clear g0 f0 zg hmm hnil
    go_loopw [17] (fun iv wr => ∃ (k : Nat) (v : Value), k ≤ xs.length ∧ iv = .int .i64 k ∧ Bag wr g (addAll l (xs.take k)) (fun k => F k ∨ w.heap.size ≤ k) (some m) v ∧ Keep (fun k => F k ∨ w.heap.size ≤ k) w wr) (fun iv _ => xs.length - (intOf iv).toNat)
    case atStart => exact ⟨0, _, by omega, rfl, by simpa [addAll] using HB0.out, HK0.out⟩
    case round =>
      obtain ⟨k, v, hk, rfl, hB, hK⟩ := hrel
      by_cases hlt : k < xs.length
      · obtain ⟨b1, o1, rfl, e1, e2⟩ := (Hpx.out.kept hK (fun b o e => ⟨fun h => h.elim (HA.out b o e).1 (fun h => by have := (HA.out b o e).2; omega), (HA.out b o e).2⟩)).at_ hlt
        have zb := World.block_lt_of_cell? _ _ e1
        have han := addAll_next (l := l) hlt
        have hpn := Hxs.out _ (List.getElem_mem hlt)
        have hal : (addAll l (xs.take k)).length ≤ 60000 := by
          have := addAll_len (xs.take k) l
          rw [List.length_take] at this
          omega
        generalize xs[k] = p at *
        generalize addAll l (xs.take k) = cur at *
        have Hnx0 := Lib.hid han
        clear han
        obtain ⟨px, py⟩ := p
        simp only [] at e1 e2
        go_upto_region 5 with fail
        refine name_world (fun Wp hWp => ?_)
        have hbp : Later wr Wp := by rw [hWp]; exact (by repeat' (with_reducible first | exact Later.refl _ | assumption | refine Later.drew ?_ | refine Later.drewN ?_ _ | refine Later.alloc ?_ _ | refine Later.put ?_ (by omega) _ | refine Later.trans ?_ (by assumption)))
        have Dp : Blk Wp wr.heap.size 29 #[.int .i64 px, .int .i64 py] := by rw [hWp]; exact (by repeat' (with_reducible first | assumption | (refine Blk.newAt ?_; simp; done) | refine Blk.alloc ?_ _ | refine Blk.drew ?_ | refine Blk.drewN ?_ _ | refine Blk.later ?_ (by assumption)))
        have hBp := hB.later hbp
        have hKp := hK.later hbp
        have hgp : wr.heap.size ≠ g := by have := hB.blk.lt; omega
        have hgm : wr.heap.size ≠ m := by have := (hB.map m rfl).1.lt; omega
        have hgr : v.ownBlock ≠ some wr.heap.size := fun e => by have := (World.ownsRow.lt hB.row _ e).2; omega
        have hgF : w.heap.size ≤ wr.heap.size := hK.2.2.2.1
        clear hWp e1 e2 zb hB hK
        generalize wr.heap.size = gp at *
        have k0 : Wp.cell? ⟨gp, 0, none⟩ = some (.int .i64 px) := Dp.cell 0
        have k1 : Wp.cell? ⟨gp, 1, none⟩ = some (.int .i64 py) := Dp.cell 1
        have g0 : Wp.cell? ⟨g, 0, none⟩ = some (.map (some m)) := hBp.blk.cell 0
        have zp := Dp.lt
        have zg := hBp.blk.lt
        have hlook := fun n => ((hBp.drewN n).map m rfl).1.look spot_enc Tryz.underlying161 (show (zeroValue 4).run Tryz.prog (Wp.drewN n) = .ok (.bool false) (Wp.drewN n) by go_simp) (a := ⟨px, py⟩) hpn
        unfold encP at hlook
        simp only [] at hlook
        by_cases hin : (⟨px, py⟩ : Pt) ∈ cur
        · have Hnx := Lib.hid (show addAll l (xs.take (k + 1)) = cur by rw [Hnx0.out]; unfold addP; rw [if_pos hin])
          simp only [decide_eq_true hin] at hlook
          go_quiet (fail)
          go_wp2
          go_roundw
          case rel => exact ⟨k + 1, v, by omega, by go_num, by rw [Hnx.out]; exact hBp.drewN _, hKp.drewN _⟩
          case measure => simp [intOf]; omega
        · have Hnx := Lib.hid (show addAll l (xs.take (k + 1)) = cur ++ [⟨px, py⟩] by rw [Hnx0.out]; unfold addP; rw [if_neg hin])
          simp only [decide_eq_false hin] at hlook
          go_quiet (fail)
          clear hlook k0 k1 g0
          go_upto_region 6 with fail
          refine name_world (fun W6 hW6 => ?_)
          have hl6 : Later Wp W6 := by rw [hW6]; exact (by repeat' (with_reducible first | exact Later.refl _ | assumption | refine Later.drew ?_ | refine Later.drewN ?_ _ | refine Later.alloc ?_ _ | refine Later.put ?_ (by omega) _ | refine Later.trans ?_ (by assumption)))
          clear hW6
          have D6 := Dp.later hl6
          have hB6 := hBp.later hl6
          have hK6 := hKp.later hl6
          have k0 : W6.cell? ⟨gp, 0, none⟩ = some (.int .i64 px) := D6.cell 0
          have k1 : W6.cell? ⟨gp, 1, none⟩ = some (.int .i64 py) := D6.cell 1
          have g0 : W6.cell? ⟨g, 0, none⟩ = some (.map (some m)) := hB6.blk.cell 0
          have zp := D6.lt
          have zg := hB6.blk.lt
          obtain ⟨w7, y1, y2, y3, y4⟩ := (hB6.drew.map m rfl).1.put spot_enc Tryz.underlying161 (a := ⟨px, py⟩) hpn hin
          unfold encP at y1
          simp only [] at y1
          have hmgne := hB6.map_ne
          have hrgne := hB6.row_ne
          have hrmne := hB6.row_map
          have q67 : ∀ k, k < W6.heap.size → k ≠ m → w7.heap[k]? = W6.heap[k]? := fun k hk hne => y3.block k hk (fun e => hne (by injection e))
          have hG7 : Blk w7 g 163 #[.map (some m), v] := (q67 g hB6.blk.lt hmgne.symm).trans hB6.blk
          have hD7 : Blk w7 gp 29 #[.int .i64 px, .int .i64 py] := (q67 gp D6.lt hgm).trans D6
          have hO7 := Lib.hid (OwnR.ofBlk hB6.row (fun k e => q67 k (World.ownsRow.lt hB6.row k e).2 (fun e2 => hrmne (by rw [e, e2]))))
          have HFg := Lib.hid hB6.own
          have HFm := Lib.hid (hB6.map m rfl).2
          have HFv := Lib.hid hB6.rowF
          have HK7 := Lib.hid ((Keep.drew hK6).grown y3 (fun k e => by cases e; exact HFm.out))
          have hk7 : w.heap.size ≤ w7.heap.size := HK7.out.2.2.2.1
          have Hs7 := Lib.hid y2
          have Hmg := Lib.hid hmgne
          have Hrg := Lib.hid hrgne
          have Hrm := Lib.hid hrmne
          have Hrp := Lib.hid hgr
          have Hgp := Lib.hid hgp
          refine wp_region_still_tail 5 (by kernel_rfl) (by kernel_rfl) ?_
          simp only [List.take_succ_cons, List.take_zero, List.drop_succ_cons, List.drop_zero]
          repeat still_step
          refine wpStill_nil ?_
          change wpList _ _ _ _ _ (World.drew _)
          clear k0 k1 g0 zp zg
          go_upto_region 7 with fail
          clear y1 y2 y3 y4 D6 hB6 hK6 q67 hmgne hrgne hrmne hgr hgp Dp hBp hKp hbp hl6
          have G7 := hG7
          have D7 := hD7
          have hcl : cur.length ≤ 60000 := hal
          have hS : ∀ w' : World, Blk w' gp 29 #[.int .i64 px, .int .i64 py] → (w'.cell? ⟨gp, 0, none⟩ = some (.int .i64 px) ∧ w'.cell? ⟨gp, 1, none⟩ = some (.int .i64 py) ∧ gp < w'.heap.size) := fun w' h => ⟨h.cell 0, h.cell 1, h.lt⟩
          refine wp_region_held_drew (S := fun w' : World => w'.cell? ⟨gp, 0, none⟩ = some (.int .i64 px) ∧ w'.cell? ⟨gp, 1, none⟩ = some (.int .i64 py) ∧ gp < w'.heap.size) (by kernel_rfl) (hS _ D7.drew) (fun hHeld => ?_)
          refine take_at (i := 0) (d := 33) (v := ?_) rfl rfl (by kernel_rfl) (by kernel_rfl) (by kernel_rfl) (fun _ _ _ h => h) (by rfl) ?_ (by assumption) ?_
          rotate_left
          · (intro w hSw; (try dsimp only at hSw); go_simp; (try with_reducible rfl))
          simp only [Act.put, List.setIfInBounds_toArray, List.set_cons_zero, List.set_cons_succ]
          refine take_at (i := 1) (d := 34) (v := ?_) rfl rfl (by kernel_rfl) (by kernel_rfl) (by kernel_rfl) (fun _ _ _ h => h) (by rfl) ?_ (by assumption) ?_
          rotate_left
          · (intro w hSw; (try dsimp only at hSw); go_simp; (try with_reducible rfl))
          simp only [Act.put, List.setIfInBounds_toArray, List.set_cons_zero, List.set_cons_succ]
          refine take_at (i := 2) (d := 35) (v := ?_) rfl rfl (by kernel_rfl) (by kernel_rfl) (by kernel_rfl) (fun _ _ _ h => h) (by rfl) ?_ (by assumption) ?_
          rotate_left
          · (intro w hSw; (try dsimp only at hSw); go_simp; (try with_reducible rfl))
          simp only [Act.put, List.setIfInBounds_toArray, List.set_cons_zero, List.set_cons_succ]
          refine take_at (i := 3) (d := 36) (v := ?_) rfl rfl (by kernel_rfl) (by kernel_rfl) (by kernel_rfl) (fun _ _ _ h => h) (by rfl) ?_ (by assumption) ?_
          rotate_left
          · (intro w hSw; (try dsimp only at hSw); go_simp; (try with_reducible rfl))
          simp only [Act.put, List.setIfInBounds_toArray, List.set_cons_zero, List.set_cons_succ]
          refine take_at (i := 5) (d := 38) (v := ?_) rfl rfl (by kernel_rfl) (by kernel_rfl) (by kernel_rfl) (fun _ _ _ h => h) (by rfl) ?_ (by assumption) ?_
          rotate_left
          · (intro w hSw; (try dsimp only at hSw); go_simp; (try with_reducible rfl))
          simp only [Act.put, List.setIfInBounds_toArray, List.set_cons_zero, List.set_cons_succ]
          clear hHeld
          have g1 : w7.cell? ⟨g, 1, none⟩ = some v := G7.cell 1
          have zg := G7.lt
          have hA2 : Later w7 (w7.drew.alloc (.cells #[.int .i64 px, .int .i64 py] 29)) := (Later.refl _).drew.alloc _
          refine wpAnyH_ready (rs := [4, 6]) (by kernel_rfl) (by simp) (rdy_val (i := 4) (d := 37) (v := v) (w' := w7.drew) rfl rfl (by rfl) (by go_simp) (hS _ D7.drew) ?_ (rdy_val (i := 6) (d := 39) (v := .slice (some ⟨w7.heap.size, 0, none⟩) 1 1) (w' := w7.drew.alloc (.cells #[.int .i64 px, .int .i64 py] 29)) rfl rfl (by rfl) (by go_simp) (hS _ (D7.later hA2)) ?_ AllReadyH.nil))
          · simp only [Act.put, List.setIfInBounds_toArray, List.set_cons_zero, List.set_cons_succ]
            refine val_at (i := 6) (d := 39) (v := .slice (some ⟨w7.heap.size, 0, none⟩) 1 1) (w' := w7.drew.alloc (.cells #[.int .i64 px, .int .i64 py] 29)) (by kernel_rfl) rfl rfl (by rfl) (by go_simp) (hS _ (D7.later hA2)) ?_
            simp only [Act.put, List.setIfInBounds_toArray, List.set_cons_zero, List.set_cons_succ]
            clear g1 zg
            have hSX := hA2
            refine append_atf (i := 7) (d := 40) slt_spot pt2_len pt2_one (by kernel_rfl) rfl rfl rfl (.tmp 37) (.tmp 39) rfl (base := 0) (l := cur) rfl (hO7.out.later hA2) (ad := ⟨w7.heap.size, 0, none⟩) (c := 1) [⟨px, py⟩] rfl (SrcAt.blk (cs := #[.int .i64 px, .int .i64 py]) (Blk.new _ _ _)) (by simp; omega) (Nat.zero_le _) (fun A9 c9 w9 ho9 hg9 hf9 => ?_)
            have q7 : ∀ k, k < w7.heap.size → v.ownBlock ≠ some k → w9.heap[k]? = w7.heap[k]? := fun k hk hne => (hg9.block k (Nat.lt_of_lt_of_le hk hSX.size) (fun e => hne e.symm)).trans (hSX.block k hk)
            have D9 : Blk w9 gp 29 #[.int .i64 px, .int .i64 py] := (q7 gp D7.lt Hrp.out).trans D7
            have G9 : Blk w9 g 163 #[.map (some m), v] := (q7 g G7.lt Hrg.out).trans G7
            refine ⟨⟨D9.cell 0, D9.cell 1, D9.lt⟩, fun hHeld => ?_⟩
            simp only [Act.put, List.setIfInBounds_toArray, List.set_cons_zero, List.set_cons_succ]
            have hle : (cur ++ [(⟨px, py⟩ : Pt)]).length = cur.length + 1 := by simp
            rw [hle] at ho9 hf9 ⊢
            refine take_at (i := 8) (d := 41) (v := ?_) rfl rfl (by kernel_rfl) (by kernel_rfl) (by kernel_rfl) (fun _ _ _ h => h) (by rfl) ?_ (by assumption) ?_
            rotate_left
            · (intro w hSw; (try dsimp only at hSw); go_simp; (try with_reducible rfl))
            simp only [Act.put, List.setIfInBounds_toArray, List.set_cons_zero, List.set_cons_succ]
            refine take_at (i := 9) (d := 42) (v := ?_) rfl rfl (by kernel_rfl) (by kernel_rfl) (by kernel_rfl) (fun _ _ _ h => h) (by rfl) ?_ (by assumption) ?_
            rotate_left
            · (intro w hSw; (try dsimp only at hSw); go_simp; (try with_reducible rfl))
            simp only [Act.put, List.setIfInBounds_toArray, List.set_cons_zero, List.set_cons_succ]
            clear hHeld
            have c1 : w9.cell? ⟨g, 1, none⟩ = some v := G9.cell 1
            have f1 := G9.frozen 1
            have z1 := G9.lt
            refine sto_at (i := 10) (w' := w9.setCell ⟨g, 1, none⟩ (.slice A9 (cur.length + 1) c9)) (by kernel_rfl) rfl rfl (by rfl) (by go_simp) ⟨(D9.far Hgp.out _).cell 0, (D9.far Hgp.out _).cell 1, (D9.far Hgp.out _).lt⟩ ?_
            have hnb : (Value.slice A9 (cur.length + 1) c9).ownBlock ≠ some g := fun e => by
              rcases ho9.2 with ⟨h1, _⟩ | ⟨g', cap, cc, hv, _, hg, _⟩
              · rw [h1] at e; cases e
              · rw [hv] at e
                cases e
                have h3 := G9
                unfold Blk at h3
                rw [hg] at h3
                simp at h3
            have HB9 := Lib.hid (show Bag (w9.setCell ⟨g, 1, none⟩ (.slice A9 (cur.length + 1) c9)) g (cur ++ [⟨px, py⟩]) (fun k => F k ∨ w.heap.size ≤ k) (some m) (.slice A9 (cur.length + 1) c9) from
              ⟨G9.set_ 1 _, OwnR.ofBlk ho9 (fun k e => Below.heap_setCell w9 ⟨g, 1, none⟩ _ k (fun e2 => hnb (by rw [e, e2]))), (fun e => by cases e), (fun m' e => by
                  cases e
                  exact ⟨((Hs7.out.of (q7 m Hs7.out.lt Hrm.out))).past Hmg.out, HFm.out⟩), HFg.out, (fun k e => by
                  rcases hf9 with h | h
                  · exact HFv.out k (h.symm.trans e)
                  · rw [h] at e
                    cases e
                    have := hSX.size
                    exact .inr (by omega))⟩)
            have HK9 := Lib.hid (show Keep (fun k => F k ∨ w.heap.size ≤ k) w (w9.setCell ⟨g, 1, none⟩ (.slice A9 (cur.length + 1) c9)) from ((HK7.out.later hSX).grown hg9 (fun k e => HFv.out k e)).put HFg.out _ _)
            clear ho9 hg9 hf9 q7 D9 G9 c1 f1 z1 hnb
            refine wpAnyH_done (by kernel_rfl) ?_ _
            go_wp2_with fail
            go_roundw
            case rel => exact ⟨k + 1, _, by omega, by go_num, Hnx.out ▸ HB9.out, HK9.out⟩
            case measure => simp [intOf]; omega
          · simp only [Act.put, List.setIfInBounds_toArray, List.set_cons_zero, List.set_cons_succ]
            refine val_at (i := 4) (d := 37) (v := v) (w' := w7.drew.alloc (.cells #[.int .i64 px, .int .i64 py] 29)) (by kernel_rfl) rfl rfl (by rfl) (by go_simp) (hS _ (D7.later hA2)) ?_
            simp only [Act.put, List.setIfInBounds_toArray, List.set_cons_zero, List.set_cons_succ]
            clear g1 zg
            have hSX := hA2
            refine append_atf (i := 7) (d := 40) slt_spot pt2_len pt2_one (by kernel_rfl) rfl rfl rfl (.tmp 37) (.tmp 39) rfl (base := 0) (l := cur) rfl (hO7.out.later hA2) (ad := ⟨w7.heap.size, 0, none⟩) (c := 1) [⟨px, py⟩] rfl (SrcAt.blk (cs := #[.int .i64 px, .int .i64 py]) (Blk.new _ _ _)) (by simp; omega) (Nat.zero_le _) (fun A9 c9 w9 ho9 hg9 hf9 => ?_)
            have q7 : ∀ k, k < w7.heap.size → v.ownBlock ≠ some k → w9.heap[k]? = w7.heap[k]? := fun k hk hne => (hg9.block k (Nat.lt_of_lt_of_le hk hSX.size) (fun e => hne e.symm)).trans (hSX.block k hk)
            have D9 : Blk w9 gp 29 #[.int .i64 px, .int .i64 py] := (q7 gp D7.lt Hrp.out).trans D7
            have G9 : Blk w9 g 163 #[.map (some m), v] := (q7 g G7.lt Hrg.out).trans G7
            refine ⟨⟨D9.cell 0, D9.cell 1, D9.lt⟩, fun hHeld => ?_⟩
            simp only [Act.put, List.setIfInBounds_toArray, List.set_cons_zero, List.set_cons_succ]
            have hle : (cur ++ [(⟨px, py⟩ : Pt)]).length = cur.length + 1 := by simp
            rw [hle] at ho9 hf9 ⊢
            refine take_at (i := 8) (d := 41) (v := ?_) rfl rfl (by kernel_rfl) (by kernel_rfl) (by kernel_rfl) (fun _ _ _ h => h) (by rfl) ?_ (by assumption) ?_
            rotate_left
            · (intro w hSw; (try dsimp only at hSw); go_simp; (try with_reducible rfl))
            simp only [Act.put, List.setIfInBounds_toArray, List.set_cons_zero, List.set_cons_succ]
            refine take_at (i := 9) (d := 42) (v := ?_) rfl rfl (by kernel_rfl) (by kernel_rfl) (by kernel_rfl) (fun _ _ _ h => h) (by rfl) ?_ (by assumption) ?_
            rotate_left
            · (intro w hSw; (try dsimp only at hSw); go_simp; (try with_reducible rfl))
            simp only [Act.put, List.setIfInBounds_toArray, List.set_cons_zero, List.set_cons_succ]
            clear hHeld
            have c1 : w9.cell? ⟨g, 1, none⟩ = some v := G9.cell 1
            have f1 := G9.frozen 1
            have z1 := G9.lt
            refine sto_at (i := 10) (w' := w9.setCell ⟨g, 1, none⟩ (.slice A9 (cur.length + 1) c9)) (by kernel_rfl) rfl rfl (by rfl) (by go_simp) ⟨(D9.far Hgp.out _).cell 0, (D9.far Hgp.out _).cell 1, (D9.far Hgp.out _).lt⟩ ?_
            have hnb : (Value.slice A9 (cur.length + 1) c9).ownBlock ≠ some g := fun e => by
              rcases ho9.2 with ⟨h1, _⟩ | ⟨g', cap, cc, hv, _, hg, _⟩
              · rw [h1] at e; cases e
              · rw [hv] at e
                cases e
                have h3 := G9
                unfold Blk at h3
                rw [hg] at h3
                simp at h3
            have HB9 := Lib.hid (show Bag (w9.setCell ⟨g, 1, none⟩ (.slice A9 (cur.length + 1) c9)) g (cur ++ [⟨px, py⟩]) (fun k => F k ∨ w.heap.size ≤ k) (some m) (.slice A9 (cur.length + 1) c9) from
              ⟨G9.set_ 1 _, OwnR.ofBlk ho9 (fun k e => Below.heap_setCell w9 ⟨g, 1, none⟩ _ k (fun e2 => hnb (by rw [e, e2]))), (fun e => by cases e), (fun m' e => by
                  cases e
                  exact ⟨((Hs7.out.of (q7 m Hs7.out.lt Hrm.out))).past Hmg.out, HFm.out⟩), HFg.out, (fun k e => by
                  rcases hf9 with h | h
                  · exact HFv.out k (h.symm.trans e)
                  · rw [h] at e
                    cases e
                    have := hSX.size
                    exact .inr (by omega))⟩)
            have HK9 := Lib.hid (show Keep (fun k => F k ∨ w.heap.size ≤ k) w (w9.setCell ⟨g, 1, none⟩ (.slice A9 (cur.length + 1) c9)) from ((HK7.out.later hSX).grown hg9 (fun k e => HFv.out k e)).put HFg.out _ _)
            clear ho9 hg9 hf9 q7 D9 G9 c1 f1 z1 hnb
            refine wpAnyH_done (by kernel_rfl) ?_ _
            go_wp2_with fail
            go_roundw
            case rel => exact ⟨k + 1, _, by omega, by go_num, Hnx.out ▸ HB9.out, HK9.out⟩
            case measure => simp [intOf]; omega
      · have hke : xs.take k = xs := List.take_of_length_le (by omega)
        rw [hke] at hB
        have HBe := Lib.hid hB
        have HKe := Lib.hid hK
        clear hB hK
        go_wp2
        (try simp only [Exit.inBlock, Exit.then])
        refine bodyPost_ret (results_none rfl _ _ _) rfl ?_
        exact ⟨rfl, some m, v, HBe.out, HKe.out.back⟩
end Go.Proofs.YtdhakoecjmaebaaGreat
