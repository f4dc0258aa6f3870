/-
  The walk of spread.Spread.
-/
import Derived.Test.YtdhakoecjmaebaaSprG
import Derived.Test.YtdhakoecjmaebaaSprR
namespace Go.Proofs.Ytdhakoecjmaebaa
open Go.RowKit
set_option linter.unusedSimpArgs false
set_option linter.unusedVariables false

theorem OwnR.low {α : Type} {cells : α → List Value} {sz : Nat} {w : World} {base base' : Nat} {E : TypeId} {v : Value} {l : List α} (h : OwnR w base E sz cells v l) (hb : base' ≤ base) : OwnR w base' E sz cells v l := by
  refine ⟨h.1, ?_⟩
  rcases h.2 with ⟨h1, h2⟩ | ⟨g, cap, cur, hv, hbg, r⟩
  · exact .inl ⟨h1, h2⟩
  · exact .inr ⟨g, cap, cur, hv, by omega, r⟩
theorem OwnR.past {α : Type} {cells : α → List Value} {sz b o : Nat} {w : World} {base : Nat} {E : TypeId} {v u : Value} {l : List α} (h : OwnR w base E sz cells v l) (hb : b < base) : OwnR (w.setCell ⟨b, o, none⟩ u) base E sz cells v l :=
  h.ofBlock fun g hg => Below.heap_setCell w ⟨b, o, none⟩ u g (by have := (World.ownsRow.lt h g hg).1; simp only [ne_eq]; omega)
theorem Blk.past {w : World} {g b o : Nat} {t : TypeId} {cs : Array Value} {u : Value} (h : Blk w g t cs) (hb : g ≠ b) : Blk (w.setCell ⟨b, o, none⟩ u) g t cs := (Below.heap_setCell w ⟨b, o, none⟩ u g hb).trans h
/-- A remnant's numbers. -/
def RemB (r : Qd) : Prop := 0 ≤ r.a ∧ r.a ≤ 20 ∧ 0 ≤ r.c ∧ r.c ≤ r.d ∧ r.d ≤ 1048576
theorem remR_bd {rs : List Rl} {lots : List Int} {lot wd : Int} (h20 : rs.length ≤ 20) (hln : ∀ r ∈ rs, 0 ≤ r.ln ∧ r.ln ≤ 1048576) : (remR rs lots lot wd).length ≤ 20 ∧ ∀ r ∈ remR rs lots lot wd, RemB r := by
  have hlen : ∀ (rs : List Rl) (ts : List Int) (i : Nat), (remGo lot wd rs ts i).length ≤ rs.length := by
    intro rs
    induction rs with
    | nil => intro ts i; simp [remGo]
    | cons r rs ih =>
      intro ts i
      cases ts with
      | nil => simp [remGo]
      | cons t ts =>
        rw [remGo]
        have := ih ts (i + 1)
        split <;> simp <;> omega
  refine ⟨Nat.le_trans (hlen rs lots 0) h20, fun r hr => ?_⟩
  obtain ⟨j, r', t', k1, k2, k3, k4, rfl⟩ := remGo_mem hr
  have hj := (List.getElem?_eq_some_iff.1 k1).1
  have := hln r' (List.mem_of_getElem? k1)
  unfold RemB
  simp only []
  omega
theorem lay_bd {len : Int} {polys : List (List Pt)} (hlen : 1 ≤ len ∧ len ≤ 1048576) : ∀ {l : List Qd} {at_ : Int} {x : List Qd × List Qd}, (∀ r ∈ l, RemB r) → 0 ≤ at_ → at_ < len → layR len polys l at_ = some x →
    x.1.length ≤ l.length ∧ x.2.length ≤ l.length ∧ (∀ r ∈ x.2, RemB r) ∧ ∀ q ∈ x.1, QdI q := by
  intro l
  induction l with
  | nil => intro at_ x _ _ _ h; cases h
  | cons r l ih =>
    intro at_ x hr h0 h1 h
    have hr0 := hr r (List.mem_cons_self ..)
    unfold RemB at hr0
    rw [layR] at h
    split at h
    · rename_i hs
      cases h
      refine ⟨by simp, by simp, fun s hs' => ?_, fun q hq => ?_⟩
      · rcases List.mem_cons.1 hs' with rfl | hs'
        · unfold RemB; simp only []; omega
        · exact hr s (List.mem_cons_of_mem _ hs')
      · rw [List.mem_singleton.1 hq]
        unfold QdI I64
        simp only []
        omega
    · split at h
      · rename_i hc
        obtain ⟨z1, z2, z3, z4, z5, z6, z7⟩ := best_zero hc.2
        have hle := back_le (extentsR len polys).1 (BestR len polys at_ (at_ + (r.d - r.c))).1.y
        rw [Option.map_eq_some_iff] at h
        obtain ⟨y, hy, rfl⟩ := h
        obtain ⟨k1, k2, k3, k4⟩ := ih (fun s hs' => hr s (List.mem_cons_of_mem _ hs')) (by omega) (by omega) hy
        refine ⟨by simp; omega, by simp; omega, k3, fun q hq => ?_⟩
        rcases List.mem_cons.1 hq with rfl | hq
        · unfold QdI I64
          simp only []
          omega
        · exact k4 q hq
      · obtain ⟨k1, k2, k3, k4⟩ := ih (fun s hs' => hr s (List.mem_cons_of_mem _ hs')) h0 h1 h
        exact ⟨by simp; omega, by simp; omega, k3, k4⟩

section
variable (len wd : Int) (polys : List (List Pt)) (rs : List Rl) (lots plies : List Int)
/-- The lay from the middle of lot j on: m plies of it are still to be laid of what is left, and pre are laid. -/
def midG (j m : Nat) (left : List Qd) (pre : List Pl) : Option (List Pl) :=
  ((pliesN len polys j m left).bind fun x => (lotsGo len wd polys rs lots (plies.drop (j + 1)) (j + 1)).map fun r => x ++ r).map fun r => pre ++ r
def lotG (j : Nat) (pre : List Pl) : Option (List Pl) := (lotsGo len wd polys rs lots (plies.drop j) j).map fun r => pre ++ r
end
section
variable {len wd : Int} {polys : List (List Pt)} {rs : List Rl} {lots plies : List Int} {j m : Nat} {left : List Qd} {pre : List Pl}
theorem lotG_step (h : j < plies.length) : lotG len wd polys rs lots plies j pre = midG len wd polys rs lots plies j plies[j].toNat (remR rs lots j wd) pre := by
  unfold lotG midG
  rw [List.drop_eq_getElem_cons h, lotsGo]
theorem lotG_skip (h : j < plies.length) (h0 : plies[j] = 0) : lotG len wd polys rs lots plies j pre = lotG len wd polys rs lots plies (j + 1) pre := by
  rw [lotG_step h, h0]
  unfold midG lotG
  show ((some ([] : List Pl)).bind fun x => (lotsGo len wd polys rs lots (plies.drop (j + 1)) (j + 1)).map fun r => x ++ r).map _ = _
  rw [Option.bind_some]
  cases lotsGo len wd polys rs lots (plies.drop (j + 1)) (j + 1) <;> rfl
theorem midG_end : midG len wd polys rs lots plies j 0 left pre = lotG len wd polys rs lots plies (j + 1) pre := by
  unfold midG lotG
  show ((some ([] : List Pl)).bind fun x => (lotsGo len wd polys rs lots (plies.drop (j + 1)) (j + 1)).map fun r => x ++ r).map _ = _
  rw [Option.bind_some]
  cases lotsGo len wd polys rs lots (plies.drop (j + 1)) (j + 1) <;> rfl
theorem midG_none (h : layR len polys left 0 = none) : midG len wd polys rs lots plies j (m + 1) left pre = none := by
  unfold midG
  rw [pliesN, h]
  rfl
theorem midG_some {x : List Qd × List Qd} (h : layR len polys left 0 = some x) : midG len wd polys rs lots plies j (m + 1) left pre = midG len wd polys rs lots plies j m x.2 (pre ++ [((j : Int), x.1)]) := by
  unfold midG
  rw [pliesN, h, Option.bind_some]
  cases pliesN len polys j m x.2 with
  | none => rfl
  | some y =>
    show (((lotsGo len wd polys rs lots (plies.drop (j + 1)) (j + 1)).map fun r => (((j : Int), x.1) :: y) ++ r)).map _ = ((lotsGo len wd polys rs lots (plies.drop (j + 1)) (j + 1)).map fun r => y ++ r).map _
    cases lotsGo len wd polys rs lots (plies.drop (j + 1)) (j + 1) with
    | none => rfl
    | some z => simp
theorem lotG_last (h : plies.length ≤ j) : lotG len wd polys rs lots plies j pre = some pre := by
  unfold lotG
  rw [List.drop_eq_nil_of_le h]
  simp [lotsGo]
theorem lotG_all : lotG len wd polys rs lots plies 0 [] = lotsGo len wd polys rs lots plies 0 := by
  unfold lotG
  rw [List.drop_zero]
  cases lotsGo len wd polys rs lots plies 0 <;> simp
theorem sp_cloth (h : chkClothR len wd polys rs lots.length ≠ 0) : spreadR len wd polys rs lots plies = ([], [], chkClothR len wd polys rs lots.length) := by unfold spreadR; rw [if_pos h]
theorem sp_plies (h : chkClothR len wd polys rs lots.length = 0) (h1 : chkPliesR lots plies ≠ 0) : spreadR len wd polys rs lots plies = ([], [], chkPliesR lots plies) := by unfold spreadR; rw [if_neg (by simpa using h), if_pos h1]
theorem sp_none (h : chkClothR len wd polys rs lots.length = 0) (h1 : chkPliesR lots plies = 0) (h2 : lotsGo len wd polys rs lots plies 0 = none) : spreadR len wd polys rs lots plies = ([], [], 17) := by unfold spreadR; rw [if_neg (by simpa using h), if_neg (by simpa using h1), h2]
theorem sp_some {ys : List Pl} (h : chkClothR len wd polys rs lots.length = 0) (h1 : chkPliesR lots plies = 0) (h2 : lotsGo len wd polys rs lots plies 0 = some ys) : spreadR len wd polys rs lots plies = if (restsR rs lots ys).2 ≠ 0 then ([], [], (restsR rs lots ys).2) else (ys, (restsR rs lots ys).1, 0) := by unfold spreadR; rw [if_neg (by simpa using h), if_neg (by simpa using h1), h2]
end

/-- What Spread returns. -/
def SpreadPost (len wd rx ry : Int) (sizes : List Int) (places : List Pc) (R : List Pl × List Qd × Int) (w : World) (e : Ending) (w' : World) : Prop :=
  (R.2.2 = 0 ∧ ∃ S1 c1 S2 c2 P pc X xc ys, e = .returned (.tuple #[.agg #[.int .i64 len, .int .i64 wd, .int .i64 rx, .int .i64 ry, .slice S1 sizes.length c1, .slice S2 places.length c2, .slice P ys.length pc], .slice X R.2.1.length xc, .int .i64 0]) ∧
    ys.map Py.pl = R.1 ∧ sizes.length ≤ c1 ∧ c1 ≤ maxLen ∧ places.length ≤ c2 ∧ c2 ≤ maxLen ∧ ys.length ≤ pc ∧ pc ≤ maxLen ∧ R.2.1.length ≤ xc ∧ xc ≤ maxLen ∧
    (∀ W2 : World, (∀ b, w.heap.size ≤ b → b < w'.heap.size → W2.heap[b]? = w'.heap[b]?) → Ints W2 S1 sizes ∧ Pcs W2 S2 places ∧ Plys W2 P ys ∧ Qds W2 X R.2.1) ∧ Later w w') ∨
  (R.2.2 ≠ 0 ∧ e = .returned (.tuple #[.agg #[.int .i64 0, .int .i64 0, .int .i64 0, .int .i64 0, .slice none 0 0, .slice none 0 0, .slice none 0 0], .slice none 0 0, .int .i64 R.2.2]) ∧ Later w w')
theorem spread_err {len wd rx ry : Int} {sizes : List Int} {places : List Pc} {R : List Pl × List Qd × Int} {x : Int} {w w' : World} (h : R = ([], [], x)) (hx : x ≠ 0) (hl : Later w w') : SpreadPost len wd rx ry sizes places R w (.returned (.tuple #[.agg #[.int .i64 0, .int .i64 0, .int .i64 0, .int .i64 0, .slice none 0 0, .slice none 0 0, .slice none 0 0], .slice none 0 0, .int .i64 x])) w' := by
  subst h
  exact .inr ⟨hx, rfl, hl⟩
@[go_sem] theorem build_lay0 (w : World) : (Instr.build 39 #[]).run Try.prog w = .ok (.agg #[.int .i64 0, .int .i64 0, .int .i64 0, .int .i64 0, .slice none 0 0, .slice none 0 0, .slice none 0 0]) w := run_build w 39 _ _ (by kernel_rfl)
@[go_sem] theorem build_layM (a b c d : Int) (A : Option Addr) (n k : Nat) (B : Option Addr) (m l : Nat) (w : World) : (Instr.build 39 #[(0, .agg #[.int .i64 a, .int .i64 b, .int .i64 c, .int .i64 d, .slice A n k, .slice B m l])]).run Try.prog w = .ok (.agg #[.int .i64 a, .int .i64 b, .int .i64 c, .int .i64 d, .slice A n k, .slice B m l, .slice none 0 0]) w := run_build w 39 _ _ (by kernel_rfl)
@[go_sem] theorem build_ply2 (t : Int) (A : Option Addr) (n c : Nat) (w : World) : (Instr.build 51 #[(0, .int .i64 t), (1, .slice A n c)]).run Try.prog w = .ok (.agg #[.int .i64 t, .slice A n c]) w := run_build w 51 _ _ (by kernel_rfl)

set_option maxHeartbeats 2000000 in
set_option maxRecDepth 100000 in
theorem spread_layPly_nil (Q A : Option Addr) (qc c n : Nat) (len : Int) (w : World) :
    Calls Try.prog 19 #[.int .i64 len, .slice Q n qc, .slice A 0 c] w (Ret (.tuple #[.slice none 0 0, .slice none 0 0, .bool false]) w) := by
  go_enter Try.func19, Try.ntmps19
  go_wp2
  go_loopw [2, 9, 10] (fun v2 v9 v10 wr => v2 = .slice A 0 c ∧ wr = w) (fun _ _ _ _ => 0)
  case atStart => exact ⟨rfl, rfl⟩
  case round =>
    obtain ⟨rfl, rfl⟩ := hrel
    go_wp2
    refine bodyPost_ret (v := .tuple #[.slice none 0 0, .slice none 0 0, .bool false]) (by simp [results, Try.results19, go_sem]) rfl ⟨rfl, Later.refl _⟩

theorem slt_ply : SlT Try.prog 37 51 2 := SlT.mk (z := .agg #[.int .i64 0, .slice none 0 0]) (by_ := 32) Try.underlying37 (by kernel_rfl) (by omega) rfl (by omega)
theorem py_len (y : Py) : (Py.cells y).length = 2 := rfl
theorem py_one (y : Py) : ∀ u ∈ Py.cells y, u.oneCell' = true := by
  intro u hu
  simp only [Py.cells, List.mem_cons, List.not_mem_nil, or_false] at hu
  rcases hu with rfl | rfl <;> rfl

/-- The memory of Spread while plies are laid. -/
structure SpM (w : World) (g5 g10 g15 : Nat) (mk : Array Value) (ly : Value → Array Value) (v1 v2 : Value) (sizes : List Int) (places : List Pc) (wr : World) (v : Value) (acc : List Py) : Prop where
  km : Blk wr g5 27 mk
  zr : Blk wr g10 39 #[.int .i64 0, .int .i64 0, .int .i64 0, .int .i64 0, .slice none 0 0, .slice none 0 0, .slice none 0 0]
  ly : Blk wr g15 39 (ly v)
  s1 : OwnR wr g5 3 1 i1 v1 sizes
  s2 : OwnR wr g5 70 7 Pc.cells v2 places
  pl : OwnR wr g5 51 2 Py.cells v acc
  pt : ∀ y ∈ acc, OwnR wr g5 58 4 qd4 (.slice y.pa y.parts.length y.pc) y.parts ∧ (∀ q ∈ y.parts, QdI q) ∧ y.parts.length ≤ 20
  lt : Later w wr
section
variable {w : World} {g5 g10 g15 : Nat} {mk : Array Value} {ly : Value → Array Value} {v1 v2 : Value} {sizes : List Int} {places : List Pc} {wr w' : World} {v : Value} {acc : List Py}
theorem SpM.later (h : SpM w g5 g10 g15 mk ly v1 v2 sizes places wr v acc) (k : Later wr w') : SpM w g5 g10 g15 mk ly v1 v2 sizes places w' v acc :=
  ⟨h.km.later k, h.zr.later k, h.ly.later k, h.s1.later k, h.s2.later k, h.pl.later k, fun y hy => ⟨(h.pt y hy).1.later k, (h.pt y hy).2⟩, h.lt.trans k⟩
theorem own_grown {α : Type} {cells : α → List Value} {sz g : Nat} {base : Nat} {E t : TypeId} {u : Value} {l : List α} {cs : Array Value} (h : OwnR wr base E sz cells u l) (hB : Blk wr g t cs) (hE : E ≠ t) (hg : wr.grownBy w' (some g)) : OwnR w' base E sz cells u l :=
  h.ofBlock fun b hb => hg.block b (World.ownsRow.lt h b hb).2 (fun e => by
    injection e with e
    subst e
    obtain ⟨cs', h'⟩ := own_cells h hb
    exact hE (blk_type h' hB))
theorem blk_grown {g b : Nat} {E t : TypeId} {cs cs' : Array Value} (h : Blk wr b E cs') (hB : Blk wr g t cs) (hE : E ≠ t) (hg : wr.grownBy w' (some g)) : Blk w' b E cs' :=
  Blk.grown h hg (fun e => by
    injection e with e
    subst e
    exact hE (blk_type h hB))
theorem SpM.grown (h : SpM w g5 g10 g15 mk ly v1 v2 sizes places wr v acc) {g : Nat} {cs : Array Value} (hB : Blk wr g 89 cs) (hw : w.heap.size ≤ g) (hg : wr.grownBy w' (some g)) : SpM w g5 g10 g15 mk ly v1 v2 sizes places w' v acc :=
  ⟨blk_grown h.km hB (by decide) hg, blk_grown h.zr hB (by decide) hg, blk_grown h.ly hB (by decide) hg, own_grown h.s1 hB (by decide) hg, own_grown h.s2 hB (by decide) hg, own_grown h.pl hB (by decide) hg,
    fun y hy => ⟨own_grown (h.pt y hy).1 hB (by decide) hg, (h.pt y hy).2⟩, Later.grown h.lt hg (fun k e => by injection e with e; omega)⟩
theorem blk_own {β : Type} {cells' : β → List Value} {sz' b base' : Nat} {E E' : TypeId} {u : Value} {l' : List β} {cs : Array Value} (h : Blk wr b E cs) (h' : OwnR wr base' E' sz' cells' u l') (hE : E ≠ E') (hg : wr.grownBy w' u.ownBlock) : Blk w' b E cs :=
  Blk.grown h hg (fun e => by
    obtain ⟨cs', h2⟩ := own_cells h' e.symm
    exact hE (blk_type h h2))
/-- One more ply is laid into the row of plies. -/
theorem SpM.push (h : SpM w g5 g10 g15 mk ly v1 v2 sizes places wr v acc) {y : Py} {v' : Value} (hw : w.heap.size ≤ g5) (hne : g10 ≠ g15) (h5 : g15 ≠ g5) (hw15 : w.heap.size ≤ g15) (hset : (ly v).setIfInBounds 6 v' = ly v')
    (hy : OwnR wr g5 58 4 qd4 (.slice y.pa y.parts.length y.pc) y.parts ∧ (∀ q ∈ y.parts, QdI q) ∧ y.parts.length ≤ 20) (hg : wr.grownBy w' v.ownBlock) (ho : OwnR w' g5 51 2 Py.cells v' (acc ++ [y])) :
    SpM w g5 g10 g15 mk ly v1 v2 sizes places (w'.setCell ⟨g15, 6, none⟩ v') v' (acc ++ [y]) := by
  have hp := h.pl
  have k5 := blk_own h.km hp (by decide) hg
  have k15 := blk_own h.ly hp (by decide) hg
  have kk : ∀ {α : Type} {cells : α → List Value} {sz : Nat} {E : TypeId} {u : Value} {l : List α}, OwnR w' g5 E sz cells u l → E ≠ 39 → OwnR (w'.setCell ⟨g15, 6, none⟩ v') g5 E sz cells u l := fun {α cells sz E u l} hu hE =>
    hu.ofBlock fun b hb => Below.heap_setCell w' ⟨g15, 6, none⟩ v' b (fun e => by
      obtain ⟨cs', h'⟩ := own_cells hu hb
      have e' : b = g15 := e
      subst e'
      exact hE (blk_type h' k15))
  refine ⟨k5.past h5.symm, (blk_own h.zr hp (by decide) hg).past hne, ?_, kk (own_keep h.s1 hp (by decide) hg) (by decide), kk (own_keep h.s2 hp (by decide) hg) (by decide), kk ho (by decide), fun z hz => ?_, ?_⟩
  · have := k15.set_ 6 v'
    rw [hset] at this
    exact this
  · rcases List.mem_append.1 hz with hz | hz
    · exact ⟨kk (own_keep (h.pt z hz).1 hp (by decide) hg) (by decide), (h.pt z hz).2⟩
    · rw [List.mem_singleton.1 hz]
      exact ⟨kk (own_keep hy.1 hp (by decide) hg) (by decide), hy.2⟩
  · exact (Later.grown h.lt hg (fun k e => by have := (World.ownsRow.lt hp k e).1; omega)).put hw15 _
/-- The plies of the row, as a list. -/
theorem SpM.plys (h : SpM w g5 g10 g15 mk ly v1 v2 sizes places wr v acc) : ∃ P pc, v = .slice P acc.length pc ∧ acc.length ≤ pc ∧ pc ≤ maxLen ∧ Plys wr P acc := by
  obtain ⟨P, pc, e, k1, k2, _⟩ := h.pl.form py_len
  subst e
  have hh := OwnR.list (w := wr) (ok := PyOk) py_len h.pl (fun y hy => by
    obtain ⟨k1, k2, _⟩ := h.pt y hy
    obtain ⟨A, c, e, p1, p2, p3⟩ := k1.qds
    have e1 : y.pa = A := by injection e
    have e2 : y.pc = c := by injection e
    subst e1 e2
    exact ⟨p1, p2, p3, k2⟩)
  exact ⟨P, pc, rfl, hh.2.1, hh.2.2.1, hh.2.2.2⟩
end
/-- What is left for a lot: nothing, or a row of remnants of its own. -/
def LeftOk (w wr : World) (A : Option Addr) (c : Nat) (l : List Qd) : Prop := l.length ≤ c ∧ (l = [] ∨ ∃ g, w.heap.size ≤ g ∧ LeftAt wr g A l ∧ ∃ cs, Blk wr g 89 cs)
/-- Whatever is not the result's own block stands. -/
theorem SpM.fin {w : World} {g5 g10 g15 : Nat} {mk : Array Value} {ly : Value → Array Value} {A1 A2 : Option Addr} {d1 d2 : Nat} {sizes : List Int} {places : List Pc} {wr w' : World} {v : Value} {acc : List Py} (h : SpM w g5 g10 g15 mk ly (.slice A1 sizes.length d1) (.slice A2 places.length d2) sizes places wr v acc)
    (hb : ∀ b, w.heap.size ≤ b → b < wr.heap.size → b ≠ g10 → w'.heap[b]? = wr.heap[b]?) (h5 : w.heap.size ≤ g5) :
    (sizes.length ≤ d1 ∧ d1 ≤ maxLen ∧ Ints w' A1 sizes) ∧ (places.length ≤ d2 ∧ d2 ≤ maxLen ∧ Pcs w' A2 places) ∧ (∃ P pc, v = .slice P acc.length pc ∧ acc.length ≤ pc ∧ pc ≤ maxLen ∧ Plys w' P acc) := by
  have kk : ∀ {α : Type} {cells : α → List Value} {sz : Nat} {E : TypeId} {u : Value} {l : List α}, OwnR wr g5 E sz cells u l → E ≠ 39 → OwnR w' g5 E sz cells u l := fun {α cells sz E u l} hu hE =>
    hu.ofBlock fun b hbu => hb b (by have := (World.ownsRow.lt hu b hbu).1; omega) (World.ownsRow.lt hu b hbu).2 (fun e => by
      obtain ⟨cs', h'⟩ := own_cells hu hbu
      subst e
      exact hE (blk_type h' h.zr))
  refine ⟨?_, ?_, ?_⟩
  · obtain ⟨A, c, e, p1, p2, p3⟩ := (kk h.s1 (by decide)).ints
    injection e with e1 e2 e3
    subst e1 e3
    exact ⟨p1, p2, p3⟩
  · obtain ⟨A, c, e, p1, p2, p3⟩ := (kk h.s2 (by decide)).pcs
    injection e with e1 e2 e3
    subst e1 e3
    exact ⟨p1, p2, p3⟩
  · have hpl := kk h.pl (by decide)
    obtain ⟨P, pc, e, k1, k2, _⟩ := hpl.form py_len
    subst e
    have hh := OwnR.list (w := w') (ok := PyOk) py_len hpl (fun y hy => by
      obtain ⟨k1, k2, _⟩ := h.pt y hy
      obtain ⟨A, c, e, p1, p2, p3⟩ := (kk k1 (by decide)).qds
      have e1 : y.pa = A := by injection e
      have e2 : y.pc = c := by injection e
      subst e1 e2
      exact ⟨p1, p2, p3, k2⟩)
    exact ⟨P, pc, rfl, hh.2.1, hh.2.2.1, hh.2.2.2⟩
theorem left_keep {w w' : World} {g : Nat} {A : Option Addr} {l : List Qd} (h : LeftAt w g A l) (he : w'.heap[g]? = w.heap[g]?) : LeftAt w' g A l := fun hn => let ⟨o, e, hx⟩ := h hn; ⟨o, e, hx.block he⟩
theorem put7 {w W : World} {g : Nat} {a b c d e f k : Value} (h : Later w W) (hg : w.heap.size ≤ g) : Later w (((((((W.setCell ⟨g, 0, none⟩ a).setCell ⟨g, 1, none⟩ b).setCell ⟨g, 2, none⟩ c).setCell ⟨g, 3, none⟩ d).setCell ⟨g, 4, none⟩ e).setCell ⟨g, 5, none⟩ f).setCell ⟨g, 6, none⟩ k) :=
  ((((((h.put hg _).put hg _).put hg _).put hg _).put hg _).put hg _).put hg _

def puts7 (W : World) (g : Nat) (a b c d e f k : Value) : World := (((((((W.setCell ⟨g, 0, none⟩ a).setCell ⟨g, 1, none⟩ b).setCell ⟨g, 2, none⟩ c).setCell ⟨g, 3, none⟩ d).setCell ⟨g, 4, none⟩ e).setCell ⟨g, 5, none⟩ f).setCell ⟨g, 6, none⟩ k)
theorem puts7_block {W : World} {g b : Nat} {v0 v1 v2 v3 v4 v5 v6 : Value} (h : b ≠ g) : (puts7 W g v0 v1 v2 v3 v4 v5 v6).heap[b]? = W.heap[b]? := by
  unfold puts7
  rw [Below.heap_setCell _ ⟨g, 6, none⟩ _ b h, Below.heap_setCell _ ⟨g, 5, none⟩ _ b h, Below.heap_setCell _ ⟨g, 4, none⟩ _ b h, Below.heap_setCell _ ⟨g, 3, none⟩ _ b h, Below.heap_setCell _ ⟨g, 2, none⟩ _ b h, Below.heap_setCell _ ⟨g, 1, none⟩ _ b h, Below.heap_setCell _ ⟨g, 0, none⟩ _ b h]
theorem puts7_size {W : World} {g : Nat} {v0 v1 v2 v3 v4 v5 v6 : Value} : (puts7 W g v0 v1 v2 v3 v4 v5 v6).heap.size = W.heap.size := by
  unfold puts7
  simp only [World.size_setCell]

theorem puts7_rest {W : World} {g : Nat} {v0 v1 v2 v3 v4 v5 v6 : Value} : (puts7 W g v0 v1 v2 v3 v4 v5 v6).os = W.os ∧ (puts7 W g v0 v1 v2 v3 v4 v5 v6).tape = W.tape ∧ (puts7 W g v0 v1 v2 v3 v4 v5 v6).output = W.output := by
  have h : ∀ (W : World) (a : Addr) (v : Value), (W.setCell a v).os = W.os ∧ (W.setCell a v).tape = W.tape ∧ (W.setCell a v).output = W.output := fun W a v => ⟨rfl, rfl, rfl⟩
  unfold puts7
  refine ⟨?_, ?_, ?_⟩
  · rw [(h _ _ _).1, (h _ _ _).1, (h _ _ _).1, (h _ _ _).1, (h _ _ _).1, (h _ _ _).1, (h _ _ _).1]
  · rw [(h _ _ _).2.1, (h _ _ _).2.1, (h _ _ _).2.1, (h _ _ _).2.1, (h _ _ _).2.1, (h _ _ _).2.1, (h _ _ _).2.1]
  · rw [(h _ _ _).2.2, (h _ _ _).2.2, (h _ _ _).2.2, (h _ _ _).2.2, (h _ _ _).2.2, (h _ _ _).2.2, (h _ _ _).2.2]
theorem spread_done {len wd rx ry : Int} {R : List Pl × List Qd × Int} {rq : List Qd} {Pv X : Option Addr} {pv x b0 : Nat} {w W : World} {g5 g10 g15 : Nat} {mk : Array Value} {ly : Value → Array Value} {A1 A2 : Option Addr} {d1 d2 : Nat} {sizes : List Int} {places : List Pc} {acc : List Py} {v0 v1 v2 v3 v4 v5 v6 : Value}
    (hR : R = (acc.map Py.pl, rq, 0)) (hM : SpM w g5 g10 g15 mk ly (.slice A1 sizes.length d1) (.slice A2 places.length d2) sizes places W (.slice Pv acc.length pv) acc) (hw : w.heap.size ≤ g10)
    (ho : OwnR W b0 61 4 qd4 (.slice X rq.length x) rq) (hb : g10 < b0) (h5 : w.heap.size ≤ g5) :
    SpreadPost len wd rx ry sizes places R w (.returned (.tuple #[.agg #[.int .i64 len, .int .i64 wd, .int .i64 rx, .int .i64 ry, .slice A1 sizes.length d1, .slice A2 places.length d2, .slice Pv acc.length pv], .slice X rq.length x, .int .i64 0])) (puts7 W g10 v0 v1 v2 v3 v4 v5 v6) := by
  subst hR
  have hl : Later w (puts7 W g10 v0 v1 v2 v3 v4 v5 v6) := ⟨puts7_rest.1.trans hM.lt.os, puts7_rest.2.1.trans hM.lt.tape, puts7_rest.2.2.trans hM.lt.output, by rw [puts7_size]; exact hM.lt.size, fun b hlt => (puts7_block (by omega)).trans (hM.lt.block b hlt)⟩
  have key : ∀ W2 : World, (∀ b, w.heap.size ≤ b → b < (puts7 W g10 v0 v1 v2 v3 v4 v5 v6).heap.size → W2.heap[b]? = (puts7 W g10 v0 v1 v2 v3 v4 v5 v6).heap[b]?) → ((sizes.length ≤ d1 ∧ d1 ≤ maxLen ∧ places.length ≤ d2 ∧ d2 ≤ maxLen) ∧ (acc.length ≤ pv ∧ pv ≤ maxLen ∧ rq.length ≤ x ∧ x ≤ maxLen)) ∧ Ints W2 A1 sizes ∧ Pcs W2 A2 places ∧ Plys W2 Pv acc ∧ Qds W2 X rq := by
    intro W2 h2
    obtain ⟨⟨p1, p2, p3⟩, ⟨p4, p5, p6⟩, ⟨P9, pc9, e9, p7, p8, p9⟩⟩ := hM.fin (w' := W2) (fun b hb1 hb0 hb => (h2 b hb1 (by rw [puts7_size]; exact hb0)).trans (puts7_block hb)) h5
    injection e9 with e9 _ e10
    subst e9 e10
    have ho7 : OwnR W2 b0 61 4 qd4 (.slice X rq.length x) rq := ho.ofBlock fun b hb => by
      have := (World.ownsRow.lt ho b hb).1
      exact (h2 b (by omega) (by rw [puts7_size]; exact (World.ownsRow.lt ho b hb).2)).trans (puts7_block (by omega))
    obtain ⟨X7, x7, e7, s1, s2, s3⟩ := ho7.qds
    injection e7 with e7 _ e8
    subst e7 e8
    exact ⟨⟨⟨p1, p2, p4, p5⟩, ⟨p7, p8, s1, s2⟩⟩, p3, p6, p9, s3⟩
  obtain ⟨⟨⟨p1, p2, p4, p5⟩, ⟨p7, p8, s1, s2⟩⟩, _⟩ := key _ (fun b _ _ => rfl)
  exact .inl ⟨rfl, A1, d1, A2, d2, Pv, pv, X, x, acc, rfl, rfl, p1, p2, p4, p5, p7, p8, s1, s2, fun W2 h2 => (key W2 h2).2, hl⟩

set_option maxHeartbeats 8000000 in
set_option maxRecDepth 100000 in
theorem spread_Spread (Q C L S1 S2 A : Option Addr) (qc cc lc c1 c2 ac : Nat) (len wd rx ry : Int) (sizes : List Int) (places : List Pc) (polys : List (List Pt)) (rs : List Rl) (lots plies : List Int) (w : World)
    (h1 : S1 = none → sizes = []) (h1' : Ints w S1 sizes) (h1l : sizes.length ≤ 60000) (h2 : S2 = none → places = []) (h2' : Pcs w S2 places) (h2l : places.length ≤ 60000)
    (hps : Polys w Q polys) (hpl : ∀ p ∈ polys, p.length ≤ 1099511627776) (hr : Rolls w C rs) (hrl : rs.length ≤ 1099511627776) (hL : Ints w L lots) (hll : lots.length ≤ 65536) (hA : Ints w A plies) (hal : plies.length ≤ 65536) :
    Calls Try.prog 8 #[.agg #[.int .i64 len, .int .i64 wd, .int .i64 rx, .int .i64 ry, .slice S1 sizes.length c1, .slice S2 places.length c2], .slice Q polys.length qc, .slice C rs.length cc, .slice L lots.length lc, .slice A plies.length ac] w
      (SpreadPost len wd rx ry sizes places (spreadR len wd polys rs lots plies) w) := by
  have HK := Lib.hid (fun W (hW : Later w W) => spread_checkCloth Q C L S1 S2 qc cc lc lots.length sizes.length c1 places.length c2 len wd rx ry polys rs W (hps.later hW) hpl (hr.later hW) hrl (by omega))
  have HP := Lib.hid (fun W (hW : Later w W) => spread_checkPlies L A lc ac lots plies W (hL.later hW) (hA.later hW) hll hal)
  have Hs1 := Lib.hid (sp_cloth (len := len) (wd := wd) (polys := polys) (rs := rs) (lots := lots) (plies := plies))
  have Hs2 := Lib.hid (sp_plies (len := len) (wd := wd) (polys := polys) (rs := rs) (lots := lots) (plies := plies))
  have Hs3 := Lib.hid (sp_none (len := len) (wd := wd) (polys := polys) (rs := rs) (lots := lots) (plies := plies))
  have Hs4 := Lib.hid (fun ys => sp_some (len := len) (wd := wd) (polys := polys) (rs := rs) (lots := lots) (plies := plies) (ys := ys))
  have Hcz := Lib.hid (cloth_zero (len := len) (wd := wd) (polys := polys) (rs := rs) (nl := lots.length))
  have Hpz := Lib.hid (chkPlies_lots (lots := lots) (plies := plies))
  generalize spreadR len wd polys rs lots plies = R at *
  generalize chkClothR len wd polys rs lots.length = ec at *
  generalize chkPliesR lots plies = ep at *
  rcases Classical.em (ec = 0) with h0 | h0
  · subst h0
    rcases Classical.em (ep = 0) with h3 | h3
    · subst h3
      obtain ⟨hext, hcr, hw1, hw2⟩ := Hcz.out rfl
      obtain ⟨hl1, hl2, _⟩ := ext_zero hext
      obtain ⟨hr20, hrz, hnl⟩ := chkRolls_zero hcr
      have hln : ∀ r ∈ rs, 0 ≤ r.ln ∧ r.ln ≤ 1048576 := fun r hr => by have := (roll_ok (hrz r hr)).2.2.2.1; omega
      obtain ⟨hpl0, hps40⟩ := plies_sum (by omega) (by omega) (Hpz.out (by first | trivial | rfl)).2
      rw [sum_toNat hpl0] at hps40
      have Hnl := Lib.hid hnl
      have Hps40 := Lib.hid hps40
      clear hnl hcr hrz hext Hcz Hpz Hs1 Hs2 hps40
      go_enter Try.func8, Try.ntmps8
      go_upto_region 7 with (first | (go_at_call 14; (with_reducible refine (HK.out _ (by repeat' (with_reducible first | exact Later.refl _ | assumption | refine Later.drew ?_ | refine Later.drewN ?_ _ | refine Later.alloc ?_ _ | refine Later.put ?_ (by omega) _ | refine Later.trans ?_ (by assumption)))).mono ?_); rintro e wk1 ⟨rfl, hbk1⟩; have hlk1 : Later w wk1 := (by repeat' (with_reducible first | exact Later.refl _ | assumption | refine Later.drew ?_ | refine Later.drewN ?_ _ | refine Later.alloc ?_ _ | refine Later.put ?_ (by omega) _ | refine Later.trans ?_ (by assumption)))) | (go_at_call 15; (with_reducible refine (HP.out _ hlk1).mono ?_); rintro e wk2 ⟨rfl, hbk2⟩))
      have D5 : Blk wk2 w.heap.size 27 #[.int .i64 len, .int .i64 wd, .int .i64 rx, .int .i64 ry, .slice S1 sizes.length c1, .slice S2 places.length c2] := (Blk.later (w := (w.alloc (.cells #[.int .i64 len, .int .i64 wd, .int .i64 rx, .int .i64 ry, .slice S1 sizes.length c1, .slice S2 places.length c2] 27)).alloc (.cells #[.int .i64 0, .int .i64 0, .int .i64 0, .int .i64 0, .slice none 0 0, .slice none 0 0, .slice none 0 0] 39)) ((Blk.newAt rfl).alloc _) hbk1).later hbk2
      have D10 : Blk wk2 (w.heap.size + 1) 39 #[.int .i64 0, .int .i64 0, .int .i64 0, .int .i64 0, .slice none 0 0, .slice none 0 0, .slice none 0 0] := (Blk.later (w := (w.alloc (.cells #[.int .i64 len, .int .i64 wd, .int .i64 rx, .int .i64 ry, .slice S1 sizes.length c1, .slice S2 places.length c2] 27)).alloc (.cells #[.int .i64 0, .int .i64 0, .int .i64 0, .int .i64 0, .slice none 0 0, .slice none 0 0, .slice none 0 0] 39)) Blk.at2 hbk1).later hbk2
      have hlk2 : Later w wk2 := hlk1.trans hbk2
      clear hbk1 hbk2 HK HP
      have HCI := Lib.hid (fun W (hW : Later w W) => clone_ints S1 c1 sizes W h1 (h1'.later hW) (by omega))
      have HCP := Lib.hid (fun W (hW : Later w W) => clone_places S2 c2 places W h2 (h2'.later hW) (by omega))
      have hg10 : w.heap.size ≤ w.heap.size + 1 := Nat.le_succ _
      have hne : w.heap.size + 1 ≠ w.heap.size := by omega
      generalize hgg : w.heap.size = g5 at *
      have Hgg := Lib.hid hgg
      clear hgg
      generalize g5 + 1 = g10 at *
      have m4 : wk2.cell? ⟨g5, 4, none⟩ = some (.slice S1 sizes.length c1) := D5.cell 4
      have m5 : wk2.cell? ⟨g5, 5, none⟩ = some (.slice S2 places.length c2) := D5.cell 5
      have z5 := D5.lt
      go_cut [42] (fun v wx => ∃ A1 d1 A2 d2, OwnR wx g5 3 1 i1 (.slice A1 sizes.length d1) sizes ∧ OwnR wx g5 70 7 Pc.cells (.slice A2 places.length d2) places ∧ Blk wx g5 27 #[.int .i64 len, .int .i64 wd, .int .i64 rx, .int .i64 ry, .slice A1 sizes.length d1, .slice A2 places.length d2] ∧ Later w wx ∧ Blk wx g10 39 #[.int .i64 0, .int .i64 0, .int .i64 0, .int .i64 0, .slice none 0 0, .slice none 0 0, .slice none 0 0])
      case first =>
        go_region_with (first | (go_at_call 16; (with_reducible refine (HCI.out _ (by repeat' (with_reducible first | exact Later.refl _ | assumption | refine Later.drew ?_ | refine Later.drewN ?_ _ | refine Later.alloc ?_ _ | refine Later.put ?_ (by omega) _ | refine Later.trans ?_ (by assumption)))).mono ?_); rintro e wc1 ⟨v1, rfl, ho1, hbc1⟩; obtain ⟨A1, d1, rfl, _, _, _⟩ := ho1.form i1_len; have m5 : wc1.cell? ⟨g5, 5, none⟩ = some (.slice S2 places.length c2) := hbc1.cell m5; have z5 : g5 < wc1.heap.size := World.block_lt_of_cell? _ _ m5) | (go_at_call 17; (with_reducible refine (HCP.out _ (by repeat' (with_reducible first | exact Later.refl _ | assumption | refine Later.drew ?_ | refine Later.drewN ?_ _ | refine Later.alloc ?_ _ | refine Later.put ?_ (by omega) _ | refine Later.trans ?_ (by assumption)))).mono ?_); rintro e wc2 ⟨v2, rfl, ho2, hbc2⟩; obtain ⟨A2, d2, rfl, _, _, _⟩ := ho2.form pc_len; have D5c : Blk wc2 g5 27 #[.int .i64 len, .int .i64 wd, .int .i64 rx, .int .i64 ry, .slice S1 sizes.length c1, .slice S2 places.length c2] := Blk.later (Blk.later (by first | exact D5 | exact D5.drew) hbc1) hbc2; have z5 : g5 < wc2.heap.size := D5c.lt; have f4 : wc2.frozen? ⟨g5, 4, none⟩ = false := D5c.frozen 4; have f5 : wc2.frozen? ⟨g5, 5, none⟩ = false := D5c.frozen 5; have m4 : wc2.cell? ⟨g5, 4, none⟩ = some (.slice S1 sizes.length c1) := D5c.cell 4; have m5 : wc2.cell? ⟨g5, 5, none⟩ = some (.slice S2 places.length c2) := D5c.cell 5))
        all_goals
          go_wp2_with fail
          go_meet
          refine ⟨A1, d1, A2, d2, ?_, ?_, (D5c.set_ 4 _).set_ 5 _, ?_, ?_⟩
          · exact (((ho1.later hbc2).past D5.lt).past D5.lt).low (Nat.le_of_lt D5.lt)
          · exact ((ho2.past (Nat.lt_of_lt_of_le D5.lt hbc1.size)).past (Nat.lt_of_lt_of_le D5.lt hbc1.size)).low (Nat.le_of_lt (Nat.lt_of_lt_of_le D5.lt hbc1.size))
          · exact ((Later.trans (Later.trans hlk2.drew hbc1) hbc2).put (Nat.le_of_eq Hgg.out) _).put (Nat.le_of_eq Hgg.out) _
          · exact ((Blk.later (Blk.later (by first | exact D10 | exact D10.drew) hbc1) hbc2).past hne).past hne
      case rest =>
      obtain ⟨A1, d1, A2, d2, ho1, ho2, D5', hlc, D10'⟩ := hcut
      clear D5 D10 m4 m5 z5 HCI HCP
      have m0 : wc.cell? ⟨g5, 0, none⟩ = some (.int .i64 len) := D5'.cell 0
      have m1 : wc.cell? ⟨g5, 1, none⟩ = some (.int .i64 wd) := D5'.cell 1
      have m2 : wc.cell? ⟨g5, 2, none⟩ = some (.int .i64 rx) := D5'.cell 2
      have m3 : wc.cell? ⟨g5, 3, none⟩ = some (.int .i64 ry) := D5'.cell 3
      have m4 : wc.cell? ⟨g5, 4, none⟩ = some (.slice A1 sizes.length d1) := D5'.cell 4
      have m5 : wc.cell? ⟨g5, 5, none⟩ = some (.slice A2 places.length d2) := D5'.cell 5
      have z5 := D5'.lt
      have z10 := D10'.lt
      go_upto_region 9 with fail
      refine name_world (fun W9 hW9 => ?_)
      have hl9 : Later wc W9 := by rw [hW9]; exact (by repeat' (with_reducible first | exact Later.refl _ | assumption | refine Later.drew ?_ | refine Later.drewN ?_ _ | refine Later.alloc ?_ _ | refine Later.put ?_ (by omega) _ | refine Later.trans ?_ (by assumption)))
      have hM : SpM w g5 g10 wc.heap.size #[.int .i64 len, .int .i64 wd, .int .i64 rx, .int .i64 ry, .slice A1 sizes.length d1, .slice A2 places.length d2] (fun v => #[.int .i64 len, .int .i64 wd, .int .i64 rx, .int .i64 ry, .slice A1 sizes.length d1, .slice A2 places.length d2, v]) (.slice A1 sizes.length d1) (.slice A2 places.length d2) sizes places W9 (.slice none 0 0) [] := by
        refine ⟨D5'.later hl9, D10'.later hl9, ?_, ho1.later hl9, ho2.later hl9, World.ownsRow_nil _ _ _ _, fun y hy => (by cases hy), hlc.trans hl9⟩
        rw [hW9]; exact (by repeat' (with_reducible first | assumption | (refine Blk.newAt ?_; simp; done) | refine Blk.alloc ?_ _ | refine Blk.drew ?_ | refine Blk.drewN ?_ _ | refine Blk.later ?_ (by assumption)))
      clear hW9 ho1 ho2 D5' D10' m0 m1 m2 m3 m4 m5
      have h15 : g10 ≠ wc.heap.size := by omega
      have h155 : wc.heap.size ≠ g5 := by omega
      have hw15 : w.heap.size ≤ wc.heap.size := hlc.size
      generalize wc.heap.size = g15 at *
      have HM := Lib.hid hM
      have hw5 : w.heap.size ≤ g5 := Nat.le_of_eq Hgg.out
      clear hM z5 z10 hl9 hlc
      go_wp2
      go_loopw [52] (fun iv wr => ∃ (j : Nat) (v : Value) (acc : List Py), j ≤ plies.length ∧ iv = .int .i64 j ∧ SpM w g5 g10 g15 #[.int .i64 len, .int .i64 wd, .int .i64 rx, .int .i64 ry, .slice A1 sizes.length d1, .slice A2 places.length d2] (fun v => #[.int .i64 len, .int .i64 wd, .int .i64 rx, .int .i64 ry, .slice A1 sizes.length d1, .slice A2 places.length d2, v]) (.slice A1 sizes.length d1) (.slice A2 places.length d2) sizes places wr v acc ∧ lotsGo len wd polys rs lots plies 0 = lotG len wd polys rs lots plies j (acc.map Py.pl) ∧ (acc.length : Int) + (plies.drop j).sum ≤ 40) (fun iv _ => plies.length - (intOf iv).toNat)
      case atStart => exact ⟨0, _, [], by omega, rfl, HM.out, lotG_all.symm, by have := Hps40.out; simp; omega⟩
      case round =>
        clear HM
        obtain ⟨j, v, acc, hj, rfl, hM, he, hn40⟩ := hrel
        have HM := Lib.hid hM
        have He := Lib.hid he
        have Hn40 := Lib.hid hn40
        clear hM he hn40
        have hlw := HM.out.lt
        by_cases hlt : j < plies.length
        · obtain ⟨ba, oa, rfl, e1⟩ := (hA.later hlw).at_ hlt
          have hba : ba < wr.heap.size := World.block_lt_of_cell? _ _ e1
          have Hstep := Lib.hid (lotG_step (len := len) (wd := wd) (polys := polys) (rs := rs) (lots := lots) (pre := acc.map Py.pl) hlt)
          have Hskip := Lib.hid (lotG_skip (len := len) (wd := wd) (polys := polys) (rs := rs) (lots := lots) (pre := acc.map Py.pl) hlt)
          have Hdr := Lib.hid (show (plies.drop j).sum = plies[j] + (plies.drop (j + 1)).sum by rw [List.drop_eq_getElem_cons hlt, List.sum_cons])
          have hn0 := hpl0 _ (List.getElem_mem hlt)
          have Hsum0 := Lib.hid (show 0 ≤ (plies.drop (j + 1)).sum by
            have : ∀ l : List Int, (∀ n ∈ l, 0 ≤ n) → 0 ≤ l.sum := by
              intro l
              induction l with
              | nil => intro _; simp
              | cons a l ih => intro h; have := h a (List.mem_cons_self ..); have := ih (fun n hn => h n (List.mem_cons_of_mem _ hn)); simp; omega
            exact this _ (fun m hm => hpl0 m (List.mem_of_mem_drop hm)))
          generalize plies[j] = n at *
          by_cases hz : n = 0
          · have dz : (n == 0) = true := by simpa using hz
            have HN := Lib.hid ((He.out).trans (Hskip.out hz))
            have Hz := Lib.hid hz
            clear hz
            go_wp2
            go_roundw
            case rel => exact ⟨j + 1, v, acc, by omega, by go_num, HM.out.later (by repeat' (with_reducible first | exact Later.refl _ | assumption | refine Later.drew ?_ | refine Later.drewN ?_ _ | refine Later.alloc ?_ _ | refine Later.put ?_ (by omega) _ | refine Later.trans ?_ (by assumption))), HN.out, by have := Hn40.out; have := Hdr.out; have := Hz.out; omega⟩
            case measure => simp [intOf]; omega
          · have dz : (n == 0) = false := by simpa using hz
            have HRe := Lib.hid (fun W (hW : Later w W) => spread_remnants C L cc lc (j : Int) wd rs lots W (hr.later hW) (hL.later hW) Hnl.out hr20)
            have Hrb := Lib.hid (remR_bd (lots := lots) (lot := (j : Int)) (wd := wd) hr20 hln)
            have m1 : wr.cell? ⟨g5, 1, none⟩ = some (.int .i64 wd) := HM.out.km.cell 1
            have z5 := HM.out.km.lt
            have Hmid := Lib.hid ((He.out).trans Hstep.out)
            generalize remR rs lots (j : Int) wd = left0 at *
            clear He Hskip Hstep
            go_upto_region 14 with (first | (go_at_call 18; (with_reducible refine (HRe.out _ hlw).mono ?_); rintro e wq1 ⟨v0, rfl, hov, hbv⟩; obtain ⟨A0, k0, rfl, hk0, hk0', hf0⟩ := hov.form qd4_len))
            have HLO := Lib.hid (show LeftOk w wq1 A0 k0 left0 by
              refine ⟨hk0, ?_⟩
              rcases Nat.eq_zero_or_pos left0.length with h | h
              · exact .inl (List.eq_nil_of_length_eq_zero h)
              · obtain ⟨gl, rfl, k1, k2, k3, k4⟩ := hf0 h
                obtain ⟨cs, hcs⟩ := own_cells hov rfl
                refine .inr ⟨gl, Nat.le_trans hlw.size k1, fun _ => ⟨0, rfl, fun i p hp => ⟨k4 i p hp 0 _ rfl, k4 i p hp 1 _ rfl, k4 i p hp 2 _ rfl, k4 i p hp 3 _ rfl⟩⟩, cs, hcs⟩)
            have HM1 := Lib.hid (HM.out.later hbv)
            have Hbd := Lib.hid Hrb.out.2
            have Hl20 := Lib.hid Hrb.out.1
            have Hn0 := Lib.hid (show 0 ≤ n from hn0)
            have Hnn := Lib.hid (show 0 < n by omega)
            have hn40' : n ≤ 40 := by have := Hn40.out; have := Hdr.out; have := Hsum0.out; omega
            clear hov hbv hk0 hk0' hf0 HM HRe Hrb m1 z5 hba e1 hn0 hz dz hlw
            go_wp2
            go_loopw [18, 66] (fun v18 iv wq => ∃ (i : Nat) (v : Value) (acc : List Py) (left : List Qd) (A' : Option Addr) (c' : Nat), (i : Int) ≤ n ∧ iv = .int .i64 i ∧ v18 = .slice A' left.length c' ∧ LeftOk w wq A' c' left ∧ (∀ r ∈ left, RemB r) ∧ left.length ≤ 20 ∧ SpM w g5 g10 g15 #[.int .i64 len, .int .i64 wd, .int .i64 rx, .int .i64 ry, .slice A1 sizes.length d1, .slice A2 places.length d2] (fun v => #[.int .i64 len, .int .i64 wd, .int .i64 rx, .int .i64 ry, .slice A1 sizes.length d1, .slice A2 places.length d2, v]) (.slice A1 sizes.length d1) (.slice A2 places.length d2) sizes places wq v acc ∧ lotsGo len wd polys rs lots plies 0 = midG len wd polys rs lots plies j (n.toNat - i) left (acc.map Py.pl) ∧ (acc.length : Int) + (n - i) + (plies.drop (j + 1)).sum ≤ 40) (fun _ iv _ => n.toNat - (intOf iv).toNat)
            case atStart => exact ⟨0, v, acc, left0, A0, k0, by have := Hn0.out; omega, rfl, rfl, HLO.out, Hbd.out, Hl20.out, HM1.out, by rw [Nat.sub_zero]; exact Hmid.out, by have := Hn40.out; have := Hdr.out; omega⟩
            case round =>
              clear HLO HM1 Hbd Hl20 Hmid Hn40
              obtain ⟨i, v, acc, left, A', c', hi, rfl, rfl, hLO, hbd, hl20, hM, he, hn40⟩ := hrel
              have HLO := Lib.hid hLO
              have HM := Lib.hid hM
              have He := Lib.hid he
              have Hn40 := Lib.hid hn40
              clear hLO hM he hn40
              have hlw := HM.out.lt
              by_cases hli : (i : Int) < n
              · have m0 : wr.cell? ⟨g5, 0, none⟩ = some (.int .i64 len) := HM.out.km.cell 0
                have z5 := HM.out.km.lt
                obtain ⟨m, hm⟩ : ∃ m, n.toNat - i = m + 1 := ⟨n.toNat - i - 1, by omega⟩
                have Hm := Lib.hid (show n.toNat - (i + 1) = m by omega)
                rw [hm] at He
                have Hnone := Lib.hid (fun h => (He.out).trans (midG_none (len := len) (wd := wd) (polys := polys) (rs := rs) (lots := lots) (plies := plies) (j := j) (m := m) (left := left) (pre := acc.map Py.pl) h))
                have Hsome := Lib.hid (fun x h => (He.out).trans (midG_some (len := len) (wd := wd) (polys := polys) (rs := rs) (lots := lots) (plies := plies) (j := j) (m := m) (left := left) (pre := acc.map Py.pl) (x := x) h))
                clear hm He
                obtain ⟨hcc, hcase⟩ := HLO.out
                clear HLO
                rcases hcase with hnil | ⟨gl, hgl, hLA, hBL⟩
                · subst hnil
                  have HRv := Lib.hid (Hs3.out (by first | trivial | rfl) (by first | trivial | rfl) (Hnone.out rfl))
                  clear Hnone Hsome
                  go_upto_region 18 with (first | (go_at_call 19; (with_reducible refine (spread_layPly_nil Q A' qc c' polys.length len _).mono ?_); rintro e wq5 ⟨rfl, hb5⟩))
                  have HM5 := HM.out.later (Later.trans (by first | exact Later.refl _ | exact (Later.refl _).drew) hb5)
                  have q0 := HM5.zr.cell 0
                  have q1 := HM5.zr.cell 1
                  have q2 := HM5.zr.cell 2
                  have q3 := HM5.zr.cell 3
                  have q4 := HM5.zr.cell 4
                  have q5 := HM5.zr.cell 5
                  have q6 := HM5.zr.cell 6
                  have r0 := HM5.zr.frozen 0
                  have r1 := HM5.zr.frozen 1
                  have r2 := HM5.zr.frozen 2
                  have r3 := HM5.zr.frozen 3
                  have r4 := HM5.zr.frozen 4
                  have r5 := HM5.zr.frozen 5
                  have r6 := HM5.zr.frozen 6
                  have z10 := HM5.zr.lt
                  simp only [List.getElem?_toArray, List.getElem?_cons_zero, List.getElem?_cons_succ] at q0 q1 q2 q3 q4 q5 q6
                  go_wp2
                  refine bodyPost_ret (v := .tuple #[.agg #[.int .i64 0, .int .i64 0, .int .i64 0, .int .i64 0, .slice none 0 0, .slice none 0 0, .slice none 0 0], .slice none 0 0, .int .i64 17]) (by simp [results, Try.results8, go_sem, q0, q1, q2, q3, q4, q5, q6]) rfl (spread_err HRv.out (by decide) (put7 HM5.lt (by have := Hgg.out; omega)))
                · have hne : 0 < left.length ∨ left = [] := by rcases Nat.eq_zero_or_pos left.length with h | h; exact .inr (List.eq_nil_of_length_eq_zero h); exact .inl h
                  have HY := Lib.hid (spread_layPly 89 Q A' qc c' gl len polys left w wr hlw hgl hps hpl ⟨hl1, hl2⟩ hLA hcc hBL (fun r hr => by have := hbd r hr; unfold RemB at this; omega) hl20)
                  have Hlb := Lib.hid (fun x => lay_bd (polys := polys) ⟨hl1, hl2⟩ (l := left) (at_ := 0) (x := x) hbd (Int.le_refl _) (by omega))
                  have HBL := Lib.hid hBL
                  clear hLA hBL hne
                  generalize layR len polys left 0 = LR at *
                  cases LR with
                  | none =>
                    have HRv := Lib.hid (Hs3.out (by first | trivial | rfl) (by first | trivial | rfl) (Hnone.out rfl))
                    clear Hnone Hsome Hlb
                    go_upto_region 18 with (first | (go_at_call 19; (with_reducible refine HY.out.mono ?_); rintro e wq5 ⟨hg5', rfl⟩))
                    obtain ⟨cs, hcs⟩ := HBL.out
                    have HM5 := HM.out.grown hcs hgl hg5'
                    have q0 := HM5.zr.cell 0
                    have q1 := HM5.zr.cell 1
                    have q2 := HM5.zr.cell 2
                    have q3 := HM5.zr.cell 3
                    have q4 := HM5.zr.cell 4
                    have q5 := HM5.zr.cell 5
                    have q6 := HM5.zr.cell 6
                    have r0 := HM5.zr.frozen 0
                    have r1 := HM5.zr.frozen 1
                    have r2 := HM5.zr.frozen 2
                    have r3 := HM5.zr.frozen 3
                    have r4 := HM5.zr.frozen 4
                    have r5 := HM5.zr.frozen 5
                    have r6 := HM5.zr.frozen 6
                    have z10 := HM5.zr.lt
                    simp only [List.getElem?_toArray, List.getElem?_cons_zero, List.getElem?_cons_succ] at q0 q1 q2 q3 q4 q5 q6
                    go_wp2
                    refine bodyPost_ret (v := .tuple #[.agg #[.int .i64 0, .int .i64 0, .int .i64 0, .int .i64 0, .slice none 0 0, .slice none 0 0, .slice none 0 0], .slice none 0 0, .int .i64 17]) (by simp [results, Try.results8, go_sem, q0, q1, q2, q3, q4, q5, q6]) rfl (spread_err HRv.out (by decide) (put7 HM5.lt (by have := Hgg.out; omega)))
                  | some x =>
                    have HN := Lib.hid (Hsome.out x rfl)
                    obtain ⟨hb1, hb2, hb3, hb4⟩ := Hlb.out x rfl
                    have Hb3 := Lib.hid hb3
                    have Hb4 := Lib.hid hb4
                    clear Hnone Hsome Hlb hb3 hb4
                    obtain ⟨xp, xl⟩ := x
                    simp only [] at HN hb1 hb2 Hb3 Hb4
                    go_upto_region 19 with (first | (go_at_call 19; (with_reducible refine HY.out.mono ?_); rintro e wq5 ⟨hg5', P5, p5, A5, c5, rfl, ho5, hla5, hc5, hbl5⟩))
                    obtain ⟨cs, hcs⟩ := HBL.out
                    have HM5 := HM.out.grown hcs hgl hg5'
                    obtain ⟨Pv, pv, rfl, _⟩ := HM5.plys
                    have HM5 := Lib.hid HM5
                    have k15 : wq5.cell? ⟨g15, 6, none⟩ = some (.slice Pv acc.length pv) := HM5.out.ly.cell 6
                    have z15 := HM5.out.ly.lt
                    have z5' := HM5.out.km.lt
                    have hz5 : g5 < wr.heap.size := z5
                    have HS := Lib.hid (SrcAt.blk (Blk.new wq5 51 #[.int .i64 j, .slice P5 xp.length p5]))
                    have Ho5 := Lib.hid (OwnR.alloc (ho5.low (Nat.le_of_lt hz5)) (.cells #[.int .i64 j, .slice P5 xp.length p5] 51))
                    have hal40 : acc.length ≤ 40 := by have := Hn40.out; have := Hsum0.out; omega
                    have Hla5 := Lib.hid hla5
                    clear ho5 hla5 hg5' hcs m0 z5
                    go_wp2_with (at_builtin; refine wpList_append_rec slt_ply py_len py_one rfl (.tmp 81) (.tmp 85) rfl (base := g5) (l := acc) rfl (OwnR.alloc HM5.out.pl _) (A := some ⟨wq5.heap.size, 0, none⟩) (c := 1) [⟨(j : Int), P5, p5, xp⟩] rfl (by intro h; cases h) HS.out (by simp; omega) (by simp; omega) ?_; intro A3 c3' w3 ho3 hg3; have K15 := blk_own (HM5.out.ly.alloc _) (OwnR.alloc HM5.out.pl _) (by decide) hg3; have kc : w3.cell? ⟨g15, 6, none⟩ = some (.slice Pv acc.length pv) := K15.cell 6; have kf : w3.frozen? ⟨g15, 6, none⟩ = false := K15.frozen 6; have kz : g15 < w3.heap.size := K15.lt)
                    have hM6 := (HM5.out.later ((Later.refl _).alloc _)).push (y := ⟨(j : Int), P5, p5, xp⟩) (v' := .slice A3 (acc ++ ([⟨(j : Int), P5, p5, xp⟩] : List Py)).length c3') hw5 h15 h155 hw15 rfl ⟨Ho5.out, Hb4.out, by show xp.length ≤ 20; omega⟩ hg3 ho3
                    simp only [List.length_append, List.length_singleton] at hM6
                    have HM6 := Lib.hid hM6
                    obtain ⟨cs', hcs'⟩ := hbl5
                    have hA5 : Blk (wq5.alloc (.cells #[.int .i64 j, .slice P5 xp.length p5] 51)) gl 89 cs' := hcs'.alloc _
                    have e3 : w3.heap[gl]? = wq5.heap[gl]? := (hg3.block gl hA5.lt (fun e => by
                      obtain ⟨cs2, h2⟩ := own_cells (OwnR.alloc HM5.out.pl _) e.symm
                      exact absurd (blk_type hA5 h2) (by decide))).trans (Below.heap_alloc wq5 _ gl hcs'.lt)
                    have e4 : gl ≠ g15 := fun e => by subst e; exact absurd (blk_type hcs' HM5.out.ly) (by decide)
                    have HLO := Lib.hid (show ∀ u, LeftOk w (w3.setCell ⟨g15, 6, none⟩ u) A5 c5 xl by
                      intro u
                      have e5 := (Below.heap_setCell w3 ⟨g15, 6, none⟩ u gl e4).trans e3
                      refine ⟨hc5, .inr ⟨gl, hgl, left_keep Hla5.out e5, cs', e5.trans hcs'⟩⟩)
                    clear hM6 ho3 hg3 K15 e3 hcs'
                    go_roundw
                    case rel =>
                      refine ⟨i + 1, _, acc ++ ([⟨(j : Int), P5, p5, xp⟩] : List Py), xl, A5, c5, by omega, by go_num, rfl, HLO.out _, Hb3.out, by omega, HM6.out, ?_, ?_⟩
                      · rw [Hm.out, HN.out, List.map_append]; rfl
                      · have := Hn40.out; simp; omega
                    case measure => simp [intOf]; omega
              · have hin : n.toNat - i = 0 := by omega
                rw [hin] at He
                have HN := Lib.hid ((He.out).trans midG_end)
                clear He hin
                go_wp2
                go_roundw
                case rel => exact ⟨j + 1, v, acc, by omega, by go_num, HM.out, HN.out, by have := Hn40.out; omega⟩
                case measure => simp [intOf]; omega
        · have HG := Lib.hid ((He.out).trans (lotG_last (by omega)))
          obtain ⟨Pv, pv, rfl, hpv1, hpv2, hPv⟩ := HM.out.plys
          have hacc40 : acc.length ≤ 40 := by have := Hn40.out; rw [List.drop_eq_nil_of_le (by omega)] at this; simp at this; omega
          have HT := Lib.hid (fun W (hW : Later wr W) => spread_Rests C L A1 A2 Pv cc lc sizes.length d1 places.length d2 pv len wd rx ry rs lots acc W (hr.later (hlw.trans hW)) (by omega) (hL.later (hlw.trans hW)) (by omega) (hPv.later hW) (by omega) (fun y hy => by have := (HM.out.pt y hy).2.2; omega))
          have Hv := Lib.hid (Hs4.out _ (by first | trivial | rfl) (by first | trivial | rfl) HG.out)
          generalize restsR rs lots (acc.map Py.pl) = RR at *
          have k0 : wr.cell? ⟨g15, 0, none⟩ = some (.int .i64 len) := HM.out.ly.cell 0
          have k1 : wr.cell? ⟨g15, 1, none⟩ = some (.int .i64 wd) := HM.out.ly.cell 1
          have k2 : wr.cell? ⟨g15, 2, none⟩ = some (.int .i64 rx) := HM.out.ly.cell 2
          have k3 : wr.cell? ⟨g15, 3, none⟩ = some (.int .i64 ry) := HM.out.ly.cell 3
          have k4 : wr.cell? ⟨g15, 4, none⟩ = some (.slice A1 sizes.length d1) := HM.out.ly.cell 4
          have k5 : wr.cell? ⟨g15, 5, none⟩ = some (.slice A2 places.length d2) := HM.out.ly.cell 5
          have k6 : wr.cell? ⟨g15, 6, none⟩ = some (.slice Pv acc.length pv) := HM.out.ly.cell 6
          have z15 := HM.out.ly.lt
          clear He HG hPv hpv1 hpv2
          obtain ⟨rq, re⟩ := RR
          rcases Classical.em (re = 0) with hre | hre
          · subst hre
            have HRv := Lib.hid (show R = (acc.map Py.pl, rq, 0) by rw [Hv.out]; rfl)
            go_upto_region 26 with (first | (go_at_call 20; (with_reducible refine (HT.out _ (by repeat' (with_reducible first | exact Later.refl _ | assumption | refine Later.drew ?_ | refine Later.drewN ?_ _ | refine Later.alloc ?_ _ | refine Later.put ?_ (by omega) _ | refine Later.trans ?_ (by assumption)))).mono ?_); rintro e wq6 ⟨X6, x6, rfl, ho6, hb6⟩))
            have HM6 := HM.out.later (Later.trans (by first | exact Later.refl _ | exact (Later.refl _).drew) hb6)
            have HM6h := Lib.hid HM6
            have Ho6 := Lib.hid ho6
            have k0 := hb6.cell k0
            have k1 := hb6.cell k1
            have k2 := hb6.cell k2
            have k3 := hb6.cell k3
            have k4 := hb6.cell k4
            have k5 := hb6.cell k5
            have k6 := hb6.cell k6
            have z15 := HM6.ly.lt
            have q0 := HM6.zr.cell 0
            have q1 := HM6.zr.cell 1
            have q2 := HM6.zr.cell 2
            have q3 := HM6.zr.cell 3
            have q4 := HM6.zr.cell 4
            have q5 := HM6.zr.cell 5
            have q6 := HM6.zr.cell 6
            have r0 := HM6.zr.frozen 0
            have r1 := HM6.zr.frozen 1
            have r2 := HM6.zr.frozen 2
            have r3 := HM6.zr.frozen 3
            have r4 := HM6.zr.frozen 4
            have r5 := HM6.zr.frozen 5
            have r6 := HM6.zr.frozen 6
            have z10 := HM6.zr.lt
            simp only [List.getElem?_toArray, List.getElem?_cons_zero, List.getElem?_cons_succ] at q0 q1 q2 q3 q4 q5 q6
            have hne := h15
            have hz1015 : g10 < wr.heap.size := HM.out.zr.lt
            clear HM6 ho6
            go_wp2
            refine bodyPost_ret (v := .tuple #[.agg #[.int .i64 len, .int .i64 wd, .int .i64 rx, .int .i64 ry, .slice A1 sizes.length d1, .slice A2 places.length d2, .slice Pv acc.length pv], .slice X6 rq.length x6, .int .i64 0]) (by simp [results, Try.results8, go_sem, q0, q1, q2, q3, q4, q5, q6]) rfl ?_
            exact spread_done HRv.out HM6h.out (by have := Hgg.out; omega) Ho6.out hz1015 (by have := Hgg.out; omega)
          · have dre : (re != 0) = true := by simpa using hre
            have HRv := Lib.hid (show R = ([], [], re) by rw [Hv.out, if_pos hre])
            go_upto_region 25 with (first | (go_at_call 20; (with_reducible refine (HT.out _ (by repeat' (with_reducible first | exact Later.refl _ | assumption | refine Later.drew ?_ | refine Later.drewN ?_ _ | refine Later.alloc ?_ _ | refine Later.put ?_ (by omega) _ | refine Later.trans ?_ (by assumption)))).mono ?_); rintro e wq6 ⟨X6, x6, rfl, ho6, hb6⟩))
            have HM6 := HM.out.later (Later.trans (by first | exact Later.refl _ | exact (Later.refl _).drew) hb6)
            have q0 := HM6.zr.cell 0
            have q1 := HM6.zr.cell 1
            have q2 := HM6.zr.cell 2
            have q3 := HM6.zr.cell 3
            have q4 := HM6.zr.cell 4
            have q5 := HM6.zr.cell 5
            have q6 := HM6.zr.cell 6
            have r0 := HM6.zr.frozen 0
            have r1 := HM6.zr.frozen 1
            have r2 := HM6.zr.frozen 2
            have r3 := HM6.zr.frozen 3
            have r4 := HM6.zr.frozen 4
            have r5 := HM6.zr.frozen 5
            have r6 := HM6.zr.frozen 6
            have z10 := HM6.zr.lt
            simp only [List.getElem?_toArray, List.getElem?_cons_zero, List.getElem?_cons_succ] at q0 q1 q2 q3 q4 q5 q6
            go_wp2
            refine bodyPost_ret (v := .tuple #[.agg #[.int .i64 0, .int .i64 0, .int .i64 0, .int .i64 0, .slice none 0 0, .slice none 0 0, .slice none 0 0], .slice none 0 0, .int .i64 re]) (by simp [results, Try.results8, go_sem, q0, q1, q2, q3, q4, q5, q6]) rfl (spread_err HRv.out hre (put7 HM6.lt (by have := Hgg.out; omega)))
    · have dn : (ep != 0) = true := by simpa using h3
      have HRv := Lib.hid (Hs2.out (by first | trivial | rfl) h3)
      go_enter Try.func8, Try.ntmps8
      go_upto_region 6 with (first | (go_at_call 14; (with_reducible refine (HK.out _ (by repeat' (with_reducible first | exact Later.refl _ | assumption | refine Later.drew ?_ | refine Later.drewN ?_ _ | refine Later.alloc ?_ _ | refine Later.put ?_ (by omega) _ | refine Later.trans ?_ (by assumption)))).mono ?_); rintro e w1 ⟨rfl, hb1⟩; have hlw1 : Later w w1 := (by repeat' (with_reducible first | exact Later.refl _ | assumption | refine Later.drew ?_ | refine Later.drewN ?_ _ | refine Later.alloc ?_ _ | refine Later.put ?_ (by omega) _ | refine Later.trans ?_ (by assumption)))) | (go_at_call 15; (with_reducible refine (HP.out _ hlw1).mono ?_); rintro e w2 ⟨rfl, hb2⟩))
      have D10 : Blk w2 (w.heap.size + 1) 39 #[.int .i64 0, .int .i64 0, .int .i64 0, .int .i64 0, .slice none 0 0, .slice none 0 0, .slice none 0 0] := (Blk.later (w := (w.alloc (.cells #[.int .i64 len, .int .i64 wd, .int .i64 rx, .int .i64 ry, .slice S1 sizes.length c1, .slice S2 places.length c2] 27)).alloc (.cells #[.int .i64 0, .int .i64 0, .int .i64 0, .int .i64 0, .slice none 0 0, .slice none 0 0, .slice none 0 0] 39)) Blk.at2 hb1).later hb2
      have hl2 : Later w w2 := hlw1.trans hb2
      have hg10 : w.heap.size ≤ w.heap.size + 1 := Nat.le_succ _
      generalize hgg : w.heap.size + 1 = g10 at *
      have q0 := D10.cell 0
      have q1 := D10.cell 1
      have q2 := D10.cell 2
      have q3 := D10.cell 3
      have q4 := D10.cell 4
      have q5 := D10.cell 5
      have q6 := D10.cell 6
      have r0 := D10.frozen 0
      have r1 := D10.frozen 1
      have r2 := D10.frozen 2
      have r3 := D10.frozen 3
      have r4 := D10.frozen 4
      have r5 := D10.frozen 5
      have r6 := D10.frozen 6
      have z10 := D10.lt
      simp only [List.getElem?_toArray, List.getElem?_cons_zero, List.getElem?_cons_succ] at q0 q1 q2 q3 q4 q5 q6
      go_wp2
      refine bodyPost_ret (v := .tuple #[.agg #[.int .i64 0, .int .i64 0, .int .i64 0, .int .i64 0, .slice none 0 0, .slice none 0 0, .slice none 0 0], .slice none 0 0, .int .i64 ep]) (by simp [results, Try.results8, go_sem, q0, q1, q2, q3, q4, q5, q6]) rfl (spread_err HRv.out h3 (put7 hl2 hg10))
  · have dn : (ec != 0) = true := by simpa using h0
    have HRv := Lib.hid (Hs1.out h0)
    go_enter Try.func8, Try.ntmps8
    go_upto_region 3 with (first | (go_at_call 14; (with_reducible refine (HK.out _ (by repeat' (with_reducible first | exact Later.refl _ | assumption | refine Later.drew ?_ | refine Later.drewN ?_ _ | refine Later.alloc ?_ _ | refine Later.put ?_ (by omega) _ | refine Later.trans ?_ (by assumption)))).mono ?_); rintro e w1 ⟨rfl, hb1⟩; have hlw1 : Later w w1 := (by repeat' (with_reducible first | exact Later.refl _ | assumption | refine Later.drew ?_ | refine Later.drewN ?_ _ | refine Later.alloc ?_ _ | refine Later.put ?_ (by omega) _ | refine Later.trans ?_ (by assumption)))))
    have D10 : Blk w1 (w.heap.size + 1) 39 #[.int .i64 0, .int .i64 0, .int .i64 0, .int .i64 0, .slice none 0 0, .slice none 0 0, .slice none 0 0] := (Blk.later (w := (w.alloc (.cells #[.int .i64 len, .int .i64 wd, .int .i64 rx, .int .i64 ry, .slice S1 sizes.length c1, .slice S2 places.length c2] 27)).alloc (.cells #[.int .i64 0, .int .i64 0, .int .i64 0, .int .i64 0, .slice none 0 0, .slice none 0 0, .slice none 0 0] 39)) Blk.at2 hb1)
    have hg10 : w.heap.size ≤ w.heap.size + 1 := Nat.le_succ _
    generalize hgg : w.heap.size + 1 = g10 at *
    have q0 := D10.cell 0
    have q1 := D10.cell 1
    have q2 := D10.cell 2
    have q3 := D10.cell 3
    have q4 := D10.cell 4
    have q5 := D10.cell 5
    have q6 := D10.cell 6
    have r0 := D10.frozen 0
    have r1 := D10.frozen 1
    have r2 := D10.frozen 2
    have r3 := D10.frozen 3
    have r4 := D10.frozen 4
    have r5 := D10.frozen 5
    have r6 := D10.frozen 6
    have z10 := D10.lt
    simp only [List.getElem?_toArray, List.getElem?_cons_zero, List.getElem?_cons_succ] at q0 q1 q2 q3 q4 q5 q6
    go_wp2
    refine bodyPost_ret (v := .tuple #[.agg #[.int .i64 0, .int .i64 0, .int .i64 0, .int .i64 0, .slice none 0 0, .slice none 0 0, .slice none 0 0], .slice none 0 0, .int .i64 ec]) (by simp [results, Try.results8, go_sem, q0, q1, q2, q3, q4, q5, q6]) rfl (spread_err HRv.out h0 (put7 hlw1 hg10))

end Go.Proofs.Ytdhakoecjmaebaa
