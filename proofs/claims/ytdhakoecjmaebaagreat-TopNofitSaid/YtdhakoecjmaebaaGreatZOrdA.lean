/-
  The walk of spread.used: the zones of each roll that the parts of a lay use, sorted; false if cloth is used twice.
-/
import Derived.Test.YtdhakoecjmaebaaGreatZGeoC
import Derived.StillTailTactics
import Derived.Test.YtdhakoecjmaebaaGreatZStepA
import Derived.Lib.SliceRun
import Derived.Test.YtdhakoecjmaebaaGreatZBouA
namespace Go.Proofs.YtdhakoecjmaebaaGreat
open Go.RowKit
set_option linter.unusedSimpArgs false
set_option linter.unusedVariables false

def Py.pl (y : Py) : Pl := (y.lot, y.parts)
section
variable {α : Type} {cells : α → List Value} {sz : Nat}
end
section
variable {P : Program} {ops : Array Oper} {Q : Exit → Act → World → Prop} {md : Region.Mode} {S : World → Prop}
end
end Go.Proofs.YtdhakoecjmaebaaGreat
/-
  The walks of spread's remnants: size, take, layPly.
-/
namespace Go.Proofs.YtdhakoecjmaebaaGreat
open Go.RowKit
set_option linter.unusedSimpArgs false
set_option linter.unusedVariables false

theorem QdsAt.block {w w' : World} {g o : Nat} {l : List Qd} (h : QdsAt w g o l) (he : w'.heap[g]? = w.heap[g]?) : QdsAt w' g o l := fun i p hp => by
  have hc : ∀ j, w'.cell? ⟨g, j, none⟩ = w.cell? ⟨g, j, none⟩ := fun j => World.cell?_of_block (a := ⟨g, j, Option.none⟩) he
  rw [hc, hc, hc, hc]
  exact h i p hp
/-- A list of remnants in block g. -/
def LeftAt (w : World) (g : Nat) (A : Option Addr) (l : List Qd) : Prop := 0 < l.length → ∃ o, A = some ⟨g, o, none⟩ ∧ QdsAt w g o l
theorem LeftAt.later {w w' : World} {g : Nat} {A : Option Addr} {l : List Qd} (h : LeftAt w g A l) (k : Later w w') : LeftAt w' g A l := fun hn => let ⟨o, e, hx⟩ := h hn; ⟨o, e, hx.later k⟩
/-- The rest of a list behind its first element. -/
theorem QdsAt.tail {w : World} {b o : Nat} {r : Qd} {l : List Qd} (h : QdsAt w b o (r :: l)) : QdsAt w b (o + 4) l := fun i p hp => by
  have := h (i + 1) p (by simpa using hp)
  rw [show o + (i + 1) * 4 = o + 4 + i * 4 by omega] at this
  exact this
theorem LeftAt.tail {w : World} {g o c : Nat} {r : Qd} {l : List Qd} (h : QdsAt w g o (r :: l)) (hc : (r :: l).length ≤ c) : LeftAt w g (if c = 1 then some ⟨g, o, none⟩ else some ⟨g, o + 4, none⟩) l := by
  intro hn
  rw [List.length_cons] at hc
  rw [if_neg (by omega)]
  exact ⟨o + 4, rfl, h.tail⟩
end Go.Proofs.YtdhakoecjmaebaaGreat
/-
  The walks of slices.Clone (at numbers and at places) and of spread.Rests.
-/
namespace Go.Proofs.YtdhakoecjmaebaaGreat
open Go.RowKit
set_option linter.unusedSimpArgs false
set_option linter.unusedVariables false

/- Rows of different types lie in different blocks. -/
theorem own_cells {α : Type} {cells : α → List Value} {sz : Nat} {w : World} {base g : Nat} {E : TypeId} {v : Value} {l : List α} (h : OwnR w base E sz cells v l) (hg : v.ownBlock = some g) : ∃ cs, Blk w g E cs := by
  rcases h.2 with ⟨h1, h2⟩ | ⟨g', cap, cur, hv, hb, hg', _⟩
  · rw [h1] at hg; cases hg
  · rw [hv] at hg; cases hg; exact ⟨cur, hg'⟩
theorem blk_type {w : World} {g : Nat} {t t' : TypeId} {cs cs' : Array Value} (h : Blk w g t cs) (h' : Blk w g t' cs') : t = t' := by
  have := Option.some.inj (h.symm.trans h')
  injection this
theorem own_net {α β : Type} {cells : α → List Value} {cells' : β → List Value} {sz sz' : Nat} {w : World} {base base' g : Nat} {E E' : TypeId} {v v' : Value} {l : List α} {l' : List β}
    (h : OwnR w base E sz cells v l) (h' : OwnR w base' E' sz' cells' v' l') (hE : E ≠ E') (hg : v.ownBlock = some g) : some g ≠ v'.ownBlock := by
  intro e
  obtain ⟨cs, h1⟩ := own_cells h hg
  obtain ⟨cs', h2⟩ := own_cells h' e.symm
  exact hE (blk_type h1 h2)
theorem own_keep {α β : Type} {cells : α → List Value} {cells' : β → List Value} {sz sz' : Nat} {w w' : World} {base base' : Nat} {E E' : TypeId} {v v' : Value} {l : List α} {l' : List β}
    (h : OwnR w base E sz cells v l) (h' : OwnR w base' E' sz' cells' v' l') (hE : E ≠ E') (hg : w.grownBy w' v'.ownBlock) : OwnR w' base E sz cells v l :=
  h.ofBlock fun g hgv => hg.block g (World.ownsRow.lt h g hgv).2 (own_net h h' hE hgv)
theorem SrcAt.ints {w : World} {A : Option Addr} {l : List Int} (h : Ints w A l) : SrcAt w A (l.flatMap i1) := by
  intro ad had j u hu
  obtain ⟨i, k, a, h1, h2, rfl⟩ := flat_split i1_len hu
  obtain ⟨b, o, e, hx⟩ := h (by have := (List.getElem?_eq_some_iff.1 h1).1; omega)
  rw [e] at had
  cases had
  have hk : k = 0 := by have := (List.getElem?_eq_some_iff.1 h2).1; rw [i1_len] at this; omega
  subst hk
  cases h2
  rw [add_plain, Nat.mul_one, Nat.add_zero]
  exact hx i a h1
set_option maxHeartbeats 2000000 in
theorem clone_ints (A : Option Addr) (c : Nat) (l : List Int) (w : World) (hA : A = none → l = []) (h : Ints w A l) (hl : l.length ≤ 65536) :
    Calls Tryz.prog 48 #[.slice A l.length c] w (fun e w' => ∃ v, e = .returned v ∧ OwnR w' w.heap.size 3 1 i1 v l ∧ Later w w') := by
  have q22 : ∀ (w : World) (a : Option Addr) (n c n' c' : Nat), (binOp .eql 32 (.slice a n c) (.slice none n' c')).run Tryz.prog w = .ok (.bool a.isNone) w := fun w a n c n' c' => Lib.run_eql_slice_nil w _ _ a n c n' c' Tryz.underlying32
  cases A with
  | none =>
    have e := hA rfl
    subst e
    go_enter Tryz.func48, Tryz.ntmps48
    go_wp2
    go_ret
    exact ⟨_, rfl, World.ownsRow_nil _ _ _ _, Later.refl _⟩
  | some ad =>
    have Hsrc := Lib.hid (SrcAt.ints h)
    go_enter Tryz.func48, Tryz.ntmps48
    go_wp2_with (at_builtin; refine wpList_append_rec slt_ints i1_len i1_one rfl _ _ rfl (base := w.heap.size) (l := ([] : List Int)) rfl (World.ownsRow_made w #[] 0 (Nat.le_refl _) (Nat.zero_le _) (by simp)) (A := some ad) (c := c) l rfl (by intro h; cases h) (Hsrc.out.later ((Later.refl _).alloc _)) (by simp; omega) (by simp) ?_; intro A3 c3' w3 ho3 hg3)
    have hl3 : Later w w3 := Later.grown ((Later.refl _).alloc _) hg3 (fun g hg => by cases hg; exact Nat.le_refl _)
    go_wp2
    go_ret
    exact ⟨_, rfl, by simpa using ho3, hl3⟩

/-- A place of a marker. -/
structure Pc where
  g : Int
  u : Int
  c : Int
  fl : Bool
  q : Int
  x : Int
  y : Int
  deriving DecidableEq
def Pc.cells (p : Pc) : List Value := [.int .i64 p.g, .int .i64 p.u, .int .i64 p.c, .bool p.fl, .int .i64 p.q, .int .i64 p.x, .int .i64 p.y]
def Pcs (w : World) (A : Option Addr) (l : List Pc) : Prop := ListAt w 7 Pc.cells (fun _ _ => True) A l
theorem Pcs.later {w w' : World} {A : Option Addr} {l : List Pc} (h : Pcs w A l) (k : Later w w') : Pcs w' A l := ListAt.later h (fun _ _ => trivial) k
/- What is left, zone by zone. -/
section
variable {rs : List Rl} {lots : List Int} {ys : List Pl}
end
end Go.Proofs.YtdhakoecjmaebaaGreat
/-
  The walks of slices.Index and slices.Contains at numbers, and of search.Orders.
-/
namespace Go.Proofs.YtdhakoecjmaebaaGreat
open Go.RowKit Go.Lib
set_option linter.unusedSimpArgs false
set_option linter.unusedVariables false

def idxI (q : Int) : List Int → Nat → Int
  | [], _ => -1
  | p :: l, k => if q = p then k else idxI q l (k + 1)
theorem idxI_neg (q : Int) (l : List Int) (k : Nat) : 0 ≤ idxI q l k ↔ q ∈ l := by
  induction l generalizing k with
  | nil => simp [idxI]
  | cons p l ih =>
    unfold idxI
    split
    · rename_i h
      simp [h]
    · rename_i h
      rw [ih]
      simp [h]
set_option maxHeartbeats 1000000 in
theorem index_ints (A : Option Addr) (c : Nat) (ps : List Int) (x : Int) (w : World) (hn : ps.length ≤ 65536) (hp : Ints w A ps) :
    Calls Tryz.prog 87 #[.slice A ps.length c, .int .i64 x] w (Ret (.int .i64 (idxI x ps 0)) w) := by
  go_enter Tryz.func87, Tryz.ntmps87
  go_wp2
  go_loopw [8] (fun i wr => ∃ k : Nat, k ≤ ps.length ∧ i = .int .i64 k ∧ idxI x ps 0 = idxI x (ps.drop k) k ∧ Later w wr) (fun i _ => ps.length - (intOf i).toNat)
  case atStart => exact ⟨0, by omega, rfl, rfl, Later.refl _⟩
  case round =>
    obtain ⟨k, hk, rfl, he, hb⟩ := hrel
    have He := Lib.hid he
    clear he
    by_cases hlt : k < ps.length
    · obtain ⟨b, o, rfl, e1⟩ := (hp.later hb).at_ hlt
      have Hd := Lib.hid (drop_cons ps k hlt)
      generalize ps[k] = y at *
      have zb := World.block_lt_of_cell? _ _ e1
      have hk0 : (0 : Int) ≤ (k : Int) := by omega
      have hk1 : (k : Int) < (ps.length : Int) := by omega
      by_cases hxy : x = y
      · have d1 : (x == y) = true := by simpa using hxy
        have Hxy := Lib.hid hxy
        clear hxy
        go_wp2
        go_ret
        exact ⟨ret_int (by rw [He.out, Hd.out, idxI, if_pos Hxy.out]), hb⟩
      · have d1 : (x == y) = false := by simpa using hxy
        go_wp2
        go_roundw
        case rel => exact ⟨k + 1, by omega, by go_num, by rw [He.out, Hd.out, idxI, if_neg hxy], hb⟩
        case measure => simp [intOf]; omega
    · go_wp2
      go_ret
      exact ⟨ret_int (by rw [He.out, List.drop_eq_nil_of_le (by omega)]; rfl), hb⟩
theorem contains_ints (A : Option Addr) (c : Nat) (ps : List Int) (x : Int) (w : World) (hn : ps.length ≤ 65536) (hp : Ints w A ps) :
    Calls Tryz.prog 47 #[.slice A ps.length c, .int .i64 x] w (Ret (.bool (decide (x ∈ ps))) w) := by
  go_enter Tryz.func47, Tryz.ntmps47
  go_wp2_with (go_at_call 87; refine (index_ints _ _ _ _ _ hn (hp.later (by exact (by repeat' (with_reducible first | exact Later.refl _ | assumption | refine Later.drew ?_ | refine Later.drewN ?_ _ | refine Later.alloc ?_ _ | refine Later.put ?_ (by omega) _ | refine Later.trans ?_ (by assumption)))))).mono ?_; rintro e w1 ⟨rfl, hb1⟩)
  go_ret
  exact ⟨ret_bool (by simp [idxI_neg]), hb1⟩
theorem slt_lists : SlT Tryz.prog 75 32 1 := SlT.mk (z := .slice none 0 0) (by_ := 24) Tryz.underlying75 (by kernel_rfl) (by omega) rfl (by omega)

/-- An order in memory. -/
structure Ov where
  A : Option Addr
  c : Nat
  l : List Int
def Ov.cells (v : Ov) : List Value := [.slice v.A v.l.length v.c]
theorem ov_len (v : Ov) : v.cells.length = 1 := rfl
theorem ov_one (v : Ov) : ∀ u ∈ v.cells, u.oneCell' = true := by
  intro u hu
  rw [List.mem_singleton.1 hu]
  rfl
def OvOk (w : World) (v : Ov) : Prop := OwnR w 0 3 1 i1 (.slice v.A v.l.length v.c) v.l
theorem OvOk.later {w w' : World} {v : Ov} (h : OvOk w v) (k : Later w w') : OvOk w' v := OwnR.later h k
theorem OvOk.ints {w : World} {v : Ov} (h : OvOk w v) : Ints w v.A v.l ∧ v.l.length ≤ v.c ∧ (v.A = none → v.l = []) := by
  have h1 := (OwnR.list (ok := fun (_ : World) (_ : Int) => True) i1_len h (fun _ _ => trivial))
  refine ⟨fun hn => ?_, h1.2.1, fun hA => ?_⟩
  · obtain ⟨b, o, e, hx⟩ := h1.2.2.2 hn
    refine ⟨b, o, e, fun i n hi => ?_⟩
    have := (hx i n hi).1 0 _ rfl
    rw [Nat.mul_one, Nat.add_zero] at this
    exact this
  · rcases hl : v.l with _ | ⟨a, t⟩
    · rfl
    · obtain ⟨b, o, e, _⟩ := h1.2.2.2 (by rw [hl]; simp)
      rw [hA] at e
      cases e
theorem OvOk.grown {w w' : World} {v : Ov} {base : Nat} {u : Value} {L : List Ov} (h : OvOk w v) (h' : OwnR w base 32 1 Ov.cells u L) (hg : w.grownBy w' u.ownBlock) : OvOk w' v :=
  own_keep h h' (by decide) hg
theorem orders_len {n : Nat} (hn : n ≤ 5) : ∀ k : Nat, (ordersGo n k).length ≤ 5 ^ k
  | 0 => by simp [ordersGo]
  | k + 1 => by
    have ih := orders_len hn k
    have key : ∀ L : List (List Int), (L.flatMap (extendO n)).length ≤ L.length * 5 := by
      intro L
      induction L with
      | nil => simp
      | cons a L ih2 =>
        have e : (extendO n a).length ≤ 5 := by
          unfold extendO
          rw [List.length_map]
          have := List.length_filter_le (fun (i : Nat) => !a.contains (i : Int)) (List.range n)
          rw [List.length_range] at this
          omega
        rw [List.flatMap_cons, List.length_append, List.length_cons]
        omega
    have := key (ordersGo n k)
    rw [ordersGo, Nat.pow_succ]
    omega
def extTo (o : List Int) (i : Nat) : List (List Int) := ((List.range i).filter fun (i : Nat) => !o.contains (i : Int)).map fun (i : Nat) => o ++ [(i : Int)]
theorem extTo_succ (o : List Int) (i : Nat) : extTo o (i + 1) = extTo o i ++ (if ((i : Nat) : Int) ∈ o then [] else [o ++ [((i : Nat) : Int)]]) := by
  unfold extTo
  rw [List.range_succ, List.filter_append, List.map_append]
  congr 1
  by_cases h : ((i : Nat) : Int) ∈ o
  · rw [if_pos h]; simp [h]
  · rw [if_neg h]; simp [h]
def OrdersPost (n : Nat) (w : World) (e : Ending) (w' : World) : Prop := ∃ v L, e = .returned v ∧ OwnR w' 0 32 1 Ov.cells v L ∧ L.map Ov.l = ordersR n ∧ (∀ a ∈ L, OvOk w' a) ∧ Later w w'
end Go.Proofs.YtdhakoecjmaebaaGreat
