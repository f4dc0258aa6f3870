/-
  A region that draws its order, in which three blocks are made and each is then filled with what was loaded ahead: in whatever order.
-/
import Derived.Test.YtdhakoecjmaebaaStepB
namespace Go.Proofs.Ytdhakoecjmaebaa
open Go.RowKit
set_option linter.unusedSimpArgs false
set_option linter.unusedVariables false

theorem put_comm {a : Act} {i j : Nat} {u v : Value} (h : i ≠ j) : (a.put (some i) u).put (some j) v = (a.put (some j) v).put (some i) u := by
  unfold Act.put
  simp only [Act.mk.injEq, and_true]
  exact Array.setIfInBounds_comm u v h
theorem eval_put_same {a : Act} {i : Nat} {v : Value} (h : i < a.tmps.size) : (a.put (some i) v).eval (.tmp i) = v := by
  unfold Act.put Act.eval
  simp [Array.getD_eq_getD_getElem?, h]
theorem eval_put_ne {a : Act} {i j : Nat} {v : Value} (h : i ≠ j) : (a.put (some i) v).eval (.tmp j) = a.eval (.tmp j) := by
  unfold Act.put Act.eval
  simp [Array.getD_eq_getD_getElem?, Array.getElem?_setIfInBounds_ne h]
theorem size_put_act {a : Act} {i : Nat} {v : Value} : (a.put (some i) v).tmps.size = a.tmps.size := by unfold Act.put; simp

/-- One of the three: how far it is (0: not made, 1: made, 2: filled), and its block. -/
def OneOf (w0 w : World) (T : TypeId) (zs cs : Array Value) (s g : Nat) : Prop := 0 < s → w0.heap.size ≤ g ∧ g < w.heap.size ∧ (s = 1 → Blk w g T zs) ∧ (s = 2 → Blk w g T cs)
def putOne (a : Act) (d s g : Nat) : Act := if s = 0 then a else a.put (some d) (.pointer (some ⟨g, 0, none⟩))
theorem putOne_size (a : Act) (d s g : Nat) : (putOne a d s g).tmps.size = a.tmps.size := by
  unfold putOne
  split
  · rfl
  · exact size_put_act
theorem putOne_eval {a : Act} {d s g j : Nat} (h : d ≠ j) : (putOne a d s g).eval (.tmp j) = a.eval (.tmp j) := by
  unfold putOne
  split
  · rfl
  · exact eval_put_ne h
theorem putOne_put {a : Act} {d s g j : Nat} {v : Value} (h : d ≠ j) : (putOne a d s g).put (some j) v = putOne (a.put (some j) v) d s g := by
  unfold putOne
  split
  · rfl
  · exact put_comm h
def listed3 (s1 s2 s3 : Nat) : Array Bool := #[true, true, true, decide (0 < s1), decide (0 < s2), decide (0 < s3), decide (1 < s1), decide (1 < s2), decide (1 < s3)]
def ready3 (s1 s2 s3 : Nat) : List Nat := if s1 = 0 ∨ s2 = 0 ∨ s3 = 0 then (if s1 = 0 then [3] else []) ++ (if s2 = 0 then [4] else []) ++ (if s3 = 0 then [5] else []) else if s1 = 1 then [6] else if s2 = 1 then [7] else if s3 = 1 then [8] else []

section
variable {P : Program} {ops : Array Oper} {Q : Exit → Act → World → Prop} {md : Region.Mode} {S : World → Prop}
/-- What the alloc does. -/
def AllocRun (P : Program) (T : TypeId) (zs : Array Value) (o : Oper) (d : Nat) : Prop := o.dst = some d ∧ o.guard = none ∧ ∀ (e : Operand → Value) (w : World), (execOp e o).run P w = .ok (.value (.pointer (some ⟨w.heap.size, 0, none⟩))) (w.alloc (.cells zs T))
/-- What the store does. -/
def StoreRun (P : Program) (T : TypeId) (zs cs : Array Value) (v : Value) (o : Oper) (d x : Nat) : Prop := o.dst = none ∧ o.guard = none ∧ ∀ (e : Operand → Value) (w : World) (g : Nat), e (.tmp d) = .pointer (some ⟨g, 0, none⟩) → e (.tmp x) = v → Blk w g T zs →
  ∃ w', (execOp e o).run P w = .ok .skip w' ∧ Blk w' g T cs ∧ ((∀ b, b ≠ g → w'.heap[b]? = w.heap[b]?) ∧ ∀ u : World, Later u w → u.heap.size ≤ g → Later u w') ∧ w'.heap.size = w.heap.size
theorem wanted_none {o : Oper} (h : o.guard = none) (y : Nat → Option Bool) : Region.wanted o y = true := by simp [Region.wanted, h]
set_option maxHeartbeats 4000000 in
theorem three_go {T : TypeId} {zs cs : Array Value} {v : Value} {o3 o4 o5 o6 o7 o8 : Oper} {d1 d2 d3 x1 x2 x3 : Nat} (h3 : ops[3]? = some o3) (h4 : ops[4]? = some o4) (h5 : ops[5]? = some o5) (h6 : ops[6]? = some o6) (h7 : ops[7]? = some o7) (h8 : ops[8]? = some o8)
    (r3 : AllocRun P T zs o3 d1) (r4 : AllocRun P T zs o4 d2) (r5 : AllocRun P T zs o5 d3) (r6 : StoreRun P T zs cs v o6 d1 x1) (r7 : StoreRun P T zs cs v o7 d2 x2) (r8 : StoreRun P T zs cs v o8 d3 x3)
    (hd : d1 ≠ d2 ∧ d1 ≠ d3 ∧ d2 ≠ d3) (hx : d1 ≠ x1 ∧ d2 ≠ x1 ∧ d3 ≠ x1 ∧ d1 ≠ x2 ∧ d2 ≠ x2 ∧ d3 ≠ x2 ∧ d1 ≠ x3 ∧ d2 ≠ x3 ∧ d3 ≠ x3)
    (hready : ∀ s1 s2 s3, s1 ≤ 2 → s2 ≤ 2 → s3 ≤ 2 → Region.ready md ops (listed3 s1 s2 s3) = ready3 s1 s2 s3) {a0 : Act} {w0 : World} (hS : ∀ w, Later w0 w → S w) (ha : d1 < a0.tmps.size ∧ d2 < a0.tmps.size ∧ d3 < a0.tmps.size) (e1 : a0.eval (.tmp x1) = v) (e2 : a0.eval (.tmp x2) = v) (e3 : a0.eval (.tmp x3) = v)
    (hQ : ∀ g1 g2 g3 w', g1 ≠ g2 → g1 ≠ g3 → g2 ≠ g3 → w0.heap.size ≤ g1 → w0.heap.size ≤ g2 → w0.heap.size ≤ g3 → Blk w' g1 T cs → Blk w' g2 T cs → Blk w' g3 T cs → Later w0 w' → Q .normal (((a0.put (some d1) (.pointer (some ⟨g1, 0, none⟩))).put (some d2) (.pointer (some ⟨g2, 0, none⟩))).put (some d3) (.pointer (some ⟨g3, 0, none⟩))) w') :
    ∀ (n s1 s2 s3 g1 g2 g3 : Nat) (w : World), s1 ≤ 2 → s2 ≤ 2 → s3 ≤ 2 → n = 6 - (s1 + s2 + s3) → OneOf w0 w T zs cs s1 g1 → OneOf w0 w T zs cs s2 g2 → OneOf w0 w T zs cs s3 g3 → (0 < s1 → 0 < s2 → g1 ≠ g2) → (0 < s1 → 0 < s3 → g1 ≠ g3) → (0 < s2 → 0 < s3 → g2 ≠ g3) → Later w0 w →
      wpAnyH P md ops Q S n (listed3 s1 s2 s3) (putOne (putOne (putOne a0 d1 s1 g1) d2 s2 g2) d3 s3 g3) w
  | 0, s1, s2, s3, g1, g2, g3, w, b1, b2, b3, hn, k1, k2, k3, n12, n13, n23, hl => by
    obtain rfl : s1 = 2 := by omega
    obtain rfl : s2 = 2 := by omega
    obtain rfl : s3 = 2 := by omega
    refine wpAnyH_done (by rw [hready 2 2 2 b1 b2 b3]; rfl) ?_ _
    obtain ⟨p1, _, _, q1⟩ := k1 (by omega)
    obtain ⟨p2, _, _, q2⟩ := k2 (by omega)
    obtain ⟨p3, _, _, q3⟩ := k3 (by omega)
    exact hQ g1 g2 g3 w (n12 (by omega) (by omega)) (n13 (by omega) (by omega)) (n23 (by omega) (by omega)) p1 p2 p3 (q1 rfl) (q2 rfl) (q3 rfl) hl
  | n + 1, s1, s2, s3, g1, g2, g3, w, b1, b2, b3, hn, k1, k2, k3, n12, n13, n23, hl => by
    obtain ⟨hd12, hd13, hd23⟩ := hd
    obtain ⟨y1, y2, y3, y4, y5, y6, y7, y8, y9⟩ := hx
    obtain ⟨z1, z2, z3⟩ := ha
    have ih := three_go h3 h4 h5 h6 h7 h8 r3 r4 r5 r6 r7 r8 ⟨hd12, hd13, hd23⟩ ⟨y1, y2, y3, y4, y5, y6, y7, y8, y9⟩ hready hS ⟨z1, z2, z3⟩ e1 e2 e3 hQ n
    -- a block that stays what it is
    have stay : ∀ {w' : World} {s g : Nat}, OneOf w0 w T zs cs s g → w.heap.size ≤ w'.heap.size → (0 < s → w'.heap[g]? = w.heap[g]?) → OneOf w0 w' T zs cs s g := fun k hs he hp => by
      obtain ⟨p, q, r, t⟩ := k hp
      exact ⟨p, by omega, fun e => (he hp).trans (r e), fun e => (he hp).trans (t e)⟩
    have stayA : ∀ {s g : Nat}, OneOf w0 w T zs cs s g → OneOf w0 (w.alloc (.cells zs T)) T zs cs s g := fun k => stay k (by simp) fun hp => (MapKept.heap_alloc w _).2 _ (k hp).2.1
    have newA : OneOf w0 (w.alloc (.cells zs T)) T zs cs 1 w.heap.size := fun _ => ⟨hl.size, by simp, fun _ => Blk.new _ _ _, fun e => by cases e⟩
    have ltG : ∀ {s g : Nat}, OneOf w0 w T zs cs s g → 0 < s → g < w.heap.size := fun k hp => (k hp).2.1
    have hne : ready3 s1 s2 s3 ≠ [] := by
      have : (s1 = 0 ∨ s1 = 1) ∨ (s2 = 0 ∨ s2 = 1) ∨ (s3 = 0 ∨ s3 = 1) := by omega
      unfold ready3
      split
      · rename_i h
        rcases h with h | h | h <;> subst h <;> simp
      · split
        · simp
        · split
          · simp
          · split
            · simp
            · omega
    refine wpAnyH_ready (hready s1 s2 s3 b1 b2 b3) hne fun i hi => ?_
    have hi' : (i = 3 ∧ s1 = 0) ∨ (i = 4 ∧ s2 = 0) ∨ (i = 5 ∧ s3 = 0) ∨ (i = 6 ∧ s1 = 1) ∨ (i = 7 ∧ s2 = 1) ∨ (i = 8 ∧ s3 = 1) := by
      unfold ready3 at hi
      split at hi
      · simp only [List.mem_append] at hi
        rcases hi with (h | h) | h <;> split at h <;> simp at h <;> omega
      · split at hi
        · simp at hi; omega
        · split at hi
          · simp at hi; omega
          · split at hi
            · simp at hi; omega
            · simp at hi
    rcases hi' with ⟨rfl, rfl⟩ | ⟨rfl, rfl⟩ | ⟨rfl, rfl⟩ | ⟨rfl, rfl⟩ | ⟨rfl, rfl⟩ | ⟨rfl, rfl⟩
    · obtain ⟨o1, o2, o3⟩ := r3
      refine AllReadyH.cons (rs := []) h3 (fun K hK => ?_) AllReadyH.nil 3 (by simp)
      rw [if_pos (wanted_none o2 _)]
      unfold Oper.wp
      rw [o3]
      refine hK.out _ _ (hS _ (hl.alloc _)) fun _ => ?_
      rw [o1]
      have := ih 1 s2 s3 w.heap.size g2 g3 _ (by omega) b2 b3 (by omega) newA (stayA k2) (stayA k3) (fun _ hp => by have := ltG k2 hp; omega) (fun _ hp => by have := ltG k3 hp; omega) n23 (hl.alloc _)
      rw [putOne_put (Ne.symm hd13), putOne_put (Ne.symm hd12)]
      exact this
    · obtain ⟨o1, o2, o3⟩ := r4
      refine AllReadyH.cons (rs := []) h4 (fun K hK => ?_) AllReadyH.nil 4 (by simp)
      rw [if_pos (wanted_none o2 _)]
      unfold Oper.wp
      rw [o3]
      refine hK.out _ _ (hS _ (hl.alloc _)) fun _ => ?_
      rw [o1]
      have := ih s1 1 s3 g1 w.heap.size g3 _ b1 (by omega) b3 (by omega) (stayA k1) newA (stayA k3) (fun hp _ => by have := ltG k1 hp; omega) n13 (fun _ hp => by have := ltG k3 hp; omega) (hl.alloc _)
      rw [putOne_put (Ne.symm hd23)]
      exact this
    · obtain ⟨o1, o2, o3⟩ := r5
      refine AllReadyH.cons (rs := []) h5 (fun K hK => ?_) AllReadyH.nil 5 (by simp)
      rw [if_pos (wanted_none o2 _)]
      unfold Oper.wp
      rw [o3]
      refine hK.out _ _ (hS _ (hl.alloc _)) fun _ => ?_
      rw [o1]
      exact ih s1 s2 1 g1 g2 w.heap.size _ b1 b2 (by omega) (by omega) (stayA k1) (stayA k2) newA n12 (fun hp _ => by have := ltG k1 hp; omega) (fun hp _ => by have := ltG k2 hp; omega) (hl.alloc _)
    · obtain ⟨o1, o2, o3⟩ := r6
      obtain ⟨p, q, r, t⟩ := k1 (by omega)
      have ea : (putOne (putOne (putOne a0 d1 1 g1) d2 s2 g2) d3 s3 g3).eval (.tmp d1) = .pointer (some ⟨g1, 0, none⟩) := by
        rw [putOne_eval (Ne.symm hd13), putOne_eval (Ne.symm hd12)]
        exact eval_put_same z1
      have eb : (putOne (putOne (putOne a0 d1 1 g1) d2 s2 g2) d3 s3 g3).eval (.tmp x1) = v := by rw [putOne_eval y3, putOne_eval y2, putOne_eval y1, e1]
      obtain ⟨w', hr, hB, hg, hz⟩ := o3 _ w g1 ea eb (r rfl)
      refine AllReadyH.cons (rs := []) h6 (fun K hK => ?_) AllReadyH.nil 6 (by simp)
      rw [if_pos (wanted_none o2 _)]
      unfold Oper.wp
      rw [hr]
      have hk := hK.out (putOne (putOne (putOne a0 d1 1 g1) d2 s2 g2) d3 s3 g3) w' (hS _ (hg.2 _ hl p)) fun _ => ?_
      · rw [Oper.upon_skip, o1]
        exact hk
      · exact ih 2 s2 s3 g1 g2 g3 w' (by omega) b2 b3 (by omega) (fun _ => ⟨p, by omega, (fun e => absurd e (by omega)), fun _ => hB⟩) (stay k2 (by omega) fun hp => hg.1 _ (fun e => n12 (by omega) hp e.symm)) (stay k3 (by omega) fun hp => hg.1 _ (fun e => n13 (by omega) hp e.symm)) (fun _ h => n12 (by omega) h) (fun _ h => n13 (by omega) h) n23 (hg.2 _ hl p)
    · obtain ⟨o1, o2, o3⟩ := r7
      obtain ⟨p, q, r, t⟩ := k2 (by omega)
      have ea : (putOne (putOne (putOne a0 d1 s1 g1) d2 1 g2) d3 s3 g3).eval (.tmp d2) = .pointer (some ⟨g2, 0, none⟩) := by
        rw [putOne_eval (Ne.symm hd23)]
        exact eval_put_same (by rw [putOne_size]; exact z2)
      have eb : (putOne (putOne (putOne a0 d1 s1 g1) d2 1 g2) d3 s3 g3).eval (.tmp x2) = v := by rw [putOne_eval y6, putOne_eval y5, putOne_eval y4, e2]
      obtain ⟨w', hr, hB, hg, hz⟩ := o3 _ w g2 ea eb (r rfl)
      refine AllReadyH.cons (rs := []) h7 (fun K hK => ?_) AllReadyH.nil 7 (by simp)
      rw [if_pos (wanted_none o2 _)]
      unfold Oper.wp
      rw [hr]
      have hk := hK.out (putOne (putOne (putOne a0 d1 s1 g1) d2 1 g2) d3 s3 g3) w' (hS _ (hg.2 _ hl p)) fun _ => ?_
      · rw [Oper.upon_skip, o1]
        exact hk
      · exact ih s1 2 s3 g1 g2 g3 w' b1 (by omega) b3 (by omega) (stay k1 (by omega) fun hp => hg.1 _ (fun e => n12 hp (by omega) e)) (fun _ => ⟨p, by omega, (fun e => absurd e (by omega)), fun _ => hB⟩) (stay k3 (by omega) fun hp => hg.1 _ (fun e => n23 (by omega) hp e.symm)) (fun h _ => n12 h (by omega)) n13 (fun _ h => n23 (by omega) h) (hg.2 _ hl p)
    · obtain ⟨o1, o2, o3⟩ := r8
      obtain ⟨p, q, r, t⟩ := k3 (by omega)
      have ea : (putOne (putOne (putOne a0 d1 s1 g1) d2 s2 g2) d3 1 g3).eval (.tmp d3) = .pointer (some ⟨g3, 0, none⟩) := eval_put_same (by rw [putOne_size, putOne_size]; exact z3)
      have eb : (putOne (putOne (putOne a0 d1 s1 g1) d2 s2 g2) d3 1 g3).eval (.tmp x3) = v := by rw [putOne_eval y9, putOne_eval y8, putOne_eval y7, e3]
      obtain ⟨w', hr, hB, hg, hz⟩ := o3 _ w g3 ea eb (r rfl)
      refine AllReadyH.cons (rs := []) h8 (fun K hK => ?_) AllReadyH.nil 8 (by simp)
      rw [if_pos (wanted_none o2 _)]
      unfold Oper.wp
      rw [hr]
      have hk := hK.out (putOne (putOne (putOne a0 d1 s1 g1) d2 s2 g2) d3 1 g3) w' (hS _ (hg.2 _ hl p)) fun _ => ?_
      · rw [Oper.upon_skip, o1]
        exact hk
      · exact ih s1 s2 2 g1 g2 g3 w' b1 b2 (by omega) (by omega) (stay k1 (by omega) fun hp => hg.1 _ (fun e => n13 hp (by omega) e)) (stay k2 (by omega) fun hp => hg.1 _ (fun e => n23 hp (by omega) e)) (fun _ => ⟨p, by omega, (fun e => absurd e (by omega)), fun _ => hB⟩) n12 (fun h _ => n13 h (by omega)) (fun h _ => n23 h (by omega)) (hg.2 _ hl p)
theorem three_start {T : TypeId} {zs cs : Array Value} {v : Value} {o3 o4 o5 o6 o7 o8 : Oper} {d1 d2 d3 x1 x2 x3 : Nat} (h3 : ops[3]? = some o3) (h4 : ops[4]? = some o4) (h5 : ops[5]? = some o5) (h6 : ops[6]? = some o6) (h7 : ops[7]? = some o7) (h8 : ops[8]? = some o8)
    (r3 : AllocRun P T zs o3 d1) (r4 : AllocRun P T zs o4 d2) (r5 : AllocRun P T zs o5 d3) (r6 : StoreRun P T zs cs v o6 d1 x1) (r7 : StoreRun P T zs cs v o7 d2 x2) (r8 : StoreRun P T zs cs v o8 d3 x3)
    (hd : d1 ≠ d2 ∧ d1 ≠ d3 ∧ d2 ≠ d3) (hx : d1 ≠ x1 ∧ d2 ≠ x1 ∧ d3 ≠ x1 ∧ d1 ≠ x2 ∧ d2 ≠ x2 ∧ d3 ≠ x2 ∧ d1 ≠ x3 ∧ d2 ≠ x3 ∧ d3 ≠ x3)
    (hready : ∀ s1 s2 s3, s1 ≤ 2 → s2 ≤ 2 → s3 ≤ 2 → Region.ready md ops (listed3 s1 s2 s3) = ready3 s1 s2 s3) {a0 : Act} {w0 : World} (hS : ∀ w, Later w0 w → S w) (ha : d1 < a0.tmps.size ∧ d2 < a0.tmps.size ∧ d3 < a0.tmps.size) (e1 : a0.eval (.tmp x1) = v) (e2 : a0.eval (.tmp x2) = v) (e3 : a0.eval (.tmp x3) = v)
    (hQ : ∀ g1 g2 g3 w', g1 ≠ g2 → g1 ≠ g3 → g2 ≠ g3 → w0.heap.size ≤ g1 → w0.heap.size ≤ g2 → w0.heap.size ≤ g3 → Blk w' g1 T cs → Blk w' g2 T cs → Blk w' g3 T cs → Later w0 w' → Q .normal (((a0.put (some d1) (.pointer (some ⟨g1, 0, none⟩))).put (some d2) (.pointer (some ⟨g2, 0, none⟩))).put (some d3) (.pointer (some ⟨g3, 0, none⟩))) w') (w : World) (hl : Later w0 w) :
    wpAnyH P md ops Q S 6 #[true, true, true, false, false, false, false, false, false] a0 w := by
  have H := three_go h3 h4 h5 h6 h7 h8 r3 r4 r5 r6 r7 r8 hd hx hready hS ha e1 e2 e3 hQ 6 0 0 0 0 0 0 w (by omega) (by omega) (by omega) rfl (fun h => by omega) (fun h => by omega) (fun h => by omega) (fun h => by omega) (fun h => by omega) (fun h => by omega) hl
  simpa [listed3, putOne] using H
end

end Go.Proofs.Ytdhakoecjmaebaa
