/-
  The walks of convex.Negate, hull, Hull and Sum.
-/
import Derived.Test.YtdhakoecjmaebaaGreatZCompP
import Derived.Test.YtdhakoecjmaebaaGreatZConvA
import Derived.Test.YtdhakoecjmaebaaGreatZPl
import Derived.Test.YtdhakoecjmaebaaGreatZNofQ
namespace Go.Proofs.YtdhakoecjmaebaaGreat
open Go.RowKit
set_option linter.unusedSimpArgs false
set_option linter.unusedVariables false

theorem own_low {α : Type} {cells : α → List Value} {sz : Nat} {w : World} {b b' : Nat} {E : TypeId} {v : Value} {l : List α} (h : OwnR w b E sz cells v l) (hb : b' ≤ b) : OwnR w b' E sz cells v l := by
  refine ⟨h.1, ?_⟩
  rcases h.2 with ⟨h1, h2⟩ | ⟨g, cap, cur, hv, hbg, r⟩
  · exact .inl ⟨h1, h2⟩
  · exact .inr ⟨g, cap, cur, hv, by omega, r⟩
theorem own_none {α : Type} {cells : α → List Value} {sz : Nat} {w : World} {b : Nat} {E : TypeId} {n c : Nat} {A : Option Addr} {l : List α} (h : OwnR w b E sz cells (.slice A n c) l) (hA : A = none) : l.length = 0 := by
  subst hA
  rcases h.2 with ⟨_, h2⟩ | ⟨g, cap, cur, hv, _⟩
  · exact h2
  · cases hv
set_option maxHeartbeats 2000000 in
theorem convex_Negate (A : Option Addr) (c : Nat) (ps : List Pt) (w : World) (hn : ps.length ≤ 65536) (hp : Pts w A ps) (hps : ∀ p ∈ ps, NearP 1048576 p) :
    Calls Tryz.prog 66 #[.slice A ps.length c] w (RetPts (ps.map negP) w) := by
  obtain ⟨i0, hi, hz0, hz1, hz2⟩ := info_parts info_spot
  have hmk := fun W => run_make_rows (P := Tryz.prog) 28 29 i0 _ Tryz.underlying28 hi hz0 ps.length (by rw [hz2]; omega) (by omega) W
  rw [hz1] at hmk
  have hms : (madeCells (Value.agg #[Value.int IntKind.i64 0, Value.int IntKind.i64 0]).cells (ps.length * 2)).size = ps.length * 2 := size_madeCells _ _
  generalize madeCells (Value.agg #[Value.int IntKind.i64 0, Value.int IntKind.i64 0]).cells (ps.length * 2) = Z at *
  clear hi hz0 hz1 hz2
  have Hms := Lib.hid hms
  clear hms
  go_enter Tryz.func66, Tryz.ntmps66
  go_wp2
  refine name_world (fun W hW => ?_)
  have hl : Later w W := by rw [hW]; exact (by repeat' (with_reducible first | exact Later.refl _ | assumption | refine Later.drew ?_ | refine Later.drewN ?_ _ | refine Later.alloc ?_ _ | refine Later.put ?_ (by omega) _ | refine Later.trans ?_ (by assumption)))
  have hR : RowP W w.heap.size ps.length 0 (fun i => i) negP ps := by
    refine ⟨fun i => Z.getD i undef, ?_, fun i p _ h => by omega⟩
    have := World.rowIs_alloc w Z 29 (fun i => Z.getD i undef) (fun i hi => by simp [hi])
    rw [Hms.out] at this
    rw [hW]
    exact this
  clear hW hmk
  generalize hNe : w.heap.size = N at *
  have HN := Lib.hid hNe
  clear hNe
  go_loopw [11] (fun iv wr => ∃ k : Nat, k ≤ ps.length ∧ iv = .int .i64 k ∧ Later w wr ∧ RowP wr N ps.length k (fun i => i) negP ps) (fun iv _ => ps.length - (intOf iv).toNat)
  case atStart => exact ⟨0, by omega, rfl, hl, hR⟩
  case round =>
    clear hl hR
    obtain ⟨k, hk, rfl, hb, hR⟩ := hrel
    by_cases hlt : k < ps.length
    · obtain ⟨b, o, rfl, e1, e2⟩ := (hp.later hb).at_ hlt
      have hbz : b < wr.heap.size := World.block_lt_of_cell? _ _ e1
      have hpk := hps _ (List.getElem_mem hlt)
      have Hk := Lib.hid (List.getElem?_eq_getElem hlt)
      generalize ps[k] = p at *
      obtain ⟨px, py⟩ := p
      unfold NearP at hpk
      simp only [] at hpk e1 e2
      obtain ⟨⟨u, v, r0, r1⟩, f0, f1, hz⟩ := hR.cell hlt
      have HR := Lib.hid hR
      have hk0 : (0 : Int) ≤ (k : Int) := by omega
      have hk1 : (k : Int) < (ps.length : Int) := by omega
      clear hR
      go_wp2
      go_roundw
      case rel => exact ⟨k + 1, by omega, by go_num, ((hb.put (by rw [HN.out]; omega) _).put (by rw [HN.out]; omega) _).alloc _, (HR.out.put Hk.out (fun _ _ _ _ h => h) rfl rfl).alloc _⟩
      case measure => simp [intOf]; omega
    · go_wp2
      go_ret
      refine ⟨some ⟨N, 0, none⟩, ps.length, by simp, by simp, by unfold maxLen; omega, fun h0 => ⟨N, 0, rfl, fun i q hq => ?_⟩, hb⟩
      rw [List.getElem?_map, Option.map_eq_some_iff] at hq
      obtain ⟨p, hp', rfl⟩ := hq
      obtain ⟨F, h1, h2⟩ := hR
      have hil := (List.getElem?_eq_some_iff.1 hp').1
      obtain ⟨a, b⟩ := h2 i p hp' (by omega)
      rw [Nat.zero_add, h1.cell (by omega), h1.cell (by omega), a, b]
      exact ⟨rfl, rfl⟩

set_option maxHeartbeats 1000000 in
theorem compact_any (base : Nat) (v : Value) (l : List Pt) (w : World) (h : OwnR w base 29 2 pt2 v l) (hl : l.length ≤ 65536) :
    Calls Tryz.prog 152 #[v] w (fun e w' => ∃ v', e = .returned v' ∧ OwnR w' base 29 2 pt2 v' (compP l) ∧ w.grownBy w' v.ownBlock ∧ v'.ownBlock = v.ownBlock) := by
  obtain ⟨A, c, rfl, hc, _⟩ := h.form pt2_len
  rcases h.2 with ⟨h1, h2⟩ | ⟨g, cap, cur, hv, _⟩
  · have e0 : l = [] := List.eq_nil_of_length_eq_zero h2
    subst e0
    cases h1
    have Ho := Lib.hid h
    clear h hc
    simp only [List.length_nil] at *
    go_enter Tryz.func152, Tryz.ntmps152
    go_wp2
    go_ret
    exact ⟨_, rfl, Ho.out, World.grownBy.refl _ _, rfl⟩
  · cases hv
    refine (compact_own base g c l w h hl hc).mono ?_
    rintro e w' ⟨rfl, ho, hg⟩
    exact ⟨_, rfl, ho, hg, rfl⟩

theorem own_pt {w : World} {base : Nat} {v : Value} {l : List Pt} : Own w base v l ↔ OwnR w base 29 2 pt2 v l := by unfold Own OwnR; rw [flat_pt2]
def HullPost (r : List Pt × Bool) (w : World) (e : Ending) (w' : World) : Prop := ∃ v, e = .returned (.tuple #[v, .bool r.2]) ∧ OwnR w' w.heap.size 29 2 pt2 v r.1 ∧ Later w w'
set_option maxHeartbeats 4000000 in
set_option maxRecDepth 100000 in
theorem convex_hull (A : Option Addr) (c : Nat) (l : List Pt) (w : World) (hA : A = none → l = []) (hp : Pts w A l) (hl : l.length ≤ 4096) (hsm : ∀ p ∈ l, SmP p) :
    Calls Tryz.prog 110 #[.slice A l.length c] w (HullPost (hullP l) w) := by
  have HR := Lib.hid (show hullP l = if (compP (sortP l)).length < 3 then ([], false) else if (bordP (compP (sortP l)) ++ bordP (compP (sortP l)).reverse).length < 3 then ([], false) else (bordP (compP (sortP l)) ++ bordP (compP (sortP l)).reverse, true) from rfl)
  have hcl : (compP (sortP l)).length ≤ 4096 := by have := compP_len (sortP l); rw [sort_len] at this; omega
  have hcs : ∀ p ∈ compP (sortP l), SmP p := fun p h => hsm p (sort_mem.1 (compP_sub h))
  have HC := Lib.hid (clone_spots A c l w hA hp (by omega))
  have HS := Lib.hid (fun v W (h : OwnR W w.heap.size 29 2 pt2 v l) => sort_any 151 eg_convex convex_cmp w.heap.size v l W h (by omega))
  have HK := Lib.hid (fun v W (h : OwnR W w.heap.size 29 2 pt2 v (sortP l)) => compact_any w.heap.size v (sortP l) W h (by rw [sort_len]; omega))
  clear hsm hp hA
  generalize hullP l = r at *
  generalize compP (sortP l) = m at *
  go_enter Tryz.func110, Tryz.ntmps110
  go_upto_region 2 with (go_at_call 150; (with_reducible refine HC.out.mono ?_); rintro e w1 ⟨v1, rfl, ho1, hl1⟩)
  have Ho1 := Lib.hid ho1
  clear ho1
  go_upto_region 3 with (go_at_call 91; (with_reducible refine (HS.out _ _ Ho1.out).mono ?_); rintro e w2 ⟨rfl, ho2, hg2⟩)
  have hl2 : Later w w2 := Later.grown hl1 hg2 (fun g hg => (World.ownsRow.lt Ho1.out g hg).1)
  have Ho2 := Lib.hid ho2
  clear ho2 hg2
  go_upto_region 4 with (go_at_call 152; (with_reducible refine (HK.out _ _ Ho2.out).mono ?_); rintro e w3 ⟨v3, rfl, ho3, hg3, hv3⟩)
  have hl3 : Later w w3 := Later.grown hl2 hg3 (fun g hg => (World.ownsRow.lt Ho2.out g hg).1)
  clear hg3 hv3 hl2 hl1
  obtain ⟨A3, c3, rfl, hc3, hm3, hx3⟩ := ho3.form pt2_len
  by_cases h3 : m.length < 3
  · have HR2 := Lib.hid (show r = ([], false) by rw [HR.out, if_pos h3])
    clear ho3 hx3
    go_wp2
    go_ret2
    refine ⟨.slice none 0 0, by rw [HR2.out]; rfl, ?_, hl3⟩
    rw [HR2.out]
    exact World.ownsRow_nil _ _ _ _
  · have Ho3 := Lib.hid ho3
    obtain ⟨g, rfl, hg1, hg2, hg3, hg4⟩ := hx3 (by omega)
    have hrev : (compP (sortP l)).reverse = (compP (sortP l)).reverse := rfl
    have Pm := Lib.hid (show Pts w3 (some ⟨g, 0, none⟩) m by
      obtain ⟨A', c', e, _, _, h⟩ := ho3.pts
      cases e
      exact h)
    have HB1 := Lib.hid (convex_border (some ⟨g, 0, none⟩) c3 m w3 hcl (by omega) Pm.out hcs)
    have HRv := Lib.hid (fun W (h : OwnR W w.heap.size 29 2 pt2 (.slice (some ⟨g, 0, none⟩) m.length c3) m) => slices_Reverse w.heap.size g c3 m W (by omega) (by omega) (own_pt.2 h))
    rw [rev_reverse] at HRv
    clear ho3 hg3 hg4 Pm
    go_upto_region 7 with (go_at_call 153; (with_reducible refine HB1.out.mono ?_); rintro e w4 ⟨v4, rfl, ho4, hl4⟩)
    have Ho4 := Lib.hid (own_low ho4 hl3.size)
    have Hne := Lib.hid (show v4.ownBlock ≠ some g from fun e => by have := (World.ownsRow.lt ho4 g e).1; omega)
    have Ho3b := Lib.hid (Ho3.out.later hl4)
    clear ho4
    go_upto_region 8 with (go_at_call 147; (with_reducible refine (HRv.out _ Ho3b.out).mono ?_); rintro e w5 ⟨rfl, ho5, hl5, hg5⟩)
    have Ho4b := Lib.hid (OwnR.ofBlock Ho4.out (fun g' e => hg5.block g' (World.ownsRow.lt Ho4.out g' e).2 (fun e2 => Hne.out (e.trans e2))))
    have hl35 : Later w w5 := Later.grown (hl3.trans hl4) hg5 (fun g' e => by cases e; exact hg1)
    have HB2 := convex_border (some ⟨g, 0, none⟩) c3 m.reverse w5 (by rw [List.length_reverse]; exact hcl) (by rw [List.length_reverse]; omega) (by
      obtain ⟨A', c', e, _, _, h⟩ := OwnR.pts (own_pt.1 ho5)
      cases e
      exact h) (fun p h => hcs p (List.mem_reverse.1 h))
    rw [List.length_reverse] at HB2
    have HB2 := Lib.hid HB2
    have hb1 := bordP_len m
    have hb2 := bordP_len m.reverse
    rw [List.length_reverse] at hb2
    clear ho5 hl5 hg5
    go_upto_region 9 with (first | (go_at_call 153; (with_reducible refine HB2.out.mono ?_); rintro e w6 ⟨v6, rfl, ho6, hl6⟩; obtain ⟨A6, c6, rfl, _, _, hp6⟩ := OwnR.pts ho6; have Hn6 := Lib.hid (fun h => own_none ho6 h); have Ho4c := Lib.hid (Ho4b.out.later hl6); have hl36 := hl35.trans hl6; clear ho6; have Hp6 := Lib.hid hp6.src; clear hp6) | (at_builtin; refine wpList_append_rec slt_spot pt2_len pt2_one rfl (.tmp 18) (.tmp 20) rfl (base := w.heap.size) (l := bordP m) rfl Ho4c.out (A := A6) (c := c6) (bordP m.reverse) rfl Hn6.out Hp6.out (by omega) hl36.size ?_; intro A7 c7 w7 ho7 hg7))
    have hl7 : Later w w7 := Later.grown hl36 hg7 (fun g' e => (World.ownsRow.lt Ho4c.out g' e).1)
    have Ho7 := Lib.hid ho7
    clear ho7 hg7
    have hln : (bordP m ++ bordP m.reverse).length = (bordP m).length + (bordP m.reverse).length := List.length_append
    rw [hln] at HR Ho7
    clear hln
    generalize bordP m ++ bordP m.reverse = q at *
    by_cases hq : (bordP m).length + (bordP m.reverse).length < 3
    · have HR2 := Lib.hid (show r = ([], false) by rw [HR.out, if_neg h3, if_pos hq])
      have d0 : decide (((bordP m).length : Int) + ((bordP m.reverse).length : Int) < 3) = true := by simp; omega
      go_wp2
      go_ret2
      refine ⟨.slice none 0 0, by rw [HR2.out]; rfl, ?_, hl7⟩
      rw [HR2.out]
      exact World.ownsRow_nil _ _ _ _
    · have HR2 := Lib.hid (show r = (q, true) by rw [HR.out, if_neg h3, if_neg hq])
      have d0 : decide (((bordP m).length : Int) + ((bordP m.reverse).length : Int) < 3) = false := by simp; omega
      go_wp2
      go_ret2
      refine ⟨_, by rw [HR2.out]; rfl, ?_, hl7⟩
      rw [HR2.out]
      exact Ho7.out

/-- The hull is there. -/
def PtsPost (r : List Pt) (w : World) (e : Ending) (w' : World) : Prop := ∃ v, e = .returned (.tuple #[v, .int .i64 0]) ∧ OwnR w' w.heap.size 29 2 pt2 v r ∧ Later w w'
theorem chull_zero {l : List Pt} (h : (chullR l).2 = 0) : l.length ≤ 160 ∧ l.any out4 = false ∧ (hullP l).2 = true ∧ (chullR l).1 = (hullP l).1 := by
  unfold chullR at h ⊢
  split at h
  · cases h
  · split at h
    · cases h
    · split at h
      · rename_i h1 h2 h3
        rw [if_neg h1, if_neg h2, if_pos h3]
        exact ⟨by omega, by simpa using h2, h3, rfl⟩
      · cases h
theorem out4_sm {p : Pt} (h : out4 p = false) : SmP p := by
  unfold out4 at h
  simp only [Bool.or_eq_false_iff, decide_eq_false_iff_not] at h
  unfold SmP Sm
  omega
theorem any_sm {l : List Pt} (h : l.any out4 = false) : ∀ p ∈ l, SmP p := fun p hp => out4_sm (by
  rw [List.any_eq_false] at h
  simpa using h p hp)
set_option maxHeartbeats 2000000 in
theorem convex_Hull_ok (A : Option Addr) (c : Nat) (l : List Pt) (w : World) (hA : A = none → l = []) (hp : Pts w A l) (h0 : (chullR l).2 = 0) :
    Calls Tryz.prog 109 #[.slice A l.length c] w (PtsPost (chullR l).1 w) := by
  obtain ⟨h1, h2, h3, h4⟩ := chull_zero h0
  have HC := Lib.hid (fun W (hW : Later w W) => contains_out4 A c l W (by omega) (hp.later hW))
  have HH := Lib.hid (fun W (hW : Later w W) => convex_hull A c l W hA (hp.later hW) (by omega) (any_sm h2))
  rw [h2] at HC
  rw [h4]
  unfold HullPost at HH
  rw [h3] at HH
  clear h2 h3 h4 h0 hp hA
  generalize (hullP l).1 = r at *
  go_enter Tryz.func109, Tryz.ntmps109
  go_wp2_with (first | (go_at_call 56; (with_reducible refine (HC.out _ (by repeat' (with_reducible first | exact Later.refl _ | assumption | refine Later.drew ?_ | refine Later.drewN ?_ _ | refine Later.alloc ?_ _ | refine Later.put ?_ (by omega) _ | refine Later.trans ?_ (by assumption)))).mono ?_); rintro e w1 ⟨rfl, hb1⟩) | (go_at_call 110; (with_reducible refine (HH.out _ (by repeat' (with_reducible first | exact Later.refl _ | assumption | refine Later.drew ?_ | refine Later.drewN ?_ _ | refine Later.alloc ?_ _ | refine Later.put ?_ (by omega) _ | refine Later.trans ?_ (by assumption)))).mono ?_); rintro e w2 ⟨v2, rfl, ho2, hb2⟩))
  go_ret2
  exact ⟨_, rfl, own_low ho2 hb1.size, hb1.trans hb2⟩
theorem msum_zero {a b : List Pt} (h : (msumR a b).2 = 0) : (chullR a).2 = 0 ∧ (chullR b).2 = 0 ∧ ((hullP (sumsP (chullR a).1 (chullR b).1)).1).any out4 = false ∧ ((hullP (sumsP (chullR a).1 (chullR b).1)).1).length ≤ 160 ∧ (msumR a b).1 = (hullP (sumsP (chullR a).1 (chullR b).1)).1 := by
  unfold msumR at h ⊢
  split at h
  · rename_i h1; exact absurd h h1
  · split at h
    · rename_i h1; exact absurd h h1
    · split at h
      · cases h
      · split at h
        · cases h
        · rename_i h1 h2 h3 h4
          rw [if_neg h1, if_neg h2, if_neg h3, if_neg h4]
          exact ⟨by simpa using h1, by simpa using h2, by simpa using h3, by omega, rfl⟩
theorem sums_next {a b : List Pt} {k : Nat} (h : k < a.length) : sumsP (a.take (k + 1)) b = sumsP (a.take k) b ++ b.map (plusP a[k]) := by
  unfold sumsP
  rw [List.take_add_one, List.getElem?_eq_getElem h, List.flatMap_append]
  simp
theorem sums_len (a b : List Pt) : (sumsP a b).length = a.length * b.length := by
  unfold sumsP
  induction a with
  | nil => simp
  | cons x a ih => rw [List.flatMap_cons, List.length_append, ih, List.length_map, List.length_cons, Nat.succ_mul, Nat.add_comm]
theorem map_next {f : Pt → Pt} {b : List Pt} {k : Nat} (h : k < b.length) : (b.take (k + 1)).map f = (b.take k).map f ++ [f b[k]] := by
  rw [List.take_add_one, List.getElem?_eq_getElem h, List.map_append]
  rfl
end Go.Proofs.YtdhakoecjmaebaaGreat
