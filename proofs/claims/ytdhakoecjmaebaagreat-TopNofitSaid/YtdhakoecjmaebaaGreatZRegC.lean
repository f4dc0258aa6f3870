/-
  The walks of nofit.Regions and nofit.Blocks.
-/
import Derived.Test.YtdhakoecjmaebaaGreatZRegB
import Derived.Test.YtdhakoecjmaebaaGreatZHullB
import Derived.Test.YtdhakoecjmaebaaGreatZStripN
namespace Go.Proofs.YtdhakoecjmaebaaGreat
open Go.RowKit
set_option linter.unusedSimpArgs false
set_option linter.unusedVariables false

/- Rows of a list under way. -/
def Rows2 (w : World) (v : Value) (l : List PV) : Prop := ∀ u ∈ l, PvOk w u ∧ Fence v.ownBlock w.heap.size u.A
theorem Rows2.later {w w' : World} {v : Value} {l : List PV} (h : Rows2 w v l) (k : Later w w') : Rows2 w' v l := fun u hu => ⟨(h u hu).1.later k, (h u hu).2.mono k.size⟩
theorem rows2_app {w w' : World} {v v' : Value} {l : List PV} {u0 : PV} (h : Rows2 w v l) (h0 : PvOk w u0 ∧ Fence v.ownBlock w.heap.size u0.A) (hg : w.grownBy w' v.ownBlock) (hf : v'.ownBlock = v.ownBlock ∨ v'.ownBlock = some w.heap.size) : Rows2 w' v' (l ++ [u0]) := by
  intro u hu
  have key : PvOk w u ∧ Fence v.ownBlock w.heap.size u.A := by
    rcases List.mem_append.1 hu with k | k
    · exact h u k
    · rw [List.mem_singleton.1 k]; exact h0
  obtain ⟨⟨k1, k2, k3⟩, k4⟩ := key
  exact ⟨⟨k1, k2, k3.grown hg k4⟩, k4.fresh hf (Nat.le_refl _) hg.size⟩

/- The sum of a triangle and a negated one has no error. -/
theorem out_near {p : Pt} (h : outP p = false) : NearP 1048576 p := by
  unfold outP outsideB at h
  simp only [Bool.or_eq_false_iff, decide_eq_false_iff_not] at h
  unfold NearP
  omega
theorem near_out4 {p : Pt} (h : NearP 2097152 p) : out4 p = false := by
  unfold NearP at h
  unfold out4
  simp only [Bool.or_eq_false_iff, decide_eq_false_iff_not]
  omega
theorem neg_near {n : Int} {p : Pt} (h : NearP n p) : NearP n (negP p) := by unfold NearP negP at *; simp only []; omega
theorem chull_tri {t : List Pt} {a b c : Pt} (ht : t = [a, b, c]) (hc : crossP a b c ≠ 0) (hn : ∀ p ∈ t, NearP 1048576 p) : (chullR t).2 = 0 := by
  subst ht
  unfold chullR
  have h2 : ¬ ([a, b, c] : List Pt).any out4 = true := by
    rw [List.any_eq_true]
    rintro ⟨p, hp, k⟩
    rw [near_out4 (p := p) (by have := hn p hp; unfold NearP at *; omega)] at k
    cases k
  rw [if_neg (by simp), if_neg h2, if_pos (hull_tri hc)]
theorem tri_neg {t : List Pt} (ht : TriL t) : ∃ a b c, t.map negP = [a, b, c] ∧ crossP a b c ≠ 0 := by
  obtain ⟨a, b, c, rfl, h⟩ := ht
  refine ⟨negP a, negP b, negP c, rfl, ?_⟩
  have : crossP (negP a) (negP b) (negP c) = crossP a b c := by unfold crossP crossI negP; grind
  omega
theorem sums_near {F S : List Pt} (nF : ∀ p ∈ F, NearP 1048576 p) (nS : ∀ p ∈ S, NearP 1048576 p) : ∀ p ∈ sumsP F S, NearP 2097152 p := by
  intro p hp
  obtain ⟨u, hu, v, hv, rfl⟩ := sums_mem.1 hp
  have h1 := nF u hu
  have h2 := nS v hv
  unfold NearP at *
  unfold plusP
  simp only []
  omega
theorem msum_tri {s t : List Pt} (hs : TriL s) (ht : TriL t) (ns : ∀ p ∈ s, NearP 1048576 p) (nt : ∀ p ∈ t, NearP 1048576 p) :
    (msumR s (t.map negP)).2 = 0 ∧ (msumR s (t.map negP)).1.length ≤ 72 ∧ ∀ p ∈ (msumR s (t.map negP)).1, NearP 2097152 p := by
  have nt' : ∀ p ∈ t.map negP, NearP 1048576 p := by
    intro p hp
    obtain ⟨q, hq, rfl⟩ := List.mem_map.1 hp
    exact neg_near (nt q hq)
  have h1 : (chullR s).2 = 0 := by
    obtain ⟨a, b, c, e, h⟩ := hs
    exact chull_tri e (by omega) ns
  have h2 : (chullR (t.map negP)).2 = 0 := by
    obtain ⟨a, b, c, e, h⟩ := tri_neg ht
    exact chull_tri e h nt'
  have l1 : (chullR s).1.length ≤ 6 := by
    rw [(chull_zero h1).2.2.2]
    have := hull_len s
    obtain ⟨a, b, c, e, h⟩ := hs
    have : s.length = 3 := by rw [e]; rfl
    omega
  have l2 : (chullR (t.map negP)).1.length ≤ 6 := by
    rw [(chull_zero h2).2.2.2]
    have := hull_len (t.map negP)
    rw [List.length_map] at this
    obtain ⟨a, b, c, e, h⟩ := ht
    have : t.length = 3 := by rw [e]; rfl
    omega
  have n1 : ∀ p ∈ (hullP (sumsP (chullR s).1 (chullR (t.map negP)).1)).1, NearP 2097152 p := fun p hp => sums_near (fun q hq => ns q (chull_sub hq)) (fun q hq => nt' q (chull_sub hq)) p (hull_sub hp)
  have l3 : (hullP (sumsP (chullR s).1 (chullR (t.map negP)).1)).1.length ≤ 72 := by
    have := hull_len (sumsP (chullR s).1 (chullR (t.map negP)).1)
    rw [sums_len] at this
    have : (chullR s).1.length * (chullR (t.map negP)).1.length ≤ 6 * 6 := Nat.mul_le_mul l1 l2
    omega
  have h3 : ¬ ((hullP (sumsP (chullR s).1 (chullR (t.map negP)).1)).1).any out4 = true := by
    rw [List.any_eq_true]
    rintro ⟨p, hp, k⟩
    rw [near_out4 (n1 p hp)] at k
    cases k
  unfold msumR
  rw [if_neg (by omega), if_neg (by omega), if_neg h3, if_neg (by omega)]
  exact ⟨rfl, l3, n1⟩

/-- The rows of all pairs, in the order in which they come. -/
def rowsOf (F S : List (List Pt)) : List (List Pt) := F.flatMap fun s => S.map fun t => (msumR s (t.map negP)).1
theorem rows_step {F S : List (List Pt)} {k : Nat} (h : k < F.length) : rowsOf (F.take (k + 1)) S = rowsOf (F.take k) S ++ S.map fun t => (msumR F[k] (t.map negP)).1 := by
  unfold rowsOf
  rw [List.take_add_one, List.getElem?_eq_getElem h, List.flatMap_append]
  simp
theorem mapR_next {β : Type} {f : List Pt → β} {b : List (List Pt)} {k : Nat} (h : k < b.length) : (b.take (k + 1)).map f = (b.take k).map f ++ [f b[k]] := by
  rw [List.take_add_one, List.getElem?_eq_getElem h, List.map_append]
  rfl
theorem rowsOf_len (F S : List (List Pt)) : (rowsOf F S).length = F.length * S.length := by
  unfold rowsOf
  induction F with
  | nil => simp
  | cons x F ih => rw [List.flatMap_cons, List.length_append, ih, List.length_map, List.length_cons, Nat.succ_mul, Nat.add_comm]
theorem splitR_cnt2 (ps : List Pt) : (splitR ps).1.length ≤ ps.length + 1 := by
  unfold splitR
  by_cases hok : checkI ps = 0
  · rw [if_pos hok]
    cases hs : splitOf ps with
    | none => exact Nat.zero_le _
    | some ts =>
      have hlen := normal_len ps
      have hle := corners_le ps
      have := splitGo_cnt _ _ _ _ hs
      simp only [List.length_nil] at this
      show ts.length ≤ ps.length + 1
      omega
  · rw [if_neg hok]
    exact Nat.zero_le _
theorem regs_cnt (a b : List Pt) : (regsR a b).length ≤ (a.length + 1) * (b.length + 1) := by
  rw [show regsR a b = rowsOf (splitR a).1 (splitR b).1 from rfl, rowsOf_len]
  exact Nat.mul_le_mul (splitR_cnt2 a) (splitR_cnt2 b)
theorem splitR_near (ps : List Pt) : ∀ t ∈ (splitR ps).1, ∀ p ∈ t, NearP 1048576 p := fun t ht p hp => out_near (splitR_in ps t ht p hp)
theorem regs_ok {a b r : List Pt} (h : r ∈ regsR a b) : r.length ≤ 72 ∧ ∀ p ∈ r, NearP 2097152 p := by
  unfold regsR at h
  rw [List.mem_flatMap] at h
  obtain ⟨s, hs, h⟩ := h
  obtain ⟨t, ht, rfl⟩ := List.mem_map.1 h
  exact (msum_tri (splitR_tri _ s hs) (splitR_tri _ t ht) (splitR_near _ s hs) (splitR_near _ t ht)).2

theorem sort_rows_none (A : Option Addr) (c : Nat) (w : World) : Calls Tryz.prog 67 #[.slice A 0 c, .func (.func 68) #[] #[]] w fun e w' => e = .returned (.tuple #[]) ∧ w' = w := by
  have h := AnyF.slices_SortFunc_none (P := Tryz.prog) (ρ := sortRw_ren) { sortRw with } A c (.func (.func 68) #[] #[]) w
  change Calls Tryz.prog 67 _ _ _ at h
  exact h
theorem compact_rows_none (A : Option Addr) (c : Nat) (w : World) : Calls Tryz.prog 71 #[.slice A 0 c, .func (.func 72) #[] #[]] w fun e w' => e = .returned (.slice A 0 c) ∧ w' = w := by
  go_enter Tryz.func71, Tryz.ntmps71
  go_wp2
  go_ret
  exact ⟨rfl, rfl⟩
def RegPost (R : List (List Pt)) (w : World) (e : Ending) (w' : World) : Prop := ∃ A c rs, e = .returned (.tuple #[.slice A rs.length c, .int .i64 0]) ∧ rs.length ≤ c ∧ Polys w' A rs ∧ (∀ r, r ∈ rs ↔ r ∈ R) ∧ rs.length ≤ R.length ∧ Later w w'
set_option maxHeartbeats 4000000 in
set_option maxRecDepth 100000 in
theorem nofit_Regions (A B : Option Addr) (ca cb : Nat) (a b : List Pt) (w : World) (ha : a.length ≤ ca) (hb : b.length ≤ cb) (pa : Pts w A a) (pb : Pts w B b) (ka : checkI a = 0) (kb : checkI b = 0) (na : a.length ≤ 65536) (nb : b.length ≤ 65536) :
    Calls Tryz.prog 33 #[.slice A a.length ca, .slice B b.length cb] w (RegPost (regsR a b) w) := by
  have H1 := Lib.hid (triangle_Split A ca a w (by omega) ha pa)
  have H2 := Lib.hid (fun W (hW : Later w W) => triangle_Split B cb b W (by omega) hb (pb.later hW))
  unfold SplitPost2 at H1 H2
  rw [splitR_err, ka] at H1
  rw [splitR_err, kb] at H2
  have HR := Lib.hid (show regsR a b = rowsOf (splitR a).1 (splitR b).1 from rfl)
  have HB := Lib.hid (fun r (hr : r ∈ regsR a b) => (regs_ok hr).1)
  have hF := splitR_cnt a
  have hS := splitR_cnt b
  have HT := Lib.hid (fun s (hs : s ∈ (splitR a).1) t (ht : t ∈ (splitR b).1) => msum_tri (splitR_tri _ s hs) (splitR_tri _ t ht) (splitR_near _ s hs) (splitR_near _ t ht))
  have HF := Lib.hid (fun s (hs : s ∈ (splitR a).1) => (show s.length = 3 ∧ ∀ p ∈ s, NearP 1048576 p from ⟨by obtain ⟨x, y, z, e, _⟩ := splitR_tri _ s hs; rw [e]; rfl, splitR_near _ s hs⟩))
  have HS := Lib.hid (fun s (hs : s ∈ (splitR b).1) => (show s.length = 3 ∧ ∀ p ∈ s, NearP 1048576 p from ⟨by obtain ⟨x, y, z, e, _⟩ := splitR_tri _ s hs; rw [e]; rfl, splitR_near _ s hs⟩))
  clear ka kb pa pb
  generalize regsR a b = R at *
  generalize (splitR a).1 = F at *
  generalize (splitR b).1 = S at *
  go_enter Tryz.func33, Tryz.ntmps33
  go_upto_region 4 with (go_at_call 63; (with_reducible refine H1.out.mono ?_); rintro e w1 ⟨A1, c1, rfl, _, P1, hl1⟩)
  go_upto_region 8 with (go_at_call 63; (with_reducible refine (H2.out _ hl1).mono ?_); rintro e w2 ⟨A2, c2, rfl, _, P2, hl2⟩)
  have P1b := P1.later hl2
  have hl12 := hl1.trans hl2
  clear P1 hl1 hl2 H1 H2
  go_upto_region 9 with fail
  go_loopw [9, 34] (fun v iv wr => ∃ (k : Nat) (acc : List PV), k ≤ F.length ∧ iv = .int .i64 k ∧ OwnR wr w2.heap.size 28 1 PV.cells v acc ∧ Hid (acc.map PV.ps = rowsOf (F.take k) S) ∧ Hid (Rows2 wr v acc) ∧ Later w2 wr) (fun _ iv _ => F.length - (intOf iv).toNat)
  case atStart => exact ⟨0, [], by omega, rfl, World.ownsRow_nil _ _ _ _, Lib.hid rfl, Lib.hid (fun u hu => by cases hu), Later.refl _⟩
  case round =>
    obtain ⟨k, acc, hk, rfl, ho, Hac, Hrw, hb⟩ := hrel
    have Ho := Lib.hid ho
    clear ho
    by_cases hlt : k < F.length
    · obtain ⟨b1, o1, A4, c4, rfl, e1, e2, e3⟩ := P1b.at_ hlt
      have e1 := hb.cell e1
      have zb := World.block_lt_of_cell? _ _ e1
      have Hnx := Lib.hid (rows_step (S := S) hlt)
      have hal : acc.length ≤ 41 * 41 := by
        have := congrArg List.length Hac.out
        rw [List.length_map, rowsOf_len, List.length_take] at this
        rw [this]
        exact Nat.mul_le_mul (by omega) hS
      have HTk := Lib.hid (HT.out _ (List.getElem_mem hlt))
      obtain ⟨f3, fn⟩ := HF.out _ (List.getElem_mem hlt)
      have Hfn := Lib.hid fn
      have Hf3 := Lib.hid f3
      have Hfp := Lib.hid e3
      have hcap := e2
      generalize F[k] = s at *
      clear fn e3 e2 f3
      go_upto_region 12 with fail
      have Hhb := Lib.hid hb
      clear e1 zb
      have Ho0 := Lib.hid Ho.out
      go_loopw [9, 40] (fun v jv wq => ∃ (j : Nat) (cur : List PV), j ≤ S.length ∧ jv = .int .i64 j ∧ OwnR wq w2.heap.size 28 1 PV.cells v cur ∧ Hid (cur.map PV.ps = acc.map PV.ps ++ (S.take j).map fun t => (msumR s (t.map negP)).1) ∧ Hid (Rows2 wq v cur) ∧ Later w2 wq) (fun _ jv _ => S.length - (intOf jv).toNat)
      case atStart => exact ⟨0, acc, by omega, rfl, Ho.out, Lib.hid (by simp), Hrw, Hhb.out⟩
      case round =>
        obtain ⟨j, cur, hj, rfl, ho, Hcu, Hrq, hbq⟩ := hrel
        have Ho2 := Lib.hid ho
        clear ho
        by_cases hjl : j < S.length
        · obtain ⟨b2, o2, A5, c5, rfl, x1, x2, x3⟩ := P2.at_ hjl
          have x1 := hbq.cell x1
          have zb := World.block_lt_of_cell? _ _ x1
          have Hmn := Lib.hid (mapR_next (f := fun t => (msumR s (t.map negP)).1) hjl)
          have hcl : cur.length ≤ 41 * 41 + 41 := by
            have := congrArg List.length Hcu.out
            rw [List.length_map, List.length_append, List.length_map, List.length_map, List.length_take] at this
            omega
          obtain ⟨m1, m2, m3⟩ := HTk.out _ (List.getElem_mem hjl)
          obtain ⟨s3, sn⟩ := HS.out _ (List.getElem_mem hjl)
          have Hs3 := Lib.hid s3
          clear s3
          generalize S[j] = t at *
          have HN := Lib.hid (fun W (hW : Later wr W) => convex_Negate A5 c5 t W (by have := Hs3.out; omega) ((x3.later hbq).later hW) sn)
          have HM := Lib.hid (fun (A6 : Option Addr) (c6 : Nat) (W : World) (hW : Later wr W) (h0 : A6 = none → t.map negP = []) (p6 : Pts W A6 (t.map negP)) => (by
            have := convex_Sum_ok A4 A6 c4 c6 s (t.map negP) W (fun e => by
              subst e
              obtain ⟨_, _, e, _⟩ := Hfp.out (by have := Hf3.out; omega)
              cases e) h0 ((Hfp.out.later hbq).later hW) p6 Hfn.out (fun p hp => by
              obtain ⟨q, hq, rfl⟩ := List.mem_map.1 hp
              exact neg_near (sn q hq)) (by have := Hf3.out; omega) (by rw [List.length_map]; have := Hs3.out; omega) m1
            rw [List.length_map] at this
            exact this : Calls Tryz.prog 65 #[.slice A4 s.length c4, .slice A6 t.length c6] W (PtsPost (msumR s (t.map negP)).1 W)))
          clear x3 m1
          have Htl := Lib.hid (show (t.map negP).length = t.length from List.length_map _)
          generalize (msumR s (t.map negP)).1 = r at *
          generalize t.map negP = tn at *
          go_upto_region 15 with (first
            | (go_at_call 66; (with_reducible refine (HN.out _ (by repeat' (with_reducible first | exact Later.refl _ | assumption | refine Later.drew ?_ | refine Later.drewN ?_ _ | refine Later.alloc ?_ _ | refine Later.put ?_ (by omega) _ | refine Later.trans ?_ (by assumption)))).mono ?_); rintro e w4 ⟨A6, c6, rfl, _, _, p6, hb4⟩; have Hq6 := Lib.hid (show A6 = none → tn = [] from fun h => by
                rcases Nat.eq_zero_or_pos tn.length with k | k
                · exact List.eq_nil_of_length_eq_zero k
                · obtain ⟨_, _, e, _⟩ := p6 k
                  rw [h] at e
                  cases e); have HM2 := Lib.hid (HM.out A6 c6 w4 hb4 Hq6.out p6); rw [Htl.out]; clear p6)
            | (go_at_call 65; (with_reducible refine HM2.out.mono ?_); rintro e w5 ⟨v5, rfl, ho5, hb5⟩; obtain ⟨A7, c7, rfl, hc7, hm7, p7⟩ := ho5.pts))
          have hl45 : Later wr w5 := hb4.trans hb5
          have hl2 : Later w2 w5 := hbq.trans hl45
          have Ho5 := Lib.hid (Ho2.out.later hl45)
          have Hr5 := Lib.hid (Hrq.out.later hl45)
          have Hnew := Lib.hid (show PvOk w5 ⟨A7, c7, r⟩ ∧ Fence u9.ownBlock w5.heap.size A7 from ⟨⟨hc7, hm7, p7⟩, fun bb oo e => by
            subst e
            have h1 := World.ownsRow.lt ho5 bb rfl
            refine ⟨fun q => ?_, h1.2⟩
            have h2 := (World.ownsRow.lt Ho2.out bb q.symm).2
            have h3 := hb4.size
            omega⟩)
          clear ho5 p7 hc7 hm7 x1 zb
          have HSb := Lib.hid (SrcAt.blk (Blk.new w5 28 #[.slice A7 r.length c7]))
          go_upto_region 18 with (at_builtin; refine wpList_append_recf slt_polys pv_len pv_one rfl (.tmp 54) (.tmp 56) rfl (base := w2.heap.size) (l := cur) rfl (OwnR.alloc Ho5.out _) (ad := ⟨w5.heap.size, 0, none⟩) (c := 1) [⟨A7, c7, r⟩] rfl HSb.out (by simp; omega) (by have := hl2.size; simp; omega) ?_; intro A8 c8 w8 ho8 hg8 hf8)
          have hr8 := rows2_app (v' := .slice A8 (cur ++ [(⟨A7, c7, r⟩ : PV)]).length c8) (u0 := ⟨A7, c7, r⟩) (Hr5.out.later ((Later.refl _).alloc (.cells #[.slice A7 r.length c7] 28))) ⟨Hnew.out.1.later ((Later.refl _).alloc _), Hnew.out.2.mono (by simp)⟩ hg8 hf8
          have hl8 : Later w2 w8 := Later.grown (hl2.alloc _) hg8 (fun g hg => (World.ownsRow.lt Ho2.out g hg).1)
          have Ho8 := Lib.hid ho8
          have Hr8 := Lib.hid hr8
          clear ho8 hr8 hg8 hf8
          have hle : (cur ++ [(⟨A7, c7, r⟩ : PV)]).length = cur.length + 1 := by simp
          rw [hle] at Ho8 Hr8
          go_wp2
          go_roundw
          case rel => exact ⟨j + 1, cur ++ [⟨A7, c7, r⟩], by omega, by go_num, Ho8.out, Lib.hid (by rw [List.map_append, Hcu.out, Hmn.out, List.append_assoc]; rfl), Hr8, hl8⟩
          case measure => simp [intOf]; omega
        · have hje : S.take j = S := List.take_of_length_le (by omega)
          rw [hje, Hac.out, ← Hnx.out] at Hcu
          go_wp2
          go_roundw
          case rel => exact ⟨k + 1, cur, by omega, by go_num, Ho2.out, Hcu, Hrq, hbq⟩
          case measure => simp [intOf]; omega
    · have hke : F.take k = F := List.take_of_length_le (by omega)
      rw [hke, ← HR.out] at Hac
      have hal : acc.length ≤ 1681 := by
        have := congrArg List.length Hac.out
        rw [List.length_map, HR.out, rowsOf_len] at this
        rw [this]
        exact Nat.mul_le_mul hF hS
      have hlw : Later w wr := hl12.trans hb
      obtain ⟨A9, c9, rfl, hc9, hm9, hx9⟩ := Ho.out.form pv_len
      rcases Nat.eq_zero_or_pos acc.length with h0 | h0
      · have e0 : acc = [] := List.eq_nil_of_length_eq_zero h0
        subst e0
        have Hz : R = [] := by have := Hac.out; simpa using this.symm
        clear hx9
        go_wp2_with (first
          | (go_at_call 67; (with_reducible refine (sort_rows_none _ _ _).mono ?_); rintro e w5 ⟨rfl, rfl⟩)
          | (go_at_call 71; (with_reducible refine (compact_rows_none _ _ _).mono ?_); rintro e w6 ⟨rfl, rfl⟩))
        go_ret2
        exact ⟨A9, c9, [], rfl, by simp, fun h => by simp at h, fun r => by rw [Hz], by simp, hlw⟩
      · obtain ⟨g, rfl, hg1, hg2, _, _⟩ := hx9 h0
        have hel : ∀ v ∈ acc, RowEl wr g v := fun v hv => by
          obtain ⟨⟨k1, k2, k3⟩, k4⟩ := Hrw.out v hv
          have hm : v.ps ∈ R := by rw [← Hac.out]; exact List.mem_map_of_mem hv
          exact ⟨k3, by have := HB.out _ hm; omega, k4⟩
        have hcs : ∀ v ∈ acc, v.ps.length ≤ v.c ∧ v.c ≤ maxLen := fun v hv => ⟨(Hrw.out v hv).1.1, (Hrw.out v hv).1.2.1⟩
        have HSo := Lib.hid (sort_rows w2.heap.size g c9 acc wr Ho.out (by omega) (by intro e; rw [e] at h0; simp at h0) hel)
        have Hel := Lib.hid hel
        have Hcs := Lib.hid hcs
        clear hel hcs hx9
        go_upto_region 21 with (go_at_call 67; (with_reducible refine HSo.out.mono ?_); rintro e w5 ⟨rfl, m, hm, ho5, hg5⟩)
        have hel5 : ∀ v ∈ m, RowEl w5 g v := fun v hv => by
          have h := Hel.out v (hm.mem_iff.1 hv)
          exact ⟨h.grown hg5, h.2.1, h.2.2.mono hg5.size⟩
        have hml := hm.length_eq
        have Hm := Lib.hid hm
        rw [← hml] at ho5
        have HCo := compact_rows w2.heap.size g c9 m w5 ho5 (by omega) (by omega) hel5
        rw [hml] at HCo
        have HCo := Lib.hid HCo
        have Hel5 := Lib.hid hel5
        have Hg5 := Lib.hid hg5
        have hl5 : Later w w5 := Later.grown hlw hg5 (fun q e => by cases e; have := hl12.size; omega)
        clear ho5 hel5 hg5 hm
        go_wp2_with (go_at_call 71; (with_reducible refine HCo.out.mono ?_); rintro e w6 ⟨m2, rfl, ho6, hg6, q0, q1, q2⟩)
        go_ret2
        have hok6 : ∀ v ∈ m2, PvOk w6 v := fun v hv => by
          have h1 := q1 v hv
          have h2 := Hcs.out v (Hm.out.mem_iff.1 h1)
          exact ⟨h2.1, h2.2, (Hel5.out v h1).grown hg6⟩
        obtain ⟨A7, c7, e7, hc7, _, p7⟩ := ho6.polys hok6
        cases e7
        have hcnt : m2.length ≤ R.length := by rw [← Hac.out, List.length_map]; omega
        refine ⟨some ⟨g, 0, none⟩, c9, m2.map PV.ps, by rw [List.length_map]; rfl, by rw [List.length_map]; exact hc7, p7, fun r => ?_, by rw [List.length_map]; exact hcnt, Later.grown hl5 hg6 (fun q e => by cases e; have := hl12.size; omega)⟩
        rw [← Hac.out, List.mem_map, List.mem_map]
        constructor
        · rintro ⟨v, hv, rfl⟩
          exact ⟨v, Hm.out.mem_iff.1 (q1 v hv), rfl⟩
        · rintro ⟨v, hv, rfl⟩
          obtain ⟨u, hu, e⟩ := q2 v (Hm.out.mem_iff.2 hv)
          exact ⟨u, hu, e⟩
end Go.Proofs.YtdhakoecjmaebaaGreat
