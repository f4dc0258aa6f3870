/-
  The walk of convex.border.
-/
import Derived.Test.YtdhakoecjmaebaaGreatZConvB
namespace Go.Proofs.YtdhakoecjmaebaaGreat
open Go.RowKit
set_option linter.unusedSimpArgs false
set_option linter.unusedVariables false

theorem own_len {α : Type} {cells : α → List Value} {sz : Nat} {w : World} {b : Nat} {E : TypeId} {n m c : Nat} {A : Option Addr} {l : List α} (h : OwnR w b E sz cells (.slice A n c) l) (e : n = m) : OwnR w b E sz cells (.slice A m c) l := e ▸ h
theorem bord_next {l st : List Pt} {k : Nat} (h : k < l.length) : bordGo (l.drop k) st = bordGo (l.drop (k + 1)) (l[k] :: popP l[k] st) := by rw [List.drop_eq_getElem_cons h, bordGo]
theorem pop_few {p : Pt} {st : List Pt} (h : st.length ≤ 1) : popP p st = st := by
  obtain _ | ⟨a, _ | ⟨b, s⟩⟩ := st
  · rfl
  · rfl
  · simp at h
theorem rev_last {st : List Pt} {b a : Pt} {s : List Pt} (h : st = b :: a :: s) : st.reverse[s.length + 1]? = some b ∧ st.reverse[s.length]? = some a ∧ st.reverse.take (s.length + 1) = (a :: s).reverse := by
  subst h
  have e : (b :: a :: s).reverse = s.reverse ++ [a, b] := by simp
  rw [e]
  refine ⟨?_, ?_, ?_⟩
  · rw [List.getElem?_append_right (by simp), List.length_reverse, Nat.add_sub_cancel_left]; rfl
  · rw [List.getElem?_append_right (by simp), List.length_reverse, Nat.sub_self]; rfl
  · rw [List.take_append, List.length_reverse, List.take_of_length_le (by simp), Nat.add_sub_cancel_left]; simp

/-- The length of a slice. -/
def slLen : Value → Nat
  | .slice _ n _ => n
  | _ => 0
set_option maxHeartbeats 20000000 in
set_option maxRecDepth 100000 in
theorem convex_border (A : Option Addr) (c : Nat) (l : List Pt) (w : World) (hl : l.length ≤ 4096) (h0 : 0 < l.length) (hp : Pts w A l) (hsm : ∀ p ∈ l, SmP p) :
    Calls Tryz.prog 153 #[.slice A l.length c] w (fun e w' => ∃ v, e = .returned v ∧ OwnR w' w.heap.size 29 2 pt2 v (bordP l) ∧ Later w w') := by
  have Hsm := Lib.hid hsm
  have HB := Lib.hid (show bordP l = (bordGo l []).tail.reverse from rfl)
  clear hsm
  generalize bordP l = R at *
  go_enter Tryz.func153, Tryz.ntmps153
  go_wp2
  go_loopw [3, 8] (fun v iv wr => ∃ (k : Nat) (st : List Pt), k ≤ l.length ∧ iv = .int .i64 k ∧ Hid (bordGo l [] = bordGo (l.drop k) st) ∧ st.length ≤ k ∧ (0 < k → 0 < st.length) ∧ Hid (∀ p ∈ st, SmP p) ∧ OwnR wr w.heap.size 29 2 pt2 v st.reverse ∧ Later w wr) (fun _ iv _ => l.length - (intOf iv).toNat)
  case atStart => exact ⟨0, [], by omega, rfl, Lib.hid rfl, by simp, by omega, Lib.hid (by simp), World.ownsRow_nil _ _ _ _, Later.refl _⟩
  case round =>
    obtain ⟨k, st, hk, rfl, He, hst, hne, Hst, ho, hb⟩ := hrel
    by_cases hlt : k < l.length
    · obtain ⟨b, o, rfl, e1, e2⟩ := (hp.later hb).at_ hlt
      have zb := World.block_lt_of_cell? _ _ e1
      have Hn := Lib.hid (bord_next (st := st) hlt)
      have hpm := Hsm.out _ (List.getElem_mem hlt)
      generalize l[k] = p at *
      obtain ⟨px, py⟩ := p
      obtain ⟨hx1, hx2⟩ := hpm
      simp only [] at e1 e2 hx1 hx2
      have Ho := Lib.hid ho
      clear ho
      go_upto_region 4 with fail
      go_upto_region 5 with fail
      refine name_world (fun Wp hWp => ?_)
      have hbp : Later wr Wp := by rw [hWp]; exact (by repeat' (with_reducible first | exact Later.refl _ | assumption | refine Later.drew ?_ | refine Later.drewN ?_ _ | refine Later.alloc ?_ _ | refine Later.put ?_ (by omega) _ | refine Later.trans ?_ (by assumption)))
      have Dp : Blk Wp wr.heap.size 29 #[.int .i64 px, .int .i64 py] := by rw [hWp]; exact (by repeat' (with_reducible first | assumption | (refine Blk.newAt ?_; simp; done) | refine Blk.alloc ?_ _ | refine Blk.drew ?_ | refine Blk.drewN ?_ _ | refine Blk.later ?_ (by assumption)))
      have Hop := Lib.hid (Ho.out.later hbp)
      clear hWp e1 e2 zb
      have Hhb := Lib.hid (hb.trans hbp)
      generalize wr.heap.size = gp_ at *
      go_loopw [3] (fun v wq => ∃ st' : List Pt, Hid (popP ⟨px, py⟩ st = popP ⟨px, py⟩ st') ∧ st'.length ≤ st.length ∧ (0 < st.length → 0 < st'.length) ∧ Hid (∀ q ∈ st', q ∈ st) ∧ OwnR wq w.heap.size 29 2 pt2 v st'.reverse ∧ Later Wp wq) (fun v _ => slLen v)
      case atStart => exact ⟨st, Lib.hid rfl, Nat.le_refl _, fun h => h, Lib.hid (fun _ h => h), Hop.out, Later.refl _⟩
      case round =>
        obtain ⟨st', He', hs1, hs2, Hs3, ho', hb'⟩ := hrel
        have Dq := Dp.later hb'
        have k0 : wr.cell? ⟨gp_, 0, none⟩ = some (.int .i64 px) := Dq.cell 0
        have k1 : wr.cell? ⟨gp_, 1, none⟩ = some (.int .i64 py) := Dq.cell 1
        have zq := Dq.lt
        obtain ⟨A', c', rfl, hc1, hcm, hx⟩ := ho'.form pt2_len
        rw [List.length_reverse] at hc1 hx ho' ⊢
        by_cases h1 : 1 < st'.length
        · obtain ⟨bb, aa, s, rfl⟩ : ∃ bb aa s, st' = bb :: aa :: s := by
            obtain _ | ⟨bb, _ | ⟨aa, s⟩⟩ := st'
            · simp at h1
            · simp at h1
            · exact ⟨bb, aa, s, rfl⟩
          obtain ⟨g', rfl, hg1, hg2, hg3, hg4⟩ := hx (by omega)
          obtain ⟨r1, r2, r3⟩ := rev_last (st := bb :: aa :: s) rfl
          obtain ⟨bx, b_⟩ := bb
          obtain ⟨ax, ay⟩ := aa
          have m0 : wr.cell? ⟨g', s.length * 2, none⟩ = some (.int .i64 ax) := by have := hg4 _ _ r2 0 _ rfl; simpa using this
          have m1 : wr.cell? ⟨g', s.length * 2 + 1, none⟩ = some (.int .i64 ay) := by have := hg4 _ _ r2 1 _ rfl; simpa using this
          have m2 : wr.cell? ⟨g', (s.length + 1) * 2, none⟩ = some (.int .i64 bx) := by have := hg4 _ _ r1 0 _ rfl; simpa using this
          have m3 : wr.cell? ⟨g', (s.length + 1) * 2 + 1, none⟩ = some (.int .i64 b_) := by have := hg4 _ _ r1 1 _ rfl; simpa using this
          have sma := Hst.out _ (Hs3.out ⟨ax, ay⟩ (by simp))
          have smb := Hst.out _ (Hs3.out ⟨bx, b_⟩ (by simp))
          clear hx hg3 hg4 r1 r2
          simp only [List.length_cons] at *
          obtain ⟨m, hm⟩ : ∃ m, s.length = m := ⟨_, rfl⟩
          have Hm := Lib.hid hm
          rw [hm] at m0 m1 m2 m3 hs1 h1 hc1 r3 ho' ⊢
          have Ho' := Lib.hid ho'
          have Hr3 := Lib.hid r3
          have Hs1 := Lib.hid hs1
          have i6 : (m : Int) + 1 ≤ (c' : Int) := by omega
          have hml : m ≤ 4096 := by omega
          clear hm r3 hs1 hc1 h1 ho'
          have HC := Lib.hid (fun W => convex_cross ax ay bx b_ px py W sma.1 sma.2 smb.1 smb.2 hx1 hx2)
          have Hpop := Lib.hid (show popP ⟨px, py⟩ (⟨bx, b_⟩ :: ⟨ax, ay⟩ :: s) = if crossI ax ay bx b_ px py ≤ 0 then popP ⟨px, py⟩ (⟨ax, ay⟩ :: s) else ⟨bx, b_⟩ :: ⟨ax, ay⟩ :: s from rfl)
          generalize crossI ax ay bx b_ px py = r at *
          have z1 : IntKind.i64.wrap ((m : Int) + 1 + 1 - 2) = (m : Int) := by rw [show (m : Int) + 1 + 1 - 2 = m by omega]; exact IntWalk.i64_in _ (by omega)
          have z2 : IntKind.i64.wrap ((m : Int) + 1 + 1 - 1) = (m : Int) + 1 := by rw [show (m : Int) + 1 + 1 - 1 = m + 1 by omega]; exact IntWalk.i64_in _ (by omega)
          have z3 : IntKind.i64.wrap ((m : Int) + 1) = (m : Int) + 1 := IntWalk.i64_in _ (by omega)
          have z4 : IntKind.i64.wrap (m : Int) = (m : Int) := IntWalk.i64_in _ (by omega)
          have i0 : (0 : Int) ≤ (m : Int) := by omega
          have i1 : (m : Int) < (m : Int) + 1 + 1 := by omega
          have i2 : (0 : Int) ≤ (m : Int) + 1 := by omega
          have i3 : (m : Int) + 1 < (m : Int) + 1 + 1 := by omega
          have i4 : ((m : Int) + 1).toNat = m + 1 := by omega
          have i5 : decide ((m : Int) + 1 + 1 > 1) = true := by simp; omega
          go_upto_region 5 with fail
          refine wp_region_still_tail 17 (by kernel_rfl) (by kernel_rfl) ?_
          simp only [List.take_succ_cons, List.take_zero, List.drop_succ_cons, List.drop_zero]
          repeat still_step
          refine wpStill_nil ?_
          change wpList _ _ _ _ _ (World.drew _)
          clear m0 m1 m2 m3 k0 k1
          by_cases hr : r ≤ 0
          · have dr : decide (r ≤ 0) = true := by simpa using hr
            have Hpo := Lib.hid (Hpop.out.trans (if_pos hr))
            clear hr
            go_upto_region 6 with (first | (go_at_call 197; (with_reducible refine (HC.out _).mono ?_); rintro e w1 ⟨rfl, hb1⟩))
            have hl1 : Later wr w1 := (by repeat' (with_reducible first | exact Later.refl _ | assumption | refine Later.drew ?_ | refine Later.drewN ?_ _ | refine Later.alloc ?_ _ | refine Later.put ?_ (by omega) _ | refine Later.trans ?_ (by assumption)))
            clear hb1
            go_wp2
            go_roundw
            case rel => exact ⟨⟨ax, ay⟩ :: s, Lib.hid (by rw [He'.out, Hpo.out]), by have := Hm.out; have := Hs1.out; simp; omega, fun _ => by simp, Lib.hid (fun q hq => Hs3.out q (List.mem_cons_of_mem _ hq)), by
                have h := OwnR.cut pt2_len (Ho'.out.later hl1) (n := m + 1) (by have := Hm.out; simp; omega)
                rw [Hr3.out] at h
                exact h, hb'.trans hl1⟩
            case measure => simp [slLen]
          · have dr : decide (r ≤ 0) = false := by simpa using hr
            have Hpo := Lib.hid (Hpop.out.trans (if_neg hr))
            clear hr
            go_upto_region 7 with (first | (go_at_call 197; (with_reducible refine (HC.out _).mono ?_); rintro e w1 ⟨rfl, hb1⟩))
            have hl1 : Later wr w1 := (by repeat' (with_reducible first | exact Later.refl _ | assumption | refine Later.drew ?_ | refine Later.drewN ?_ _ | refine Later.alloc ?_ _ | refine Later.put ?_ (by omega) _ | refine Later.trans ?_ (by assumption)))
            clear hb1
            have Hpp := Lib.hid (He'.out.trans Hpo.out)
            have Hoo := Lib.hid (Ho'.out.later hl1)
            have hln : (⟨bx, b_⟩ :: ⟨ax, ay⟩ :: s : List Pt).length ≤ st.length := by have := Hm.out; have := Hs1.out; simp; omega
            clear z1 z2 z3 z4 i0 i1 i2 i3 i4 i5 i6
            have Dw := Dq.later hl1
            have k0 : w1.cell? ⟨gp_, 0, none⟩ = some (.int .i64 px) := Dw.cell 0
            have k1 : w1.cell? ⟨gp_, 1, none⟩ = some (.int .i64 py) := Dw.cell 1
            have zw := Dw.lt
            have hlw : Later w w1 := (Hhb.out.trans hb').trans hl1
            have hLn := Lib.hid hln
            clear hln
            go_upto_region 8 with (at_builtin; refine wpList_append_rec slt_spot pt2_len pt2_one rfl (.tmp 37) (.tmp 39) rfl (base := w.heap.size) (l := ((⟨bx, b_⟩ :: ⟨ax, ay⟩ :: s)).reverse) rfl (OwnR.alloc Hoo.out _) (A := some ⟨w1.heap.size, 0, none⟩) (c := 1) [⟨px, py⟩] rfl (by intro h; cases h) (SrcAt.blk (cs := #[.int .i64 px, .int .i64 py]) (by repeat' (with_reducible first | assumption | (refine Blk.newAt ?_; simp; done) | refine Blk.alloc ?_ _ | refine Blk.drew ?_ | refine Blk.drewN ?_ _ | refine Blk.later ?_ (by assumption)))) (by have := hLn.out; simp at this ⊢; omega) (by have := hlw.size; simp; omega) ?_; intro A6 c6 w6 ho6 hg6)
            have hl6 : Later w w6 := Later.grown (hlw.alloc _) hg6 (fun g hg => (World.ownsRow.lt Hoo.out g hg).1)
            have Ho6 := Lib.hid ho6
            clear hg6 ho6 k0 k1
            go_wp2
            go_roundw
            case rel => exact ⟨k + 1, ⟨px, py⟩ :: ((⟨bx, b_⟩ :: ⟨ax, ay⟩ :: s)), by omega, by go_num, Lib.hid (by rw [He.out, Hn.out, Hpp.out]), by have := hLn.out; simp at this ⊢; omega, fun _ => by simp, Lib.hid (fun q hq => by
                rcases List.mem_cons.1 hq with e | e
                · rw [e]; exact ⟨hx1, hx2⟩
                · exact Hst.out q (Hs3.out q e)), by rw [List.reverse_cons]; exact own_len Ho6.out (by simp <;> omega), hl6⟩
            case measure => simp [intOf]; omega
        · have Ho' := Lib.hid ho'
          clear ho' hx
          have Hpp := Lib.hid (show popP ⟨px, py⟩ st = st' by rw [He'.out, pop_few (by omega)])
          have d1 : decide ((st'.length : Int) > 1) = false := by simp; omega
          go_upto_region 5 with fail
          refine wp_region_held_drew (S := fun _ : World => True) (by kernel_rfl) trivial (fun hHeld => ?_)
          refine take_at (i := 0) (d := 12) (v := ?_) rfl rfl (by kernel_rfl) (by kernel_rfl) (by kernel_rfl) (fun _ _ _ h => h) (by rfl) ?_ (by assumption) ?_
          rotate_left
          · (intro w hSw; (try dsimp only at hSw); go_simp; (try with_reducible rfl))
          simp only [Act.put, List.setIfInBounds_toArray, List.set_cons_zero, List.set_cons_succ]
          refine take_at (i := 1) (d := 13) (v := ?_) rfl rfl (by kernel_rfl) (by kernel_rfl) (by kernel_rfl) (fun _ _ _ h => h) (by rfl) ?_ (by assumption) ?_
          rotate_left
          · (intro w hSw; (try dsimp only at hSw); go_simp; (try with_reducible rfl))
          simp only [Act.put, List.setIfInBounds_toArray, List.set_cons_zero, List.set_cons_succ]
          refine take_at (i := 2) (d := 14) (v := ?_) rfl rfl (by kernel_rfl) (by kernel_rfl) (by kernel_rfl) (fun _ _ _ h => h) (by rfl) ?_ (by assumption) ?_
          rotate_left
          · (intro w hSw; (try dsimp only at hSw); go_simp; (try with_reducible rfl))
          simp only [Act.put, List.setIfInBounds_toArray, List.set_cons_zero, List.set_cons_succ]
          refine take_at (i := 3) (d := 15) (v := ?_) rfl rfl (by kernel_rfl) (by kernel_rfl) (by kernel_rfl) (fun _ _ _ h => h) (by rfl) ?_ (by assumption) ?_
          rotate_left
          · (intro w hSw; (try dsimp only at hSw); go_simp; (try with_reducible rfl))
          simp only [Act.put, List.setIfInBounds_toArray, List.set_cons_zero, List.set_cons_succ]
          refine skip_at (i := 4) (d := 16) rfl rfl (by kernel_rfl) (by kernel_rfl) (by kernel_rfl) (fun _ _ _ h => h) (by rfl) (by assumption) ?_
          simp only [Act.put, List.setIfInBounds_toArray, List.set_cons_zero, List.set_cons_succ]
          refine skip_at (i := 5) (d := 17) rfl rfl (by kernel_rfl) (by kernel_rfl) (by kernel_rfl) (fun _ _ _ h => h) (by rfl) (by assumption) ?_
          simp only [Act.put, List.setIfInBounds_toArray, List.set_cons_zero, List.set_cons_succ]
          refine skip_at (i := 6) (d := 18) rfl rfl (by kernel_rfl) (by kernel_rfl) (by kernel_rfl) (fun _ _ _ h => h) (by rfl) (by assumption) ?_
          simp only [Act.put, List.setIfInBounds_toArray, List.set_cons_zero, List.set_cons_succ]
          refine skip_at (i := 7) (d := 19) rfl rfl (by kernel_rfl) (by kernel_rfl) (by kernel_rfl) (fun _ _ _ h => h) (by rfl) (by assumption) ?_
          simp only [Act.put, List.setIfInBounds_toArray, List.set_cons_zero, List.set_cons_succ]
          refine skip_at (i := 8) (d := 20) rfl rfl (by kernel_rfl) (by kernel_rfl) (by kernel_rfl) (fun _ _ _ h => h) (by rfl) (by assumption) ?_
          simp only [Act.put, List.setIfInBounds_toArray, List.set_cons_zero, List.set_cons_succ]
          refine skip_at (i := 9) (d := 21) rfl rfl (by kernel_rfl) (by kernel_rfl) (by kernel_rfl) (fun _ _ _ h => h) (by rfl) (by assumption) ?_
          simp only [Act.put, List.setIfInBounds_toArray, List.set_cons_zero, List.set_cons_succ]
          refine skip_at (i := 10) (d := 22) rfl rfl (by kernel_rfl) (by kernel_rfl) (by kernel_rfl) (fun _ _ _ h => h) (by rfl) (by assumption) ?_
          simp only [Act.put, List.setIfInBounds_toArray, List.set_cons_zero, List.set_cons_succ]
          refine skip_at (i := 11) (d := 23) rfl rfl (by kernel_rfl) (by kernel_rfl) (by kernel_rfl) (fun _ _ _ h => h) (by rfl) (by assumption) ?_
          simp only [Act.put, List.setIfInBounds_toArray, List.set_cons_zero, List.set_cons_succ]
          refine skip_at (i := 12) (d := 24) rfl rfl (by kernel_rfl) (by kernel_rfl) (by kernel_rfl) (fun _ _ _ h => h) (by rfl) (by assumption) ?_
          simp only [Act.put, List.setIfInBounds_toArray, List.set_cons_zero, List.set_cons_succ]
          refine skip_at (i := 13) (d := 25) rfl rfl (by kernel_rfl) (by kernel_rfl) (by kernel_rfl) (fun _ _ _ h => h) (by rfl) (by assumption) ?_
          simp only [Act.put, List.setIfInBounds_toArray, List.set_cons_zero, List.set_cons_succ]
          refine skip_at (i := 14) (d := 26) rfl rfl (by kernel_rfl) (by kernel_rfl) (by kernel_rfl) (fun _ _ _ h => h) (by rfl) (by assumption) ?_
          simp only [Act.put, List.setIfInBounds_toArray, List.set_cons_zero, List.set_cons_succ]
          refine skip_at (i := 15) (d := 27) rfl rfl (by kernel_rfl) (by kernel_rfl) (by kernel_rfl) (fun _ _ _ h => h) (by rfl) (by assumption) ?_
          simp only [Act.put, List.setIfInBounds_toArray, List.set_cons_zero, List.set_cons_succ]
          refine skip_at (i := 16) (d := 28) rfl rfl (by kernel_rfl) (by kernel_rfl) (by kernel_rfl) (fun _ _ _ h => h) (by rfl) (by assumption) ?_
          simp only [Act.put, List.setIfInBounds_toArray, List.set_cons_zero, List.set_cons_succ]
          refine skip_at (i := 17) (d := 29) rfl rfl (by kernel_rfl) (by kernel_rfl) (by kernel_rfl) (fun _ _ _ h => h) (by rfl) (by assumption) ?_
          simp only [Act.put, List.setIfInBounds_toArray, List.set_cons_zero, List.set_cons_succ]
          refine skip_at (i := 18) (d := 30) rfl rfl (by kernel_rfl) (by kernel_rfl) (by kernel_rfl) (fun _ _ _ h => h) (by rfl) (by assumption) ?_
          simp only [Act.put, List.setIfInBounds_toArray, List.set_cons_zero, List.set_cons_succ]
          refine take_at (i := 19) (d := 31) (v := ?_) rfl rfl (by kernel_rfl) (by kernel_rfl) (by kernel_rfl) (fun _ _ _ h => h) (by rfl) ?_ (by assumption) ?_
          rotate_left
          · (intro w hSw; (try dsimp only at hSw); go_simp; (try with_reducible rfl))
          simp only [Act.put, List.setIfInBounds_toArray, List.set_cons_zero, List.set_cons_succ]
          refine wpAnyH_done (by kernel_rfl) ?_ _
          clear k0 k1
          go_upto_region 7 with fail
          refine name_world (fun w1 hw1 => ?_)
          have hl1 : Later wr w1 := by rw [hw1]; exact (by repeat' (with_reducible first | exact Later.refl _ | assumption | refine Later.drew ?_ | refine Later.drewN ?_ _ | refine Later.alloc ?_ _ | refine Later.put ?_ (by omega) _ | refine Later.trans ?_ (by assumption)))
          clear hw1
          have Hoo := Lib.hid (Ho'.out.later hl1)
          have hln : st'.length ≤ st.length := hs1
          have Dw := Dq.later hl1
          have k0 : w1.cell? ⟨gp_, 0, none⟩ = some (.int .i64 px) := Dw.cell 0
          have k1 : w1.cell? ⟨gp_, 1, none⟩ = some (.int .i64 py) := Dw.cell 1
          have zw := Dw.lt
          have hlw : Later w w1 := (Hhb.out.trans hb').trans hl1
          have hLn := Lib.hid hln
          clear hln
          go_upto_region 8 with (at_builtin; refine wpList_append_rec slt_spot pt2_len pt2_one rfl (.tmp 37) (.tmp 39) rfl (base := w.heap.size) (l := (st').reverse) rfl (OwnR.alloc Hoo.out _) (A := some ⟨w1.heap.size, 0, none⟩) (c := 1) [⟨px, py⟩] rfl (by intro h; cases h) (SrcAt.blk (cs := #[.int .i64 px, .int .i64 py]) (by repeat' (with_reducible first | assumption | (refine Blk.newAt ?_; simp; done) | refine Blk.alloc ?_ _ | refine Blk.drew ?_ | refine Blk.drewN ?_ _ | refine Blk.later ?_ (by assumption)))) (by have := hLn.out; simp at this ⊢; omega) (by have := hlw.size; simp; omega) ?_; intro A6 c6 w6 ho6 hg6)
          have hl6 : Later w w6 := Later.grown (hlw.alloc _) hg6 (fun g hg => (World.ownsRow.lt Hoo.out g hg).1)
          have Ho6 := Lib.hid ho6
          clear hg6 ho6 k0 k1
          go_wp2
          go_roundw
          case rel => exact ⟨k + 1, ⟨px, py⟩ :: (st'), by omega, by go_num, Lib.hid (by rw [He.out, Hn.out, Hpp.out]), by have := hLn.out; simp at this ⊢; omega, fun _ => by simp, Lib.hid (fun q hq => by
              rcases List.mem_cons.1 hq with e | e
              · rw [e]; exact ⟨hx1, hx2⟩
              · exact Hst.out q (Hs3.out q e)), by rw [List.reverse_cons]; exact own_len Ho6.out (by simp <;> omega), hl6⟩
          case measure => simp [intOf]; omega
    · have hke : k = l.length := by omega
      subst hke
      obtain ⟨q, s, rfl⟩ : ∃ q s, st = q :: s := by
        obtain _ | ⟨q, s⟩ := st
        · exact absurd (hne h0) (by simp)
        · exact ⟨q, s, rfl⟩
      have hR : R = s.reverse := by rw [HB.out, He.out, List.drop_length, bordGo]; rfl
      have hR' := Lib.hid hR
      obtain ⟨A', c', rfl, hc1, hcm, hx⟩ := ho.form pt2_len
      obtain ⟨g', rfl, hg1, hg2, hg3, hg4⟩ := hx (by simp)
      rw [List.length_reverse, List.length_cons] at hc1 ho ⊢
      have Ho := Lib.hid ho
      obtain ⟨m, hm⟩ : ∃ m, s.length = m := ⟨_, rfl⟩
      have Hm := Lib.hid hm
      have hst' : s.length + 1 ≤ 4096 := by simp at hst; omega
      rw [hm] at hc1 hst' ho Ho ⊢
      clear hx hg3 hg4 ho hm hR He hst
      have z1 : IntKind.i64.wrap (((m + 1 : Nat) : Int) - 1) = (m : Int) := by rw [show ((m + 1 : Nat) : Int) - 1 = m by omega]; exact IntWalk.i64_in _ (by omega)
      have z2 : IntKind.i64.wrap ((m : Int) + 1 - 1) = (m : Int) := by rw [show (m : Int) + 1 - 1 = m by omega]; exact IntWalk.i64_in _ (by omega)
      have i0 : (0 : Int) ≤ (m : Int) := by omega
      have i1 : (m : Int) ≤ (c' : Int) := by omega
      go_wp2
      go_ret
      refine ⟨_, rfl, ?_, hb⟩
      have h := OwnR.cut pt2_len Ho.out (n := m) (by have := Hm.out; simp; omega)
      rw [hR'.out]
      rw [show (q :: s).reverse.take m = s.reverse by rw [List.reverse_cons, ← Hm.out, List.take_left' (by simp)]] at h
      exact h

end Go.Proofs.YtdhakoecjmaebaaGreat
