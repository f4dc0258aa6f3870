/-
  The walk of search.Orders.
-/
import Derived.Test.YtdhakoecjmaebaaGreatZOrdA
import Derived.Test.YtdhakoecjmaebaaGreatZDTab
namespace Go.Proofs.YtdhakoecjmaebaaGreat
open Go.RowKit Go.Lib
set_option linter.unusedSimpArgs false
set_option linter.unusedVariables false

theorem fm_next {α β : Type} {f : α → List β} {qs : List α} {k : Nat} (h : k < qs.length) : (qs.take (k + 1)).flatMap f = (qs.take k).flatMap f ++ f qs[k] := by
  rw [List.take_add_one, List.getElem?_eq_getElem h, List.flatMap_append]
  simp
theorem src_ov {W : World} {g : Nat} {A : Option Addr} {c : Nat} {o : List Int} {i : Int} (h : Blk W g 32 #[.slice A (o.length + 1) c]) : SrcAt W (some ⟨g, 0, none⟩) ([(⟨A, c, o ++ [i]⟩ : Ov)].flatMap Ov.cells) := by
  have := SrcAt.blk h
  simpa [Ov.cells] using this
theorem own_zero {α : Type} {cells : α → List Value} {sz : Nat} {w : World} {b : Nat} {E : TypeId} {v : Value} {l : List α} (h : OwnR w b E sz cells v l) : OwnR w 0 E sz cells v l := by
  refine ⟨h.1, ?_⟩
  rcases h.2 with h | ⟨g, cap, cur, hv, hb, hg⟩
  · exact .inl h
  · exact .inr ⟨g, cap, cur, hv, Nat.zero_le _, hg⟩
set_option maxHeartbeats 8000000 in
set_option maxRecDepth 100000 in
theorem search_Orders (n : Nat) (hn : n ≤ 5) (w : World) : Calls Tryz.prog 22 #[.int .i64 n] w (OrdersPost n w) := by
  have HR := Lib.hid (show ordersR n = ordersGo n n from if_neg (by omega))
  have HL := Lib.hid (fun k (hk : k ≤ 5) => (by
    have h1 := orders_len hn k
    have h2 : 5 ^ k ≤ 5 ^ 5 := Nat.pow_le_pow_right (by omega) hk
    have h3 : (5 : Nat) ^ 5 = 3125 := rfl
    omega : (ordersGo n k).length ≤ 3125))
  have HG := Lib.hid (fun k => show ordersGo n (k + 1) = (ordersGo n k).flatMap (extendO n) from rfl)
  have HG0 := Lib.hid (show ordersGo n 0 = [[]] from rfl)
  have HX := Lib.hid (fun o => show extendO n o = extTo o n from rfl)
  have hn0 : decide ((n : Int) < 0) = false := by simp
  have hn5 : decide ((n : Int) > 5) = false := by simp; omega
  have HLo := Lib.hid (fun k o (ho : o ∈ ordersGo n k) => (orders_go k o ho).2.2)
  generalize hgo : ordersGo n = go at *
  generalize hex : extendO n = ex at *
  clear hgo hex
  go_enter Tryz.func22, Tryz.ntmps22
  go_upto_region 4 with fail
  refine name_world (fun W1 hW1 => ?_)
  have hl1 : Later w W1 := by rw [hW1]; exact (by repeat' (with_reducible first | exact Later.refl _ | assumption | refine Later.drew ?_ | refine Later.drewN ?_ _ | refine Later.alloc ?_ _ | refine Later.put ?_ (by omega) _ | refine Later.trans ?_ (by assumption)))
  have HL0 := Lib.hid (show OwnR W1 0 32 1 Ov.cells (.slice (some ⟨w.heap.size + 1, 0, none⟩) 1 1) [⟨some ⟨w.heap.size, 0, none⟩, 0, []⟩] from by
    rw [hW1]
    exact OwnR.lit _ _ rfl ov_len (by simp) (Nat.zero_le _) rfl (by simp))
  have HK0 := Lib.hid (show ∀ a ∈ [(⟨some ⟨w.heap.size, 0, none⟩, 0, []⟩ : Ov)], OvOk W1 a from fun a ha => by
    rw [List.mem_singleton.1 ha, hW1]
    exact OwnR.alloc (OwnR.lit [] #[] rfl i1_len (by simp) (Nat.zero_le _) rfl rfl) _)
  clear hW1
  have HW1 := Lib.hid hl1
  clear hl1
  go_upto_region 5 with fail
  go_loopw [3, 17] (fun lv kv wr => ∃ (k : Nat) (L : List Ov), k ≤ n ∧ kv = .int .i64 k ∧ OwnR wr 0 32 1 Ov.cells lv L ∧ Hid (L.map Ov.l = go k) ∧ Hid (∀ a ∈ L, OvOk wr a) ∧ Later w wr) (fun _ kv _ => n - (intOf kv).toNat)
  case atStart => exact ⟨0, _, by omega, rfl, HL0.out, Lib.hid (by rw [HG0.out]; rfl), HK0, HW1.out⟩
  case round =>
    obtain ⟨k, L, hk, rfl, hown, HM, HOk, hbr⟩ := hrel
    have HO := Lib.hid hown
    clear hown HL0 HK0
    by_cases hlt : k < n
    · obtain ⟨A1, c1, rfl, _, _, hx1⟩ := HO.out.form ov_len
      have hLn : L.length ≤ 3125 := by
        have := HL.out k (by omega)
        rw [← HM.out, List.length_map] at this
        exact this
      have HGk := Lib.hid (HG.out k)
      go_upto_region 8 with fail
      obtain ⟨wk, rfl⟩ : ∃ x, x = wr := ⟨_, rfl⟩
      go_loopw [4, 21] (fun av jv wq => ∃ (j : Nat) (acc : List Ov), j ≤ L.length ∧ jv = .int .i64 j ∧ OwnR wq wk.heap.size 32 1 Ov.cells av acc ∧ Hid (acc.map Ov.l = ((L.map Ov.l).take j).flatMap ex) ∧ Hid (∀ a ∈ acc, OvOk wq a) ∧ acc.length ≤ 5 * j ∧ Later wk wq) (fun _ jv _ => L.length - (intOf jv).toNat)
      case atStart => exact ⟨0, [], by omega, rfl, World.ownsRow_nil _ _ _ _, Lib.hid (by simp), Lib.hid (by simp), by simp, Later.refl _⟩
      case round =>
        obtain ⟨j, acc, hj, rfl, hown2, HM2, HOk2, hal, hbq⟩ := hrel
        have HO2 := Lib.hid hown2
        clear hown2
        by_cases hjl : j < L.length
        · obtain ⟨bl, rfl, _, _, _, hx2⟩ := hx1 (by omega)
          have x0 := hx2 j _ (List.getElem?_eq_getElem hjl) 0 _ rfl
          rw [Nat.mul_one, Nat.zero_add, Nat.add_zero] at x0
          have x0 := hbq.cell x0
          have zb := World.block_lt_of_cell? _ _ x0
          have HMn := Lib.hid (show ((L.map Ov.l).take (j + 1)).flatMap ex = ((L.map Ov.l).take j).flatMap ex ++ extTo L[j].l n by
            rw [fm_next (f := ex) (qs := L.map Ov.l) (by rw [List.length_map]; exact hjl), List.getElem_map, HX.out])
          have HOj := Lib.hid ((HOk.out _ (List.getElem_mem hjl)).later hbq)
          have hlo := HLo.out k L[j].l (by rw [← HM.out]; exact List.mem_map_of_mem (List.getElem_mem hjl))
          have hk0 : (0 : Int) ≤ (j : Int) := by omega
          have hk1 : (j : Int) < (L.length : Int) := by omega
          generalize L[j] = ov at *
          obtain ⟨oA, oc, o⟩ := ov
          simp only [] at x0 HMn hlo
          obtain ⟨i1_, i2_, i3_⟩ := HOj.out.ints
          have HI := Lib.hid i1_
          have HA0 := Lib.hid i3_
          clear i1_ i3_
          simp only [] at i2_
          have hol : o.length ≤ 5 := by omega
          clear hlo
          obtain ⟨wj, rfl⟩ : ∃ x, x = wr := ⟨_, rfl⟩
          go_upto_region 11 with fail
          go_loopw [4, 26] (fun av iv wp => ∃ (i : Nat) (acc2 : List Ov), i ≤ n ∧ iv = .int .i64 i ∧ OwnR wp wk.heap.size 32 1 Ov.cells av acc2 ∧ Hid (acc2.map Ov.l = acc.map Ov.l ++ extTo o i) ∧ Hid (∀ a ∈ acc2, OvOk wp a) ∧ acc2.length ≤ acc.length + i ∧ Later wk wp ∧ OvOk wp ⟨oA, oc, o⟩) (fun _ iv _ => n - (intOf iv).toNat)
          case atStart => exact ⟨0, acc, by omega, rfl, HO2.out, Lib.hid (by simp [extTo]), HOk2, by omega, hbq, HOj.out⟩
          case round =>
            obtain ⟨i, acc2, hi, rfl, hown3, HM3, HOk3, hal3, hbp, hoo⟩ := hrel
            have HO3 := Lib.hid hown3
            have Hoo := Lib.hid hoo
            clear hown3 hoo
            by_cases hil : i < n
            · have HXs := Lib.hid (extTo_succ o i)
              have HCo := Lib.hid (fun W (hW : Later wr W) => contains_ints oA oc o i W (by omega) ((Hoo.out.later hW).ints.1))
              by_cases hio : (i : Int) ∈ o
              · rw [if_pos hio, List.append_nil] at HXs
                rw [decide_eq_true hio] at HCo
                go_wp2_with (go_at_call 47; (with_reducible refine (HCo.out _ (Later.refl _)).mono ?_); rintro e w1 ⟨rfl, hb1⟩)
                refine ⟨⟨i + 1, acc2, by omega, by go_num, HO3.out.later hb1, Lib.hid (by rw [HM3.out, HXs.out]), Lib.hid (fun a ha => (HOk3.out a ha).later hb1), by omega, hbp.trans hb1, Hoo.out.later hb1⟩, ?_⟩
                simp [intOf]
                omega
              · rw [if_neg hio] at HXs
                rw [decide_eq_false hio] at HCo
                obtain ⟨A4, c4, rfl, _, _, _⟩ := HO3.out.form ov_len
                have HCl := Lib.hid (fun W (hW : Later wr W) => clone_ints oA oc o W HA0.out ((Hoo.out.later hW).ints.1) (by omega))
                go_upto_region 14 with (go_at_call 47; (with_reducible refine (HCo.out _ (Later.refl _)).mono ?_); rintro e w1 ⟨rfl, hb1⟩)
                go_wp2_with (first
                  | (go_at_call 48; (with_reducible refine (HCl.out _ hb1).mono ?_); rintro e w2 ⟨v2, rfl, ho2, hb2⟩; obtain ⟨A2, c2, rfl, _, _, _⟩ := ho2.form i1_len)
                  | (at_builtin; refine wpList_append_rec slt_ints i1_len i1_one rfl (.tmp 35) (.tmp 37) rfl (base := w1.heap.size) (l := o) rfl (OwnR.alloc ho2 _) (A := some ⟨w2.heap.size, 0, none⟩) (c := 1) [(i : Int)] rfl (by intro h; cases h) (SrcAt.blk (cs := #[.int .i64 i]) (by repeat' (with_reducible first | assumption | (refine Blk.newAt ?_; simp; done) | refine Blk.alloc ?_ _ | refine Blk.drew ?_ | refine Blk.drewN ?_ _ | refine Blk.later ?_ (by assumption)))) (by simp; omega) (by have := hb2.size; simp; omega) ?_; intro A3 c3 w3 ho3 hg3; have hl3 : Later wr w3 := Later.grown ((hb1.trans hb2).alloc _) hg3 (fun g hg => Nat.le_trans hb1.size (World.ownsRow.lt ho2 g hg).1))
                  | (at_builtin; refine wpList_append_rec slt_lists ov_len ov_one rfl (.tmp 33) (.tmp 39) rfl (base := wk.heap.size) (l := acc2) rfl (OwnR.alloc (HO3.out.later hl3) _) (A := some ⟨w3.heap.size, 0, none⟩) (c := 1) [⟨A3, c3, o ++ [(i : Int)]⟩] rfl (by intro h; cases h) (src_ov (by repeat' (with_reducible first | assumption | (refine Blk.newAt ?_; simp; done) | refine Blk.alloc ?_ _ | refine Blk.drew ?_ | refine Blk.drewN ?_ _ | refine Blk.later ?_ (by assumption)))) (by simp; omega) (by have := hbp.size; have := hl3.size; simp; omega) ?_; intro A5 c5 w5 ho5 hg5))
                have hl5 : Later wk w5 := Later.grown ((hbp.trans hl3).alloc _) hg5 (fun g hg => (World.ownsRow.lt HO3.out g hg).1)
                have hok : ∀ a : Ov, OvOk w3 a → OvOk w5 a := fun a ha => OvOk.grown (OvOk.later ha ((Later.refl _).alloc _)) (OwnR.alloc (HO3.out.later hl3) _) hg5
                refine ⟨⟨i + 1, acc2 ++ [⟨A3, c3, o ++ [(i : Int)]⟩], by omega, by go_num, own_len ho5 (by simp), Lib.hid (by rw [List.map_append, HM3.out, HXs.out, List.append_assoc]; rfl), Lib.hid (fun a ha => ?_), by simp; omega, hl5, hok _ (Hoo.out.later hl3)⟩, ?_⟩
                · rcases List.mem_append.1 ha with ha | ha
                  · exact hok _ ((HOk3.out a ha).later hl3)
                  · rw [List.mem_singleton.1 ha]
                    exact hok _ (own_zero ho3)
                · simp [intOf]
                  omega
            · have hie : i = n := by omega
              subst hie
              go_wp2
              refine ⟨⟨j + 1, acc2, by omega, by go_num, HO3.out, Lib.hid (by rw [HM3.out, HMn.out, HM2.out]), HOk3, by omega, hbp⟩, ?_⟩
              simp [intOf]
              omega
        · have hje : j = L.length := by omega
          subst hje
          go_wp2
          refine ⟨⟨k + 1, acc, by omega, by go_num, own_zero HO2.out, Lib.hid (by rw [HM2.out, HGk.out, ← HM.out, List.take_of_length_le (by simp)]), HOk2, hbr.trans hbq⟩, ?_⟩
          simp [intOf]
          omega
    · have hke : k = n := by omega
      subst hke
      go_wp2
      go_ret
      exact ⟨_, L, rfl, HO.out, by rw [HM.out, HR.out], HOk.out, hbr⟩
end Go.Proofs.YtdhakoecjmaebaaGreat
/-
  The walk of search.Best; first what the bound's success says.
-/
namespace Go.Proofs.YtdhakoecjmaebaaGreat
open Go.RowKit Go.Lib
set_option linter.unusedSimpArgs false
set_option linter.unusedVariables false

theorem narrowE_ok {ps : List Pt} : ∀ {qs : List Int}, narrowE ps qs = 0 → ∀ q ∈ qs, checkI (turnPs false q ps) = 0
  | [], _, q, hq => by simp at hq
  | a :: qs, h, q, hq => by
    rw [narrowE] at h
    split at h
    · rename_i h1; exact absurd h h1
    · rename_i h1
      rcases List.mem_cons.1 hq with rfl | hq
      · simpa using h1
      · exact narrowE_ok h q hq
theorem narrow_turns {s : Sh} (h : (narrowR s).2 = 0) : ∀ q ∈ turnsR s.gr, checkI (turnPs false q s.ps) = 0 := by
  have hc := narrow_check h
  by_cases ht : turnsR s.gr = []
  · rw [ht]; simp
  · rw [narrow_loop s hc ht] at h
    unfold nLoop at h
    split at h
    · rename_i h1; exact absurd h h1
    · rename_i h1
      exact narrowE_ok (by simpa using h1)
theorem boundGo_ok : ∀ {l : List Sh} {a m : Int}, (boundGo l a m).2.2 = 0 → ∀ s ∈ l, (narrowR s).2 = 0
  | [], _, _, _, s, hs => by simp at hs
  | x :: l, a, m, h, s, hs => by
    rw [boundGo] at h
    split at h
    · rename_i h1; exact absurd h h1
    · rename_i h1
      rcases List.mem_cons.1 hs with rfl | hs
      · simpa using h1
      · exact boundGo_ok h s hs
theorem bound_all {b : Bd} {l : List Sh} (h : (boundR b l).2 = 0) : (1 ≤ b.l ∧ b.l ≤ 1048576) ∧ (1 ≤ b.w ∧ b.w ≤ 1048576) ∧ ∀ s ∈ l, (narrowR s).2 = 0 := by
  unfold boundR at h
  split at h
  · cases h
  · rename_i h1
    split at h
    · cases h
    · split at h
      · rename_i h2; exact absurd h h2
      · rename_i h2
        exact ⟨by omega, by omega, boundGo_ok (by simpa using h2)⟩
theorem mv_zero (ps : List Pt) : ps.map (mvP ⟨0, 0⟩) = ps := by
  have : mvP ⟨0, 0⟩ = id := by
    funext p
    unfold mvP
    simp
  rw [this, List.map_id]
theorem turn_zero (ps : List Pt) : turnPs false 0 ps = ps := by
  rw [turn_map]
  have : rotN (qm 0).toNat = id := rfl
  rw [this, List.map_id]
theorem poly_here {l : List Sh} {k : Nat} {q : Int} (hk : k < l.length) (h0 : checkI (gs l k).ps = 0) (h : checkI (turnPs false q (gs l k).ps) = 0) : (polyR l ⟨k, false, q, 0, 0⟩).2 = 0 := by
  unfold polyR placedPs
  simp only [Int.toNat_natCast]
  rw [if_neg (by
    simp only [not_or]
    refine ⟨by omega, by omega, by decide⟩)]
  rw [mv_zero]
  simp [h0, h]
theorem shapes_here {b : Bd} {l : List Sh} (h : (boundR b l).2 = 0) : (∀ k : Nat, k < l.length → (polyR l ⟨k, false, 0, 0, 0⟩).2 = 0) ∧ ∀ k : Nat, k < l.length → ∀ q ∈ turnsR (gs l k).gr, (polyR l ⟨k, false, q, 0, 0⟩).2 = 0 := by
  have h1 := (bound_all h).2.2
  have hg : ∀ k, k < l.length → (narrowR (gs l k)).2 = 0 := fun k hk => by
    have : gs l k = l[k] := by simp [gs, hk]
    rw [this]
    exact h1 _ (List.getElem_mem hk)
  refine ⟨fun k hk => ?_, fun k hk q hq => ?_⟩
  · have := narrow_check (hg k hk)
    exact poly_here hk this (by rw [turn_zero]; exact this)
  · exact poly_here hk (narrow_check (hg k hk)) (narrow_turns (hg k hk) q hq)
def zOpt (fd : Bool) (o : List Int) (m : Int) : Option (List Int × Int) := if fd = true then some (o, m) else none
theorem best_cons (b : Bd) (l : List Sh) (o : List Int) (os : List (List Int)) (fd : Bool) (o' : List Int) (m : Int) : bestOrd b l (o :: os) (zOpt fd o' m) =
    if (runR b l o).2 ≠ 0 then bestOrd b l os (zOpt fd o' m) else if (extR l (runR b l o).1).2 ≠ 0 then bestOrd b l os (zOpt fd o' m)
    else if fd = false ∨ (extR l (runR b l o).1).1 < m then bestOrd b l os (zOpt true o (extR l (runR b l o).1).1) else bestOrd b l os (zOpt fd o' m) := by
  cases fd
  · unfold zOpt
    rw [bestOrd.eq_def]
    simp
  · unfold zOpt
    rw [bestOrd.eq_def]
    simp
def BestPost (r : List Int × Int × Int) (w : World) (e : Ending) (w' : World) : Prop := ∃ A c, e = .returned (.tuple #[.slice A r.1.length c, .int .i64 r.2.1, .int .i64 r.2.2]) ∧ r.1.length ≤ c ∧ Ints w' A r.1 ∧ Later w w'
end Go.Proofs.YtdhakoecjmaebaaGreat
