/-
  The walk of search.Best.
-/
import Derived.Test.YtdhakoecjmaebaaGreatZBesA
import Derived.Test.YtdhakoecjmaebaaGreatZAreP
namespace Go.Proofs.YtdhakoecjmaebaaGreat
open Go.RowKit Go.Lib
set_option linter.unusedSimpArgs false
set_option linter.unusedVariables false

theorem ints_nil (w : World) (A : Option Addr) : Ints w A [] := fun h => by simp at h
set_option maxHeartbeats 8000000 in
set_option maxRecDepth 100000 in
theorem search_Best (b : Bd) (C : Option Addr) (cc : Nat) (l : List Sh) (w : World) (hs : Shapes w C l) (hl : l.length ≤ 4) (hlen : ∀ s ∈ l, s.ps.length ≤ 6) :
    Calls Tryz.prog 6 #[b.agg, .slice C l.length cc] w (BestPost (searchR b l) w) := by
  have HBo := Lib.hid (fun W (hW : Later w W) => search_Bound b C cc l W (hs.later hW) (by omega) (fun s h => by have := hlen s h; omega))
  have HOr := Lib.hid (fun W => search_Orders l.length (by omega) W)
  have HRn := Lib.hid (fun (hb : (boundR b l).2 = 0) (O : Option Addr) (oc : Nat) (od : List Int) (W : World) (hW : Later w W) (ho : Ints W O od) (hn : od.length ≤ 4) (hd : ∀ i ∈ od, ∃ j : Nat, j < l.length ∧ i = (j : Int)) =>
    fill_Run b C O cc oc l od W (hs.later hW) (by omega) hlen ho hn hd (bound_all hb).1 (bound_all hb).2.1 (shapes_here hb).1 (shapes_here hb).2)
  have HEx := Lib.hid (fun (P : Option Addr) (pc : Nat) (puts : List Pu) (W : World) (hW : Later w W) (hp : Puts W P puts) (hn : puts.length ≤ 60) => place_Extent C P cc pc l puts W (hs.later hW) (by omega) (fun s h => by have := hlen s h; omega) hp (by omega))
  have HLr := Lib.hid (fun o (h : (runR b l o).2 = 0) => (by
    obtain ⟨h1, _, h3, _⟩ := run_ok h
    rw [← h3, List.length_map] at h1
    exact h1 : (runR b l o).1.length ≤ 60))
  have HBs := Lib.hid (fun o os fd o' m => best_cons b l o os fd o' m)
  have HS1 := Lib.hid (fun (h : (boundR b l).2 ≠ 0) => show searchR b l = ([], 0, (boundR b l).2) by unfold searchR; rw [if_neg (by omega), if_pos h])
  have HS2 := Lib.hid (fun (h : (boundR b l).2 = 0) => show searchR b l = match bestOrd b l (ordersR l.length) (zOpt false [] 0) with | none => ([], 0, 18) | some (o, m) => (o, m, 0) by unfold searchR; rw [if_neg (by omega), if_neg (by simpa using h)]; rfl)
  have HB0 := Lib.hid (fun z => show bestOrd b l [] z = z from rfl)
  have HOg := Lib.hid (fun o (h : o ∈ ordersR l.length) => (by
    have e : ordersR l.length = ordersGo l.length l.length := if_neg (by omega)
    rw [e] at h
    exact (orders_go _ o h).2 : (∀ i ∈ o, ∃ j : Nat, j < l.length ∧ i = (j : Int)) ∧ o.length = l.length))
  have HLn := Lib.hid (by
    have e : ordersR l.length = ordersGo l.length l.length := if_neg (by omega)
    rw [e]
    have h1 := orders_len (n := l.length) (by omega) l.length
    have h2 : 5 ^ l.length ≤ 5 ^ 5 := Nat.pow_le_pow_right (by omega) (by omega)
    have h3 : (5 : Nat) ^ 5 = 3125 := rfl
    omega : (ordersR l.length).length ≤ 3125)
  obtain ⟨ors, hors⟩ : ∃ x, x = ordersR l.length := ⟨_, rfl⟩
  have Hors := Lib.hid hors
  rw [← hors] at HS2 HOg HLn
  clear hors
  generalize searchR b l = R at *
  generalize boundR b l = br at *
  generalize runR b l = rr at *
  generalize extR l = er at *
  generalize bestOrd b l = bo at *
  obtain ⟨bl, bw, brx, bry⟩ := b
  unfold Bd.agg at *
  simp only [] at *
  have d5 : decide ((l.length : Int) > 5) = false := by simp; omega
  go_enter Tryz.func6, Tryz.ntmps6
  go_upto_region 1 with fail
  refine name_world (fun W1 hW1 => ?_)
  have hl1 : Later w W1 := by rw [hW1]; exact (by repeat' (with_reducible first | exact Later.refl _ | assumption | refine Later.drew ?_ | refine Later.drewN ?_ _ | refine Later.alloc ?_ _ | refine Later.put ?_ (by omega) _ | refine Later.trans ?_ (by assumption)))
  have B1 : Blk W1 w.heap.size 25 #[.int .i64 bl, .int .i64 bw, .int .i64 brx, .int .i64 bry] := by rw [hW1]; exact (by repeat' (with_reducible first | assumption | (refine Blk.newAt ?_; simp; done) | refine Blk.alloc ?_ _ | refine Blk.drew ?_ | refine Blk.drewN ?_ _ | refine Blk.later ?_ (by assumption)))
  clear hW1
  obtain ⟨g, hg⟩ : ∃ g, g = w.heap.size := ⟨_, rfl⟩
  rw [← hg] at B1
  rw [← hg]
  clear hg
  have b0 : W1.cell? ⟨g, 0, none⟩ = some (.int .i64 bl) := B1.cell 0
  have b1 : W1.cell? ⟨g, 1, none⟩ = some (.int .i64 bw) := B1.cell 1
  have b2 : W1.cell? ⟨g, 2, none⟩ = some (.int .i64 brx) := B1.cell 2
  have b3 : W1.cell? ⟨g, 3, none⟩ = some (.int .i64 bry) := B1.cell 3
  have zb4 := B1.lt
  obtain ⟨bn, be⟩ := br
  simp only [] at *
  by_cases hbe : be = 0
  · subst hbe
    have HRn2 := Lib.hid (HRn.out rfl)
    have HS3 := Lib.hid (HS2.out rfl)
    clear HRn HS2 HS1
    go_upto_region 8 with (go_at_call 8; (with_reducible refine (HBo.out _ hl1).mono ?_); rintro e w2 ⟨rfl, hb2⟩)
    clear HBo
    have hl2 := hl1.trans hb2
    have B2 := B1.later hb2
    clear b0 b1 b2 b3 zb4
    go_upto_region 9 with (go_at_call 22; (with_reducible refine (HOr.out _).mono ?_); rintro e w3 ⟨v3, L, rfl, ho3, hm3, hk3, hb3⟩; obtain ⟨A3, c3, rfl, _, _, hx3⟩ := ho3.form ov_len)
    rw [← Hors.out] at hm3
    have hLn : L.length ≤ 3125 := by
      have := HLn.out
      rw [← hm3, List.length_map] at this
      exact this
    have Hx3 := Lib.hid hx3
    have Hk3 := Lib.hid hk3
    have hl3 := hl2.trans hb3
    have HB3 := Lib.hid (B2.later hb3)
    have Hm3 := Lib.hid hm3
    have HLm := Lib.hid (show ∀ k (hk : k < L.length), ors.drop k = L[k].l :: ors.drop (k + 1) ∧ L[k].l ∈ ors from fun k hk => by
      rw [← hm3]
      exact ⟨by rw [← List.map_drop, List.drop_eq_getElem_cons hk, List.map_cons, List.map_drop], List.mem_map_of_mem (List.getElem_mem hk)⟩)
    clear hx3 hk3 ho3 hm3 B2 B1 hb3
    go_loopw [9, 10, 11, 33] (fun ov fv mv kv wr => ∃ (k : Nat) (A : Option Addr) (c : Nat) (o : List Int) (fd : Bool) (m : Int), k ≤ L.length ∧ ov = .slice A o.length c ∧ fv = .bool fd ∧ mv = .int .i64 m ∧ kv = .int .i64 k ∧ Hid (bo ors (zOpt false [] 0) = bo (ors.drop k) (zOpt fd o m)) ∧ Hid (Ints wr A o ∧ o.length ≤ c) ∧ Later w3 wr) (fun _ _ _ kv _ => L.length - (intOf kv).toNat)
    case atStart => exact ⟨0, none, 0, [], false, 0, by omega, rfl, rfl, rfl, rfl, Lib.hid rfl, Lib.hid ⟨ints_nil _ _, by simp⟩, Later.refl _⟩
    case round =>
      obtain ⟨k, A, c, o, fd, m, hk, rfl, rfl, rfl, rfl, HZ, HI, hbr⟩ := hrel
      have hlr := hl3.trans hbr
      by_cases hlt : k < L.length
      · obtain ⟨bk, rfl, _, _, _, hx2⟩ := Hx3.out (by omega)
        have x0 := hx2 k _ (List.getElem?_eq_getElem hlt) 0 _ rfl
        rw [Nat.mul_one, Nat.zero_add, Nat.add_zero] at x0
        have x0 := hbr.cell x0
        have zb := World.block_lt_of_cell? _ _ x0
        obtain ⟨hdr, hmem⟩ := HLm.out k hlt
        have HOj := Lib.hid ((Hk3.out _ (List.getElem_mem hlt)).later hbr)
        clear hx2
        generalize L[k] = ov at *
        obtain ⟨oA, oc, od⟩ := ov
        simp only [] at x0 hdr hmem
        obtain ⟨hoi, hoc, _⟩ := HOj.out.ints
        simp only [] at hoi hoc
        obtain ⟨hog1, hog2⟩ := HOg.out _ hmem
        have hod4 : od.length ≤ 4 := by omega
        have HRk := Lib.hid (fun W (hW : Later wr W) => HRn2.out oA oc od W (hlr.trans hW) (hoi.later hW) hod4 hog1)
        have HBk := Lib.hid (HBs.out od (ors.drop (k + 1)) fd o m)
        have HZk := Lib.hid (HZ.out.trans (by rw [hdr]))
        have HLk := Lib.hid (HLr.out od)
        have Hoi := Lib.hid (And.intro hoi hoc)
        clear hog1 hog2 hmem hdr hoi hoc
        generalize rr od = r at *
        obtain ⟨ps, e1⟩ := r
        unfold RunPost at HRk
        simp only [] at HRk HBk HLk
        have B4 := HB3.out.later hbr
        have b0 : wr.cell? ⟨g, 0, none⟩ = some (.int .i64 bl) := B4.cell 0
        have b1 : wr.cell? ⟨g, 1, none⟩ = some (.int .i64 bw) := B4.cell 1
        have b2 : wr.cell? ⟨g, 2, none⟩ = some (.int .i64 brx) := B4.cell 2
        have b3 : wr.cell? ⟨g, 3, none⟩ = some (.int .i64 bry) := B4.cell 3
        have zb4 := B4.lt
        have hk0 : (0 : Int) ≤ (k : Int) := by omega
        have hk1 : (k : Int) < (L.length : Int) := by omega
        by_cases he1 : e1 = 0
        · subst he1
          have hpl := HLk.out rfl
          have HEk := Lib.hid (fun (P : Option Addr) (pc : Nat) W (hW : Later w W) (hp : Puts W P ps) => HEx.out P pc ps W hW hp hpl)
          generalize er ps = ek at *
          obtain ⟨xn, e2⟩ := ek
          simp only [] at HEk HBk
          go_upto_region 13 with (go_at_call 7; (with_reducible refine (HRk.out _ (by exact (by repeat' (with_reducible first | exact Later.refl _ | assumption | refine Later.drew ?_ | refine Later.drewN ?_ _ | refine Later.alloc ?_ _ | refine Later.put ?_ (by omega) _ | refine Later.trans ?_ (by assumption))))).mono ?_); rintro e w5 ⟨A5, c5, rfl, _, _, hp5, hb5⟩)
          have hl5 := hlr.trans hb5
          have HE5 := Lib.hid (HEk.out A5 c5 w5 hl5 hp5)
          clear x0 zb b0 b1 b2 b3 zb4 HRk HEk hp5
          by_cases he2 : e2 = 0
          · subst he2
            by_cases hfd : fd = false ∨ xn < m
            · have HZn := Lib.hid (show bo ors (zOpt false [] 0) = bo (ors.drop (k + 1)) (zOpt true od xn) by rw [HZk.out, HBk.out, if_neg (by simp), if_neg (by simp), if_pos hfd])
              rcases fd with _ | _
              · go_wp2_with (go_at_call 23; (with_reducible refine HE5.out.mono ?_); rintro e w6 ⟨rfl, hb6⟩)
                refine ⟨⟨k + 1, _, _, od, true, xn, by omega, rfl, rfl, rfl, by go_num, HZn, Lib.hid ⟨Hoi.out.1.later (hb5.trans hb6), Hoi.out.2⟩, hbr.trans (hb5.trans hb6)⟩, ?_⟩
                simp [intOf]
                omega
              · have hxm : xn < m := by simpa using hfd
                go_wp2_with (go_at_call 23; (with_reducible refine HE5.out.mono ?_); rintro e w6 ⟨rfl, hb6⟩)
                refine ⟨⟨k + 1, _, _, od, true, xn, by omega, rfl, rfl, rfl, by go_num, HZn, Lib.hid ⟨Hoi.out.1.later (hb5.trans hb6), Hoi.out.2⟩, hbr.trans (hb5.trans hb6)⟩, ?_⟩
                simp [intOf]
                omega
            · have HZn := Lib.hid (show bo ors (zOpt false [] 0) = bo (ors.drop (k + 1)) (zOpt fd o m) by rw [HZk.out, HBk.out, if_neg (by simp), if_neg (by simp), if_neg hfd])
              rcases fd with _ | _
              · exact absurd (Or.inl rfl) hfd
              · have hxm : ¬ xn < m := fun h => hfd (Or.inr h)
                clear hfd
                go_wp2_with (go_at_call 23; (with_reducible refine HE5.out.mono ?_); rintro e w6 ⟨rfl, hb6⟩)
                refine ⟨⟨k + 1, A, c, o, true, m, by omega, rfl, rfl, rfl, by go_num, HZn, Lib.hid ⟨HI.out.1.later (hb5.trans hb6), HI.out.2⟩, hbr.trans (hb5.trans hb6)⟩, ?_⟩
                simp [intOf]
                omega
          · have HZn := Lib.hid (show bo ors (zOpt false [] 0) = bo (ors.drop (k + 1)) (zOpt fd o m) by rw [HZk.out, HBk.out, if_neg (by simp), if_pos (by simpa using he2)])
            have hb2' : (e2 != 0) = true := by simpa using he2
            go_wp2_with (go_at_call 23; (with_reducible refine HE5.out.mono ?_); rintro e w6 ⟨rfl, hb6⟩)
            refine ⟨⟨k + 1, A, c, o, fd, m, by omega, rfl, rfl, rfl, by go_num, HZn, Lib.hid ⟨HI.out.1.later (hb5.trans hb6), HI.out.2⟩, hbr.trans (hb5.trans hb6)⟩, ?_⟩
            simp [intOf]
            omega
        · have HZn := Lib.hid (show bo ors (zOpt false [] 0) = bo (ors.drop (k + 1)) (zOpt fd o m) by rw [HZk.out, HBk.out, if_pos (by simpa using he1)])
          have hb1' : (e1 != 0) = true := by simpa using he1
          go_wp2_with (go_at_call 7; (with_reducible refine (HRk.out _ (by exact (by repeat' (with_reducible first | exact Later.refl _ | assumption | refine Later.drew ?_ | refine Later.drewN ?_ _ | refine Later.alloc ?_ _ | refine Later.put ?_ (by omega) _ | refine Later.trans ?_ (by assumption))))).mono ?_); rintro e w5 ⟨A5, c5, rfl, _, _, _, hb5⟩)
          refine ⟨⟨k + 1, A, c, o, fd, m, by omega, rfl, rfl, rfl, by go_num, HZn, Lib.hid ⟨HI.out.1.later (hb5), HI.out.2⟩, hbr.trans (hb5)⟩, ?_⟩
          simp [intOf]
          omega
      · have hke : k = L.length := by omega
        have HZn := Lib.hid (show bo ors (zOpt false [] 0) = zOpt fd o m by rw [HZ.out, hke, ← Hm3.out, ← List.map_drop, List.drop_length, List.map_nil, HB0.out])
        subst hke
        rcases fd with _ | _
        · have HRe := Lib.hid (show R = ([], 0, 18) by rw [HS3.out, HZn.out]; rfl)
          go_wp2
          refine bodyPost_ret (v := .tuple #[.slice none 0 0, .int .i64 0, .int .i64 18]) (by simp [results, Tryz.results6, go_sem]) rfl ⟨none, 0, by rw [HRe.out]; rfl, by rw [HRe.out]; simp, by rw [HRe.out]; exact ints_nil _ _, hlr⟩
        · have HRe := Lib.hid (show R = (o, m, 0) by rw [HS3.out, HZn.out]; rfl)
          go_wp2
          refine bodyPost_ret (v := .tuple #[.slice A o.length c, .int .i64 m, .int .i64 0]) (by simp [results, Tryz.results6, go_sem]) rfl ⟨A, c, by rw [HRe.out], by rw [HRe.out]; exact HI.out.2, by rw [HRe.out]; exact HI.out.1, hlr⟩
  · have hbe2 : (be != 0) = true := by simpa using hbe
    go_wp2_with (go_at_call 8; (with_reducible refine (HBo.out _ hl1).mono ?_); rintro e w2 ⟨rfl, hb2⟩)
    refine bodyPost_ret (v := .tuple #[.slice none 0 0, .int .i64 0, .int .i64 be]) (by simp [results, Tryz.results6, go_sem]) rfl ⟨none, 0, by rw [HS1.out hbe]; rfl, by rw [HS1.out hbe]; simp, by rw [HS1.out hbe]; exact ints_nil _ _, hl1.trans hb2⟩
end Go.Proofs.YtdhakoecjmaebaaGreat
/-
  The walk of the example of TopNofit.
-/
namespace Go.Proofs.YtdhakoecjmaebaaGreat
open Go.RowKit Go.Lib
set_option linter.unusedSimpArgs false
set_option linter.unusedVariables false
def sqr : List Pt := [⟨0, 0⟩, ⟨10, 0⟩, ⟨10, 10⟩, ⟨0, 10⟩]
def nest2 (A : Option Addr) (c : Nat) : List Sh := [⟨A, c, sqr, 1, false, 0, 0⟩, ⟨A, c, sqr, 4, false, 0, 0⟩]
theorem block_a : blockB (regsR sqr sqr) ⟨9, 9⟩ = true := by decide +kernel
theorem block_b : blockB (regsR sqr sqr) ⟨10, 0⟩ = false := by decide +kernel
theorem nest_search (A : Option Addr) (c : Nat) : searchR ⟨50, 20, 0, 0⟩ (nest2 A c) = ([0, 1], 10, 0) := of_decide_eq_true (by kernel_rfl)
@[go_sem] theorem build_s0 (w : World) : (Instr.build 29 #[]).run Tryz.prog w = .ok (.agg #[.int .i64 0, .int .i64 0]) w := run_build w 29 _ _ (by kernel_rfl)
@[go_sem] theorem build_s1 (x : Int) (w : World) : (Instr.build 29 #[(0, .int .i64 x)]).run Tryz.prog w = .ok (.agg #[.int .i64 x, .int .i64 0]) w := run_build w 29 _ _ (by kernel_rfl)
@[go_sem] theorem build_s2 (x : Int) (w : World) : (Instr.build 29 #[(1, .int .i64 x)]).run Tryz.prog w = .ok (.agg #[.int .i64 0, .int .i64 x]) w := run_build w 29 _ _ (by kernel_rfl)
@[go_sem] theorem build_sh (A : Option Addr) (n c : Nat) (x : Int) (w : World) : (Instr.build 31 #[(0, .slice A n c), (1, .int .i64 x)]).run Tryz.prog w = .ok (.agg #[.slice A n c, .int .i64 x, .bool false, .int .i64 0, .int .i64 0]) w := run_build w 31 _ _ (by kernel_rfl)
@[go_sem] theorem build_bed (x y : Int) (w : World) : (Instr.build 25 #[(0, .int .i64 x), (1, .int .i64 y)]).run Tryz.prog w = .ok (.agg #[.int .i64 x, .int .i64 y, .int .i64 0, .int .i64 0]) w := run_build w 25 _ _ (by kernel_rfl)
theorem sh5 (s : Sh) : s.cells.length = 5 := rfl
set_option maxHeartbeats 8000000 in
set_option maxRecDepth 100000 in
theorem top_nests (w : World) : Calls Tryz.prog 5 #[] w (Ret (.bool true) w) := by
  go_enter Tryz.func5, Tryz.ntmps5
  go_upto_region 2 with fail
  refine name_world (fun W1 hW1 => ?_)
  have hl1 : Later w W1 := by rw [hW1]; exact (by repeat' (with_reducible first | exact Later.refl _ | assumption | refine Later.drew ?_ | refine Later.drewN ?_ _ | refine Later.alloc ?_ _ | refine Later.put ?_ (by omega) _ | refine Later.trans ?_ (by assumption)))
  have ho1 : OwnR W1 0 29 2 pt2 (.slice (some ⟨w.heap.size, 0, none⟩) 4 4) sqr := by
    rw [hW1]
    exact OwnR.lit sqr _ rfl pt2_len (by simp [sqr]) (Nat.zero_le _) rfl (by simp [sqr])
  clear hW1
  obtain ⟨g, hg⟩ : ∃ g, g = w.heap.size := ⟨_, rfl⟩
  rw [← hg] at ho1
  rw [← hg]
  clear hg
  have hp1 : Pts W1 (some ⟨g, 0, none⟩) sqr := by
    obtain ⟨A2, c2, e, _, _, p2⟩ := ho1.pts
    cases e
    exact p2
  go_upto_region 3 with fail
  refine name_world (fun W2 hW2 => ?_)
  have hl2 : Later W1 W2 := by rw [hW2]; exact (by repeat' (with_reducible first | exact Later.refl _ | assumption | refine Later.drew ?_ | refine Later.drewN ?_ _ | refine Later.alloc ?_ _ | refine Later.put ?_ (by omega) _ | refine Later.trans ?_ (by assumption)))
  have hs2 : Shapes W2 (some ⟨W1.heap.size, 0, none⟩) (nest2 (some ⟨g, 0, none⟩) 4) := by
    have hp2 := hp1.later hl2
    rw [hW2] at hp2 ⊢
    exact (OwnR.list (ok := ShOk) sh5 (OwnR.lit (base := 0) (nest2 (some ⟨g, 0, none⟩) 4) _ rfl sh5 (by simp [nest2]) (Nat.zero_le _) (by simp [nest2]; rfl) rfl) (fun a ha => by
      simp only [nest2, List.mem_cons, List.not_mem_nil, or_false] at ha
      unfold ShOk
      rcases ha with rfl | rfl
      · exact ⟨by simp [sqr], show 4 ≤ maxLen by unfold maxLen; omega, hp2, by simp [I64], by simp [I64], by simp [I64]⟩
      · exact ⟨by simp [sqr], show 4 ≤ maxLen by unfold maxLen; omega, hp2, by simp [I64], by simp [I64], by simp [I64]⟩)).2.2.2
  clear hW2
  have hp2 := hp1.later hl2
  have HBe := Lib.hid (fun W (hW : Later W2 W) => search_Best ⟨50, 20, 0, 0⟩ (some ⟨W1.heap.size, 0, none⟩) 2 _ W (hs2.later hW) (by simp [nest2]) (fun s hs => by
    simp only [nest2, List.mem_cons, List.not_mem_nil, or_false] at hs
    rcases hs with rfl | rfl <;> simp [sqr]))
  have HK1 := Lib.hid (fun W (hW : Later W2 W) => nofit_Blocks (some ⟨g, 0, none⟩) (some ⟨g, 0, none⟩) 4 4 sqr sqr ⟨9, 9⟩ W (by simp [sqr]) (by simp [sqr]) (hp2.later hW) (hp2.later hW) (by decide +kernel) (by decide +kernel) (by simp [sqr]) (by simp [sqr]))
  have HK2 := Lib.hid (fun W (hW : Later W2 W) => nofit_Blocks (some ⟨g, 0, none⟩) (some ⟨g, 0, none⟩) 4 4 sqr sqr ⟨10, 0⟩ W (by simp [sqr]) (by simp [sqr]) (hp2.later hW) (hp2.later hW) (by decide +kernel) (by decide +kernel) (by simp [sqr]) (by simp [sqr]))
  rw [block_a] at HK1
  rw [block_b] at HK2
  rw [nest_search] at HBe
  unfold BestPost Bd.agg at HBe
  have eq4 : sqr.length = 4 := rfl
  have el2 : (nest2 (some ⟨g, 0, none⟩) 4).length = 2 := rfl
  rw [eq4] at HK1 HK2
  rw [el2] at HBe
  have eo : ([0, 1] : List Int).length = 2 := rfl
  simp only [eo] at HBe
  clear eq4 el2 eo
  go_upto_region 4 with (go_at_call 6; (with_reducible refine (HBe.out _ (by exact (by repeat' (with_reducible first | exact Later.refl _ | assumption | refine Later.drew ?_ | refine Later.drewN ?_ _ | refine Later.alloc ?_ _ | refine Later.put ?_ (by omega) _ | refine Later.trans ?_ (by assumption))))).mono ?_); rintro e w3 ⟨A3, c3, rfl, _, hi3, hb3⟩)
  obtain ⟨b3, o3, rfl, hx3⟩ := hi3 (by simp)
  have x0 := hx3 0 0 rfl
  rw [Nat.add_zero] at x0
  have hl3 : Later W2 w3 := Later.trans (by exact (by repeat' (with_reducible first | exact Later.refl _ | assumption | refine Later.drew ?_ | refine Later.drewN ?_ _ | refine Later.alloc ?_ _ | refine Later.put ?_ (by omega) _ | refine Later.trans ?_ (by assumption)))) hb3
  go_upto_region 5 with (go_at_call 16; (with_reducible refine (HK1.out _ hl3).mono ?_); rintro e w4 ⟨rfl, hb4⟩)
  have hl4 := hl3.trans hb4
  go_upto_region 6 with (go_at_call 16; (with_reducible refine (HK2.out _ hl4).mono ?_); rintro e w5 ⟨rfl, hb5⟩)
  have x0 := (hb4.trans hb5).cell x0
  have zb := World.block_lt_of_cell? _ _ x0
  have hl5 : Later w w5 := (hl1.trans hl2).trans (hl4.trans hb5)
  go_wp2
  go_ret
  exact ⟨rfl, hl5⟩
end Go.Proofs.YtdhakoecjmaebaaGreat
/-
  What turn.Apply returns at a matching put (as in the text LawAre).
-/
namespace Go.Proofs.YtdhakoecjmaebaaGreat
open Go.RowKit Go.Lib
set_option linter.unusedSimpArgs false
set_option linter.unusedVariables false

theorem apply_match {W : World} {f : Bool} {q ax ay qx qy rx ry : Int} {mt : Bool} {sn : Int} (hq : -1048576 ≤ qx ∧ qx ≤ 1048576 ∧ -1048576 ≤ qy ∧ qy ≤ 1048576) (h : mt = true → matchB rx ry ax ay ⟨sn, f, q, qx, qy⟩ = true) :
    Calls Tryz.prog 12 #[.agg #[.bool f, .int .i64 q], .agg #[.int .i64 ax, .int .i64 ay]] W (fun e w' => ∃ x y, e = .returned (.agg #[.int .i64 x, .int .i64 y]) ∧ Later W w' ∧ (mt = true → IntKind.i64.wrap (x + qx) = x + qx ∧ IntKind.i64.wrap (y + qy) = y + qy ∧ sameP rx ry ⟨x + qx, y + qy⟩ ⟨0, 0⟩ = true)) := by
  cases mt
  · exact (turn_Apply_any f q ax ay W).mono fun e w' ⟨x, y, h1, h2⟩ => ⟨x, y, h1, h2, (fun h => by cases h)⟩
  · have hm := h rfl
    unfold matchB at hm
    split at hm
    · cases hm
    · rename_i ho
      rw [Bool.and_eq_true] at hm
      have hn : NearP 1048576 ⟨ax, ay⟩ := by
        unfold NearP
        rw [Bool.not_eq_true] at ho
        simp only [outsideB, Bool.or_eq_false_iff, decide_eq_false_iff_not] at ho
        simp only []
        omega
      have ha := apply_near (f := f) (q := q) hn
      refine (turn_Apply f q ax ay W hn).mono fun e w' ⟨h1, h2⟩ => ⟨(applyP f q ⟨ax, ay⟩).x, (applyP f q ⟨ax, ay⟩).y, h1, h2, fun _ => ?_⟩
      unfold NearP at ha
      exact ⟨IntWalk.i64_in _ (by omega), IntWalk.i64_in _ (by omega), hm.2⟩

end Go.Proofs.YtdhakoecjmaebaaGreat
/-
  What the third loop of TopNofit needs: plain facts on nested puts.
-/
namespace Go.Proofs.YtdhakoecjmaebaaGreat
open Go.RowKit Go.Lib
set_option linter.unusedSimpArgs false
set_option linter.unusedVariables false

theorem nested_pair {b : Bd} {l : List Sh} {puts : List Pu} {n : Int} (h : Nested b l puts n) {i k : Nat} (hik : i < k) (hk : k < puts.length) :
    overR (polyR l puts[i]).1 (polyR l puts[k]).1 = (false, 0) ∧ blockB (regsR (turnPs puts[i].fl puts[i].q (gs l puts[i].sh.toNat).ps) (turnPs puts[k].fl puts[k].q (gs l puts[k].sh.toNat).ps)) ⟨puts[k].x - puts[i].x, puts[k].y - puts[i].y⟩ = false :=
  List.pairwise_iff_getElem.1 h.pairs i k (by omega) hk hik
theorem sound_turned {b : Bd} {l : List Sh} {p : Pu} (h : Sound b l p) : checkI (gs l p.sh.toNat).ps = 0 ∧ checkI (turnPs p.fl p.q (gs l p.sh.toNat).ps) = 0 ∧ (turnPs p.fl p.q (gs l p.sh.toNat).ps).length ≤ 40 ∧ NearP 1048576 ⟨p.x, p.y⟩ := by
  obtain ⟨_, hp, _⟩ := h
  obtain ⟨_, _, h3, h4, h5, _⟩ := poly_zero hp
  have ht := check_turned (p := p) h4 h5
  exact ⟨h4, ht, len_of_check ht, outside_near h3⟩
end Go.Proofs.YtdhakoecjmaebaaGreat
/-
  Contracts that the third loop of TopNofit meets, and a call that is one of several ready operations of a region that draws its order.
-/
namespace Go.Proofs.YtdhakoecjmaebaaGreat
open Go.RowKit Go.Lib
set_option linter.unusedSimpArgs false
set_option linter.unusedVariables false

section
variable {P : Program} {ops : Array Oper} {Q : Exit → Act → World → Prop} {md : Region.Mode} {S : World → Prop}
theorem rdy_call {i d f : Nat} {o : Oper} {args : Array Value} {fuel : Nat} {listed : Array Bool} {a : Act} {w : World} {rs : List Nat} (ho : ops[i]? = some o) (hd : o.dst = some d)
    (hw : Region.wanted o (yielded ops a.tmps) = true) (he : (execOp a.eval o).run P w = .ok (.enter f args) w)
    (h : Calls P f args w fun e w' => ∃ v, e = .returned v ∧ S w' ∧ wpAnyH P md ops Q S fuel (listed.setIfInBounds i true) (a.put (some d) v) w') (hrs : AllReadyH P md ops Q S fuel listed a w rs) : AllReadyH P md ops Q S fuel listed a w (i :: rs) := by
  refine AllReadyH.cons ho (fun K hK => ?_) hrs
  rw [if_pos hw]
  unfold Oper.wp
  rw [he]
  refine Calls.mono h ?_
  rintro e w' ⟨v, rfl, hS, hn⟩
  exact hK.out _ _ hS (fun _ => hd.symm ▸ hn)
end

theorem gs_at {l : List Sh} {n : Nat} (h : n < l.length) : gs l ((n : Nat) : Int).toNat = l[n] := by simp [gs, h]
theorem shape_turn {w : World} {C : Option Addr} {l : List Sh} (hs : Shapes w C l) {sn : Nat} (hn : sn < l.length) (hc : checkI l[sn].ps = 0) (f : Bool) (q : Int) (W : World) (hW : Later w W) :
    Calls Tryz.prog 17 #[.agg #[.bool f, .int .i64 q], .slice l[sn].pa l[sn].ps.length l[sn].pc] W (RetPts (turnPs f q l[sn].ps) W) := by
  obtain ⟨b, o, e, _, _, _, _, _, hok⟩ := (hs.later hW).at_ hn
  exact turn_Poly f q l[sn].pa l[sn].pc l[sn].ps W (by have := len_of_check hc; omega) hok.2.2.1 (near_of_check hc)
theorem pair_over {b : Bd} {l : List Sh} {puts : List Pu} {n : Int} (h : Nested b l puts n) {i k : Nat} (hik : i < k) (hi : i < puts.length) (hk : k < puts.length) {A B : Option Addr} {ca cb : Nat} {W : World}
    (ha : (polyR l (puts[i]'hi)).1.length ≤ ca) (hb : (polyR l (puts[k]'hk)).1.length ≤ cb) (pa : Pts W A (polyR l (puts[i]'hi)).1) (pb : Pts W B (polyR l (puts[k]'hk)).1) :
    Calls Tryz.prog 15 #[.slice A (polyR l (puts[i]'hi)).1.length ca, .slice B (polyR l (puts[k]'hk)).1.length cb] W (Ret (.tuple #[.bool false, .int .i64 0]) W) := by
  have h1 := (sound_ok (h.sound _ (List.getElem_mem hi)).1).2.2
  have h2 := (sound_ok (h.sound _ (List.getElem_mem hk)).1).2.2
  have h3 := overlap_Overlap A B ca cb _ _ W (by omega) ha pa (by omega) hb pb
  rw [(nested_pair h hik hk).1] at h3
  exact h3
theorem pair_block {b : Bd} {l : List Sh} {puts : List Pu} {n : Int} (h : Nested b l puts n) {i k : Nat} (hik : i < k) (hi : i < puts.length) (hk : k < puts.length) {A B : Option Addr} {ca cb : Nat} {W : World}
    (ha : (turnPs (puts[i]'hi).fl (puts[i]'hi).q (gs l (puts[i]'hi).sh.toNat).ps).length ≤ ca) (hb : (turnPs (puts[k]'hk).fl (puts[k]'hk).q (gs l (puts[k]'hk).sh.toNat).ps).length ≤ cb) (pa : Pts W A (turnPs (puts[i]'hi).fl (puts[i]'hi).q (gs l (puts[i]'hi).sh.toNat).ps)) (pb : Pts W B (turnPs (puts[k]'hk).fl (puts[k]'hk).q (gs l (puts[k]'hk).sh.toNat).ps)) :
    Calls Tryz.prog 16 #[.slice A (turnPs (puts[i]'hi).fl (puts[i]'hi).q (gs l (puts[i]'hi).sh.toNat).ps).length ca, .slice B (turnPs (puts[k]'hk).fl (puts[k]'hk).q (gs l (puts[k]'hk).sh.toNat).ps).length cb, .agg #[.int .i64 ((puts[k]'hk).x - (puts[i]'hi).x), .int .i64 ((puts[k]'hk).y - (puts[i]'hi).y)]] W (Ret (.tuple #[.bool false, .int .i64 0]) W) := by
  obtain ⟨_, h1, h2, _⟩ := sound_turned (h.sound _ (List.getElem_mem hi)).1
  obtain ⟨_, h3, h4, _⟩ := sound_turned (h.sound _ (List.getElem_mem hk)).1
  have h5 := nofit_Blocks A B ca cb _ _ ⟨(puts[k]'hk).x - (puts[i]'hi).x, (puts[k]'hk).y - (puts[i]'hi).y⟩ W ha hb pa pb h1 h3 h2 h4
  rw [(nested_pair h hik hk).2] at h5
  exact h5
end Go.Proofs.YtdhakoecjmaebaaGreat
