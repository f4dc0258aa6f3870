/-
 The walk of the reference's test whether a polygon is simple.
 The walk of the reference's Check.
-/
import Derived.Test.YtdhakoecjmaebaaGreatZPoly
import Derived.BigRegion
namespace Go.Proofs.YtdhakoecjmaebaaGreat
open Go.RowKit
set_option linter.unusedSimpArgs false
set_option linter.unusedVariables false
def onP (a b q : Pt) : Bool := onB a.x a.y b.x b.y q.x q.y
def rinnerGo (ps : List Pt) (i : Nat) : Nat → Nat → Bool
 | 0, _ => false
 | f + 1, k => if ¬ (k + 1) % ps.length = i ∧ meetP (gp ps i) (gp ps ((i + 1) % ps.length)) (gp ps k) (gp ps ((k + 1) % ps.length)) = true then true else rinnerGo ps i f (k + 1)
def badAt (ps : List Pt) (i : Nat) : Bool :=
 ((gp ps i).x == (gp ps ((i + 1) % ps.length)).x && (gp ps i).y == (gp ps ((i + 1) % ps.length)).y) || onP (gp ps i) (gp ps ((i + 1) % ps.length)) (gp ps ((i + 2) % ps.length)) || onP (gp ps ((i + 1) % ps.length)) (gp ps ((i + 2) % ps.length)) (gp ps i)
def routerGo (ps : List Pt) : Nat → Nat → Bool
 | 0, _ => true
 | f + 1, i => if badAt ps i then false else if rinnerGo ps i (ps.length - (i + 2)) (i + 2) then false else routerGo ps f (i + 1)
def rsimpleB (ps : List Pt) : Bool := routerGo ps ps.length 0
theorem router_bad {ps : List Pt} {i : Nat} (h : i < ps.length) (hf : badAt ps i = true) : routerGo ps (ps.length - i) i = false := by
 obtain ⟨f, hf'⟩ : ∃ f, ps.length - i = f + 1 := ⟨ps.length - i - 1, by omega⟩
 rw [hf', routerGo, if_pos hf]
theorem router_meets {ps : List Pt} {i : Nat} (h : i < ps.length) (hf : badAt ps i = false) (hm : rinnerGo ps i (ps.length - (i + 2)) (i + 2) = true) : routerGo ps (ps.length - i) i = false := by
 obtain ⟨f, hf'⟩ : ∃ f, ps.length - i = f + 1 := ⟨ps.length - i - 1, by omega⟩
 rw [hf', routerGo, hf, hm]; rfl
theorem router_step {ps : List Pt} {i : Nat} {x : Bool} (he : x = routerGo ps (ps.length - i) i) (h : i < ps.length) (hf : badAt ps i = false) (hm : rinnerGo ps i (ps.length - (i + 2)) (i + 2) = false) :
  x = routerGo ps (ps.length - (i + 1)) (i + 1) := by
 obtain ⟨f, hf'⟩ : ∃ f, ps.length - i = f + 1 := ⟨ps.length - i - 1, by omega⟩
 rw [he, hf', routerGo, hf, hm, show ps.length - (i + 1) = f by omega]; rfl
theorem rinner_hit {ps : List Pt} {i k : Nat} (h : k < ps.length) (hq : ¬ (k + 1) % ps.length = i) (hm : meetP (gp ps i) (gp ps ((i + 1) % ps.length)) (gp ps k) (gp ps ((k + 1) % ps.length)) = true) : rinnerGo ps i (ps.length - k) k = true := by
 obtain ⟨f, hf'⟩ : ∃ f, ps.length - k = f + 1 := ⟨ps.length - k - 1, by omega⟩
 rw [hf', rinnerGo, if_pos ⟨hq, hm⟩]
theorem rinner_step {ps : List Pt} {i k : Nat} (h : k < ps.length) (hq : (k + 1) % ps.length = i ∨ meetP (gp ps i) (gp ps ((i + 1) % ps.length)) (gp ps k) (gp ps ((k + 1) % ps.length)) = false) : rinnerGo ps i (ps.length - k) k = rinnerGo ps i (ps.length - (k + 1)) (k + 1) := by
 obtain ⟨f, hf'⟩ : ∃ f, ps.length - k = f + 1 := ⟨ps.length - k - 1, by omega⟩
 rw [hf', rinnerGo, if_neg, show ps.length - (k + 1) = f by omega]
 rintro ⟨h1, h2⟩
 rcases hq with hq | hq
 ·exact h1 hq
 ·rw [hq] at h2; cases h2
set_option maxHeartbeats 4000000 in
theorem ref11_simple (b o c : Nat) (ps : List Pt) (w : World) (hn : ps.length ≤ 1099511627776) (hcap : ps.length ≤ c) (h3 : 3 ≤ ps.length) (hp : Pts w (some ⟨b, o, none⟩) ps) (hsm : AllSm ps) :
  Calls Tryz.prog 186 #[.slice (some ⟨b, o, none⟩) ps.length c] w (Ret (.bool (rsimpleB ps)) w) := by
 have hnil : ¬ ps = [] := by intro h; rw [h] at h3; simp at h3
 go_enter Tryz.func186, Tryz.ntmps186
 go_wp2
 go_loopw [2, 4] (fun r i wr => ∃ k : Nat, k ≤ ps.length ∧ i = .int .i64 k ∧ rsimpleB ps = routerGo ps (ps.length - k) k ∧ Later w wr) (fun _ i _ => ps.length - (intOf i).toNat)
 case atStart => exact ⟨0, by omega, rfl, rfl, Later.refl _⟩
 case round =>
  obtain ⟨i, hi, rfl, he, hb⟩ := hrel
  have He := Lib.hid he
  clear he
  obtain ⟨wo, rfl⟩ : ∃ wo : World, wo = wr := ⟨_, rfl⟩
  by_cases hli : i < ps.length
  ·obtain ⟨b', o', hA, e1, e2⟩ := (hp.later hb).gp hli
   obtain ⟨rfl, rfl⟩ : b = b' ∧ o = o' := by simpa using hA
   have hm1 : (i + 1) % ps.length < ps.length := Nat.mod_lt _ (by omega)
   have hm2 : (i + 2) % ps.length < ps.length := Nat.mod_lt _ (by omega)
   obtain ⟨b', o', hA, f1, f2⟩ := (hp.later hb).gp hm1
   obtain ⟨rfl, rfl⟩ : b = b' ∧ o = o' := by simpa using hA
   obtain ⟨b', o', hA, g1, g2⟩ := (hp.later hb).gp hm2
   obtain ⟨rfl, rfl⟩ : b = b' ∧ o = o' := by simpa using hA
   have hbz : b < wo.heap.size := World.block_lt_of_cell? _ _ e1
   have s3 := hsm ((i + 2) % ps.length)
   have hw1 : IntKind.i64.wrap ((i : Int) + 1) = (i : Int) + 1 := IntWalk.i64_in _ (by omega)
   have ht1 : ((i : Int) + 1).tmod (ps.length : Int) = ((i : Int) + 1) % (ps.length : Int) := Int.tmod_eq_emod_of_nonneg (by omega)
   have hi1 : (0 : Int) ≤ ((i : Int) + 1) % (ps.length : Int) ∧ ((i : Int) + 1) % (ps.length : Int) < (ps.length : Int) := ⟨Int.emod_nonneg _ (by omega), Int.emod_lt_of_pos _ (by omega)⟩
   have hn1 : (((i : Int) + 1) % (ps.length : Int)).toNat = (i + 1) % ps.length := toNat_emod i 1 ps.length
   have hi2 : (0 : Int) ≤ ((i : Int) + 2) % (ps.length : Int) ∧ ((i : Int) + 2) % (ps.length : Int) < (ps.length : Int) := ⟨Int.emod_nonneg _ (by omega), Int.emod_lt_of_pos _ (by omega)⟩
   have s1 := hsm i
   have s2 := hsm ((i + 1) % ps.length)
   rcases hf : badAt ps i with _ | _
   ·have Hf := Lib.hid hf
    have q1 : ((gp ps i).x == (gp ps ((i + 1) % ps.length)).x && (gp ps i).y == (gp ps ((i + 1) % ps.length)).y) = false := by simp only [badAt, Bool.or_eq_false_iff] at hf; exact hf.1.1
    have q2 : onB (gp ps i).x (gp ps i).y (gp ps ((i + 1) % ps.length)).x (gp ps ((i + 1) % ps.length)).y (gp ps ((i + 2) % ps.length)).x (gp ps ((i + 2) % ps.length)).y = false := by simp only [badAt, onP, Bool.or_eq_false_iff] at hf; exact hf.1.2
    have q3 : onB (gp ps ((i + 1) % ps.length)).x (gp ps ((i + 1) % ps.length)).y (gp ps ((i + 2) % ps.length)).x (gp ps ((i + 2) % ps.length)).y (gp ps i).x (gp ps i).y = false := by simp only [badAt, onP, Bool.or_eq_false_iff] at hf; exact hf.2
    have heq : ∀ w, (binOp .eql 29 (.agg #[.int .i64 (gp ps i).x, .int .i64 (gp ps i).y]) (.agg #[.int .i64 (gp ps ((i + 1) % ps.length)).x, .int .i64 (gp ps ((i + 1) % ps.length)).y])).run Tryz.prog w = .ok (.bool false) w := fun w => by rw [eql_spot, q1]
    clear hf q1
    go_wp2
    go_region
    ·clear hw1 ht1 hi1 hn1
     go_wp2_with (go_at_call 221; refine (ref11_Between _ _ _ _ _ _ _ (by first | exact s1.1 | exact s2.1 | exact s3.1) (by first | exact s1.2 | exact s2.2 | exact s3.2) (by first | exact s1.1 | exact s2.1 | exact s3.1) (by first | exact s1.2 | exact s2.2 | exact s3.2) (by first | exact s1.1 | exact s2.1 | exact s3.1) (by first | exact s1.2 | exact s2.2 | exact s3.2)).mono ?_; rintro e w1 ⟨rfl, hb1⟩; have cax : w1.cell? ⟨wo.heap.size, 0, none⟩ = some (.int .i64 (gp ps i).x) := hb1.cell (by first | assumption | simp [go_sem]); have cay : w1.cell? ⟨wo.heap.size, 1, none⟩ = some (.int .i64 (gp ps i).y) := hb1.cell (by first | assumption | simp [go_sem]); have cbx : w1.cell? ⟨wo.heap.size + 1, 0, none⟩ = some (.int .i64 (gp ps ((i + 1) % ps.length)).x) := hb1.cell (by first | assumption | simp [go_sem]); have cby : w1.cell? ⟨wo.heap.size + 1, 1, none⟩ = some (.int .i64 (gp ps ((i + 1) % ps.length)).y) := hb1.cell (by first | assumption | simp [go_sem]); have ccx : w1.cell? ⟨wo.heap.size + 1 + 1, 0, none⟩ = some (.int .i64 (gp ps ((i + 2) % ps.length)).x) := hb1.cell (by first | assumption | simp [go_sem]); have ccy : w1.cell? ⟨wo.heap.size + 1 + 1, 1, none⟩ = some (.int .i64 (gp ps ((i + 2) % ps.length)).y) := hb1.cell (by first | assumption | simp [go_sem]))
     have hlw : Later w w1 := (by repeat' (first | exact Later.refl _ | assumption | refine Later.drew ?_ | refine Later.drewN ?_ _ | refine Later.alloc ?_ _ | refine Later.put ?_ (by omega) _ | refine Later.trans ?_ (by assumption)))
     have b1 : w1.cell? ⟨wo.heap.size, 0, none⟩ = some (.int .i64 (gp ps i).x) := by assumption
     have b2 : w1.cell? ⟨wo.heap.size, 1, none⟩ = some (.int .i64 (gp ps i).y) := by assumption
     have b3 : w1.cell? ⟨wo.heap.size + 1, 0, none⟩ = some (.int .i64 (gp ps ((i + 1) % ps.length)).x) := by assumption
     have b4 : w1.cell? ⟨wo.heap.size + 1, 1, none⟩ = some (.int .i64 (gp ps ((i + 1) % ps.length)).y) := by assumption
     clear hb1 cax cay cbx cby ccx ccy e1 e2 f1 f2 g1 g2 hbz
     go_loopw [2, 8] (fun r kk wq => ∃ k : Nat, i + 2 ≤ k ∧ kk = .int .i64 k ∧ rinnerGo ps i (ps.length - (i + 2)) (i + 2) = rinnerGo ps i (ps.length - k) k ∧ Later w wq ∧ k ≤ ps.length + 2 ∧
       wq.cell? ⟨wo.heap.size, 0, none⟩ = some (.int .i64 (gp ps i).x) ∧ wq.cell? ⟨wo.heap.size, 1, none⟩ = some (.int .i64 (gp ps i).y) ∧
       wq.cell? ⟨wo.heap.size + 1, 0, none⟩ = some (.int .i64 (gp ps ((i + 1) % ps.length)).x) ∧ wq.cell? ⟨wo.heap.size + 1, 1, none⟩ = some (.int .i64 (gp ps ((i + 1) % ps.length)).y)) (fun _ kk _ => ps.length - (intOf kk).toNat)
     case atStart => exact ⟨i + 2, by omega, by go_num, rfl, hlw, by omega, b1, b2, b3, b4⟩
     case round =>
      clear b1 b2 b3 b4 hlw
      obtain ⟨k, hik, rfl, he, hlw, hk2, b1, b2, b3, b4⟩ := hrel
      have Hin := Lib.hid he
      clear he
      have hk3 : (k : Int) ≤ 1099511627780 := by omega
      by_cases hlk : k < ps.length
      ·have hkm : (k + 1) % ps.length < ps.length := Nat.mod_lt _ (by omega)
       have hw2 : IntKind.i64.wrap ((k : Int) + 1) = (k : Int) + 1 := IntWalk.i64_in _ (by omega)
       have ht2 : ((k : Int) + 1).tmod (ps.length : Int) = ((k : Int) + 1) % (ps.length : Int) := Int.tmod_eq_emod_of_nonneg (by omega)
       by_cases hq : (k + 1) % ps.length = i
       ·have hq' : ((k : Int) + 1) % (ps.length : Int) = (i : Int) := by rw [← hq, Int.natCast_emod, Int.natCast_add]; rfl
        have hq1 : (((k : Int) + 1) % (ps.length : Int) != (i : Int)) = false := by rw [hq']; simp
        have Hq := Lib.hid hq
        clear hq hq'
        go_wp2
        refine wp_region_held_drew (S := (fun w' : World => (∀ a : Addr, (wr.cell? a).isSome = true → w'.cell? a = wr.cell? a) ∧ Later wr w')) (by kernel_rfl) (keep_init _) (fun hHeld => ?_)
        refine take_at (i := 0) (d := 56) (v := ?_) rfl rfl (by kernel_rfl) (by kernel_rfl) (by kernel_rfl) (fun _ _ _ h => h) (by rfl) ?_ (by assumption) ?_
        rotate_left
        ·(intro w hSw; (try dsimp only at hSw); go_simp; (try with_reducible rfl))
        simp only [Act.put, lsA, lsZ, lsS]
        refine take_at (i := 1) (d := 57) (v := ?_) rfl rfl (by kernel_rfl) (by kernel_rfl) (by kernel_rfl) (fun _ _ _ h => h) (by rfl) ?_ (by assumption) ?_
        rotate_left
        ·(intro w hSw; (try dsimp only at hSw); go_simp; (try with_reducible rfl))
        simp only [Act.put, lsA, lsZ, lsS]
        refine take_at (i := 2) (d := 58) (v := ?_) rfl rfl (by kernel_rfl) (by kernel_rfl) (by kernel_rfl) (fun _ _ _ h => h) (by rfl) ?_ (by assumption) ?_
        rotate_left
        ·(intro w hSw; (try dsimp only at hSw); go_simp; (try with_reducible rfl))
        simp only [Act.put, lsA, lsZ, lsS]
        refine take_at (i := 3) (d := 59) (v := ?_) rfl rfl (by kernel_rfl) (by kernel_rfl) (by kernel_rfl) (fun _ _ _ h => h) (by rfl) ?_ (by assumption) ?_
        rotate_left
        ·(intro w hSw; (try dsimp only at hSw); go_simp; (try with_reducible rfl))
        simp only [Act.put, lsA, lsZ, lsS]
        refine take_at (i := 4) (d := 60) (v := ?_) rfl rfl (by kernel_rfl) (by kernel_rfl) (by kernel_rfl) (fun _ _ _ h => h) (by rfl) ?_ (by assumption) ?_
        rotate_left
        ·(intro w hSw; (try dsimp only at hSw); go_simp; (try with_reducible rfl))
        simp only [Act.put, lsA, lsZ, lsS]
        refine take_at (i := 5) (d := 61) (v := ?_) rfl rfl (by kernel_rfl) (by kernel_rfl) (by kernel_rfl) (fun _ _ _ h => h) (by rfl) ?_ (by assumption) ?_
        rotate_left
        ·(intro w hSw; (try dsimp only at hSw); go_simp; (try with_reducible rfl))
        simp only [Act.put, lsA, lsZ, lsS]
        refine take_at (i := 6) (d := 62) (v := ?_) rfl rfl (by kernel_rfl) (by kernel_rfl) (by kernel_rfl) (fun _ _ _ h => h) (by rfl) ?_ (by assumption) ?_
        rotate_left
        ·(intro w hSw; (try dsimp only at hSw); go_simp; (try with_reducible rfl))
        simp only [Act.put, lsA, lsZ, lsS]
        refine skip_at (i := 7) (d := 63) rfl rfl (by kernel_rfl) (by kernel_rfl) (by kernel_rfl) (fun _ _ _ h => h) (by rfl) (by assumption) ?_
        simp only [Act.put, lsA, lsZ, lsS]
        refine skip_at (i := 8) (d := 64) rfl rfl (by kernel_rfl) (by kernel_rfl) (by kernel_rfl) (fun _ _ _ h => h) (by rfl) (by assumption) ?_
        simp only [Act.put, lsA, lsZ, lsS]
        refine skip_at (i := 9) (d := 65) rfl rfl (by kernel_rfl) (by kernel_rfl) (by kernel_rfl) (fun _ _ _ h => h) (by rfl) (by assumption) ?_
        simp only [Act.put, lsA, lsZ, lsS]
        refine skip_at (i := 10) (d := 66) rfl rfl (by kernel_rfl) (by kernel_rfl) (by kernel_rfl) (fun _ _ _ h => h) (by rfl) (by assumption) ?_
        simp only [Act.put, lsA, lsZ, lsS]
        refine skip_at (i := 11) (d := 67) rfl rfl (by kernel_rfl) (by kernel_rfl) (by kernel_rfl) (fun _ _ _ h => h) (by rfl) (by assumption) ?_
        simp only [Act.put, lsA, lsZ, lsS]
        refine skip_at (i := 12) (d := 68) rfl rfl (by kernel_rfl) (by kernel_rfl) (by kernel_rfl) (fun _ _ _ h => h) (by rfl) (by assumption) ?_
        simp only [Act.put, lsA, lsZ, lsS]
        refine skip_at (i := 13) (d := 69) rfl rfl (by kernel_rfl) (by kernel_rfl) (by kernel_rfl) (fun _ _ _ h => h) (by rfl) (by assumption) ?_
        simp only [Act.put, lsA, lsZ, lsS]
        refine skip_at (i := 14) (d := 70) rfl rfl (by kernel_rfl) (by kernel_rfl) (by kernel_rfl) (fun _ _ _ h => h) (by rfl) (by assumption) ?_
        simp only [Act.put, lsA, lsZ, lsS]
        refine skip_at (i := 15) (d := 71) rfl rfl (by kernel_rfl) (by kernel_rfl) (by kernel_rfl) (fun _ _ _ h => h) (by rfl) (by assumption) ?_
        simp only [Act.put, lsA, lsZ, lsS]
        refine skip_at (i := 16) (d := 72) rfl rfl (by kernel_rfl) (by kernel_rfl) (by kernel_rfl) (fun _ _ _ h => h) (by rfl) (by assumption) ?_
        simp only [Act.put, lsA, lsZ, lsS]
        refine skip_at (i := 17) (d := 73) rfl rfl (by kernel_rfl) (by kernel_rfl) (by kernel_rfl) (fun _ _ _ h => h) (by rfl) (by assumption) ?_
        simp only [Act.put, lsA, lsZ, lsS]
        refine skip_at (i := 18) (d := 74) rfl rfl (by kernel_rfl) (by kernel_rfl) (by kernel_rfl) (fun _ _ _ h => h) (by rfl) (by assumption) ?_
        simp only [Act.put, lsA, lsZ, lsS]
        refine skip_at (i := 19) (d := 75) rfl rfl (by kernel_rfl) (by kernel_rfl) (by kernel_rfl) (fun _ _ _ h => h) (by rfl) (by assumption) ?_
        simp only [Act.put, lsA, lsZ, lsS]
        refine skip_at (i := 20) (d := 76) rfl rfl (by kernel_rfl) (by kernel_rfl) (by kernel_rfl) (fun _ _ _ h => h) (by rfl) (by assumption) ?_
        simp only [Act.put, lsA, lsZ, lsS]
        refine take_at (i := 21) (d := 77) (v := ?_) rfl rfl (by kernel_rfl) (by kernel_rfl) (by kernel_rfl) (fun _ _ _ h => h) (by rfl) ?_ (by assumption) ?_
        rotate_left
        ·(intro w hSw; (try dsimp only at hSw); go_simp; (try with_reducible rfl))
        simp only [Act.put, lsA, lsZ, lsS]
        refine wpAnyH_done (by kernel_rfl) ?_ _
        go_wp2
        go_roundw
        case rel => exact ⟨k + 1, by omega, by go_num, by rw [Hin.out]; exact rinner_step hlk (.inl Hq.out), hlw.drew, by omega, b1, b2, b3, b4⟩
        case measure => simp [intOf]; omega
       ·have hq1 : (((k : Int) + 1) % (ps.length : Int) != (i : Int)) = true := by
         rw [bne_iff_ne]
         intro h
         apply hq
         have : (((k + 1) % ps.length : Nat) : Int) = (i : Int) := by rw [Int.natCast_emod, Int.natCast_add]; exact h
         omega
        have Hq := Lib.hid hq
        clear hq
        obtain ⟨b', o', hA, e1, e2⟩ := (hp.later hlw).gp hlk
        obtain ⟨rfl, rfl⟩ : b = b' ∧ o = o' := by simpa using hA
        obtain ⟨b', o', hA, f1, f2⟩ := (hp.later hlw).gp hkm
        obtain ⟨rfl, rfl⟩ : b = b' ∧ o = o' := by simpa using hA
        have s3 := hsm k
        have s4 := hsm ((k + 1) % ps.length)
        have hi2 : (0 : Int) ≤ ((k : Int) + 1) % (ps.length : Int) ∧ ((k : Int) + 1) % (ps.length : Int) < (ps.length : Int) := ⟨Int.emod_nonneg _ (by omega), Int.emod_lt_of_pos _ (by omega)⟩
        have hn2 : (((k : Int) + 1) % (ps.length : Int)).toNat = (k + 1) % ps.length := toNat_emod k 1 ps.length
        rcases hmt : meetP (gp ps i) (gp ps ((i + 1) % ps.length)) (gp ps k) (gp ps ((k + 1) % ps.length)) with _ | _
        ·have Hmt := Lib.hid hmt
         unfold meetP at hmt
         go_wp2
         go_region_held3 (fun w' : World => (∀ a : Addr, (wr.cell? a).isSome = true → w'.cell? a = wr.cell? a) ∧ Later wr w') (first | assumption | exact keep_call (by assumption) (by assumption) | exact keep_call (by assumption) ((Later.refl _).alloc _) | exact keep_init _)
          (first | (go_at_call 222; refine (ref11_meet _ _ _ _ _ _ _ _ _ s1.1 s1.2 s2.1 s2.2 s3.1 s3.2 s4.1 s4.2).mono ?_; rintro e w1 ⟨rfl, hb1⟩))
         rename_i hHw
         clear e1 e2 f1 f2
         have c1 := hHw.2.cell b1
         have c2 := hHw.2.cell b2
         have c3 := hHw.2.cell b3
         have c4 := hHw.2.cell b4
         have hl2 := hlw.trans hHw.2
         clear hHw hb1
         go_wp2
         go_roundw
         case rel =>
          have hrl : ∃ k' : Nat, i + 2 ≤ k' ∧ Value.int .i64 ((k : Int) + 1) = .int .i64 k' ∧ rinnerGo ps i (ps.length - (i + 2)) (i + 2) = rinnerGo ps i (ps.length - k') k' ∧ Later w w1 ∧ k' ≤ ps.length + 2 ∧
           w1.cell? ⟨wo.heap.size, 0, none⟩ = some (.int .i64 (gp ps i).x) ∧ w1.cell? ⟨wo.heap.size, 1, none⟩ = some (.int .i64 (gp ps i).y) ∧
           w1.cell? ⟨wo.heap.size + 1, 0, none⟩ = some (.int .i64 (gp ps ((i + 1) % ps.length)).x) ∧ w1.cell? ⟨wo.heap.size + 1, 1, none⟩ = some (.int .i64 (gp ps ((i + 1) % ps.length)).y) :=
           ⟨k + 1, by omega, by go_num, by rw [Hin.out]; exact rinner_step hlk (.inr Hmt.out), hl2, by omega, c1, c2, c3, c4⟩
          first
           | exact hrl
           | ((repeat apply Exists.intro); exact ⟨hrl, rfl⟩)
         case measure => simp [intOf]; omega
        ·have Hmt := Lib.hid hmt
         unfold meetP at hmt
         go_wp2
         go_region_held3 (fun w' : World => (∀ a : Addr, (wr.cell? a).isSome = true → w'.cell? a = wr.cell? a) ∧ Later wr w') (first | assumption | exact keep_call (by assumption) (by assumption) | exact keep_call (by assumption) ((Later.refl _).alloc _) | exact keep_init _)
          (first | (go_at_call 222; refine (ref11_meet _ _ _ _ _ _ _ _ _ s1.1 s1.2 s2.1 s2.2 s3.1 s3.2 s4.1 s4.2).mono ?_; rintro e w1 ⟨rfl, hb1⟩))
         rename_i hHw
         go_wp2
         go_ret
         exact ⟨ret_bool (by rw [He.out]; exact (router_meets hli Hf.out (by rw [Hin.out]; exact rinner_hit hlk Hq.out Hmt.out)).symm), hlw.trans hHw.2⟩
      ·go_wp2
       go_roundw
       case rel => exact ⟨i + 1, by omega, by go_num, router_step He.out hli Hf.out (by rw [Hin.out, show ps.length - k = 0 by omega]; rfl), hlw⟩
       case measure => simp [intOf]; omega
    ·clear hw1 ht1 hi1 hn1
     go_wp2_with (go_at_call 221; refine (ref11_Between _ _ _ _ _ _ _ (by first | exact s1.1 | exact s2.1 | exact s3.1) (by first | exact s1.2 | exact s2.2 | exact s3.2) (by first | exact s1.1 | exact s2.1 | exact s3.1) (by first | exact s1.2 | exact s2.2 | exact s3.2) (by first | exact s1.1 | exact s2.1 | exact s3.1) (by first | exact s1.2 | exact s2.2 | exact s3.2)).mono ?_; rintro e w1 ⟨rfl, hb1⟩; have cax : w1.cell? ⟨wo.heap.size + 1, 0, none⟩ = some (.int .i64 (gp ps i).x) := hb1.cell (by first | assumption | simp [go_sem]); have cay : w1.cell? ⟨wo.heap.size + 1, 1, none⟩ = some (.int .i64 (gp ps i).y) := hb1.cell (by first | assumption | simp [go_sem]); have cbx : w1.cell? ⟨wo.heap.size, 0, none⟩ = some (.int .i64 (gp ps ((i + 1) % ps.length)).x) := hb1.cell (by first | assumption | simp [go_sem]); have cby : w1.cell? ⟨wo.heap.size, 1, none⟩ = some (.int .i64 (gp ps ((i + 1) % ps.length)).y) := hb1.cell (by first | assumption | simp [go_sem]); have ccx : w1.cell? ⟨wo.heap.size + 1 + 1, 0, none⟩ = some (.int .i64 (gp ps ((i + 2) % ps.length)).x) := hb1.cell (by first | assumption | simp [go_sem]); have ccy : w1.cell? ⟨wo.heap.size + 1 + 1, 1, none⟩ = some (.int .i64 (gp ps ((i + 2) % ps.length)).y) := hb1.cell (by first | assumption | simp [go_sem]))
     have hlw : Later w w1 := (by repeat' (first | exact Later.refl _ | assumption | refine Later.drew ?_ | refine Later.drewN ?_ _ | refine Later.alloc ?_ _ | refine Later.put ?_ (by omega) _ | refine Later.trans ?_ (by assumption)))
     have b1 : w1.cell? ⟨wo.heap.size + 1, 0, none⟩ = some (.int .i64 (gp ps i).x) := by assumption
     have b2 : w1.cell? ⟨wo.heap.size + 1, 1, none⟩ = some (.int .i64 (gp ps i).y) := by assumption
     have b3 : w1.cell? ⟨wo.heap.size, 0, none⟩ = some (.int .i64 (gp ps ((i + 1) % ps.length)).x) := by assumption
     have b4 : w1.cell? ⟨wo.heap.size, 1, none⟩ = some (.int .i64 (gp ps ((i + 1) % ps.length)).y) := by assumption
     clear hb1 cax cay cbx cby ccx ccy e1 e2 f1 f2 g1 g2 hbz
     go_loopw [2, 8] (fun r kk wq => ∃ k : Nat, i + 2 ≤ k ∧ kk = .int .i64 k ∧ rinnerGo ps i (ps.length - (i + 2)) (i + 2) = rinnerGo ps i (ps.length - k) k ∧ Later w wq ∧ k ≤ ps.length + 2 ∧
       wq.cell? ⟨wo.heap.size + 1, 0, none⟩ = some (.int .i64 (gp ps i).x) ∧ wq.cell? ⟨wo.heap.size + 1, 1, none⟩ = some (.int .i64 (gp ps i).y) ∧
       wq.cell? ⟨wo.heap.size, 0, none⟩ = some (.int .i64 (gp ps ((i + 1) % ps.length)).x) ∧ wq.cell? ⟨wo.heap.size, 1, none⟩ = some (.int .i64 (gp ps ((i + 1) % ps.length)).y)) (fun _ kk _ => ps.length - (intOf kk).toNat)
     case atStart => exact ⟨i + 2, by omega, by go_num, rfl, hlw, by omega, b1, b2, b3, b4⟩
     case round =>
      clear b1 b2 b3 b4 hlw
      obtain ⟨k, hik, rfl, he, hlw, hk2, b1, b2, b3, b4⟩ := hrel
      have Hin := Lib.hid he
      clear he
      have hk3 : (k : Int) ≤ 1099511627780 := by omega
      by_cases hlk : k < ps.length
      ·have hkm : (k + 1) % ps.length < ps.length := Nat.mod_lt _ (by omega)
       have hw2 : IntKind.i64.wrap ((k : Int) + 1) = (k : Int) + 1 := IntWalk.i64_in _ (by omega)
       have ht2 : ((k : Int) + 1).tmod (ps.length : Int) = ((k : Int) + 1) % (ps.length : Int) := Int.tmod_eq_emod_of_nonneg (by omega)
       by_cases hq : (k + 1) % ps.length = i
       ·have hq' : ((k : Int) + 1) % (ps.length : Int) = (i : Int) := by rw [← hq, Int.natCast_emod, Int.natCast_add]; rfl
        have hq1 : (((k : Int) + 1) % (ps.length : Int) != (i : Int)) = false := by rw [hq']; simp
        have Hq := Lib.hid hq
        clear hq hq'
        go_wp2
        refine wp_region_held_drew (S := (fun w' : World => (∀ a : Addr, (wr.cell? a).isSome = true → w'.cell? a = wr.cell? a) ∧ Later wr w')) (by kernel_rfl) (keep_init _) (fun hHeld => ?_)
        refine take_at (i := 0) (d := 56) (v := ?_) rfl rfl (by kernel_rfl) (by kernel_rfl) (by kernel_rfl) (fun _ _ _ h => h) (by rfl) ?_ (by assumption) ?_
        rotate_left
        ·(intro w hSw; (try dsimp only at hSw); go_simp; (try with_reducible rfl))
        simp only [Act.put, lsA, lsZ, lsS]
        refine take_at (i := 1) (d := 57) (v := ?_) rfl rfl (by kernel_rfl) (by kernel_rfl) (by kernel_rfl) (fun _ _ _ h => h) (by rfl) ?_ (by assumption) ?_
        rotate_left
        ·(intro w hSw; (try dsimp only at hSw); go_simp; (try with_reducible rfl))
        simp only [Act.put, lsA, lsZ, lsS]
        refine take_at (i := 2) (d := 58) (v := ?_) rfl rfl (by kernel_rfl) (by kernel_rfl) (by kernel_rfl) (fun _ _ _ h => h) (by rfl) ?_ (by assumption) ?_
        rotate_left
        ·(intro w hSw; (try dsimp only at hSw); go_simp; (try with_reducible rfl))
        simp only [Act.put, lsA, lsZ, lsS]
        refine take_at (i := 3) (d := 59) (v := ?_) rfl rfl (by kernel_rfl) (by kernel_rfl) (by kernel_rfl) (fun _ _ _ h => h) (by rfl) ?_ (by assumption) ?_
        rotate_left
        ·(intro w hSw; (try dsimp only at hSw); go_simp; (try with_reducible rfl))
        simp only [Act.put, lsA, lsZ, lsS]
        refine take_at (i := 4) (d := 60) (v := ?_) rfl rfl (by kernel_rfl) (by kernel_rfl) (by kernel_rfl) (fun _ _ _ h => h) (by rfl) ?_ (by assumption) ?_
        rotate_left
        ·(intro w hSw; (try dsimp only at hSw); go_simp; (try with_reducible rfl))
        simp only [Act.put, lsA, lsZ, lsS]
        refine take_at (i := 5) (d := 61) (v := ?_) rfl rfl (by kernel_rfl) (by kernel_rfl) (by kernel_rfl) (fun _ _ _ h => h) (by rfl) ?_ (by assumption) ?_
        rotate_left
        ·(intro w hSw; (try dsimp only at hSw); go_simp; (try with_reducible rfl))
        simp only [Act.put, lsA, lsZ, lsS]
        refine take_at (i := 6) (d := 62) (v := ?_) rfl rfl (by kernel_rfl) (by kernel_rfl) (by kernel_rfl) (fun _ _ _ h => h) (by rfl) ?_ (by assumption) ?_
        rotate_left
        ·(intro w hSw; (try dsimp only at hSw); go_simp; (try with_reducible rfl))
        simp only [Act.put, lsA, lsZ, lsS]
        refine skip_at (i := 7) (d := 63) rfl rfl (by kernel_rfl) (by kernel_rfl) (by kernel_rfl) (fun _ _ _ h => h) (by rfl) (by assumption) ?_
        simp only [Act.put, lsA, lsZ, lsS]
        refine skip_at (i := 8) (d := 64) rfl rfl (by kernel_rfl) (by kernel_rfl) (by kernel_rfl) (fun _ _ _ h => h) (by rfl) (by assumption) ?_
        simp only [Act.put, lsA, lsZ, lsS]
        refine skip_at (i := 9) (d := 65) rfl rfl (by kernel_rfl) (by kernel_rfl) (by kernel_rfl) (fun _ _ _ h => h) (by rfl) (by assumption) ?_
        simp only [Act.put, lsA, lsZ, lsS]
        refine skip_at (i := 10) (d := 66) rfl rfl (by kernel_rfl) (by kernel_rfl) (by kernel_rfl) (fun _ _ _ h => h) (by rfl) (by assumption) ?_
        simp only [Act.put, lsA, lsZ, lsS]
        refine skip_at (i := 11) (d := 67) rfl rfl (by kernel_rfl) (by kernel_rfl) (by kernel_rfl) (fun _ _ _ h => h) (by rfl) (by assumption) ?_
        simp only [Act.put, lsA, lsZ, lsS]
        refine skip_at (i := 12) (d := 68) rfl rfl (by kernel_rfl) (by kernel_rfl) (by kernel_rfl) (fun _ _ _ h => h) (by rfl) (by assumption) ?_
        simp only [Act.put, lsA, lsZ, lsS]
        refine skip_at (i := 13) (d := 69) rfl rfl (by kernel_rfl) (by kernel_rfl) (by kernel_rfl) (fun _ _ _ h => h) (by rfl) (by assumption) ?_
        simp only [Act.put, lsA, lsZ, lsS]
        refine skip_at (i := 14) (d := 70) rfl rfl (by kernel_rfl) (by kernel_rfl) (by kernel_rfl) (fun _ _ _ h => h) (by rfl) (by assumption) ?_
        simp only [Act.put, lsA, lsZ, lsS]
        refine skip_at (i := 15) (d := 71) rfl rfl (by kernel_rfl) (by kernel_rfl) (by kernel_rfl) (fun _ _ _ h => h) (by rfl) (by assumption) ?_
        simp only [Act.put, lsA, lsZ, lsS]
        refine skip_at (i := 16) (d := 72) rfl rfl (by kernel_rfl) (by kernel_rfl) (by kernel_rfl) (fun _ _ _ h => h) (by rfl) (by assumption) ?_
        simp only [Act.put, lsA, lsZ, lsS]
        refine skip_at (i := 17) (d := 73) rfl rfl (by kernel_rfl) (by kernel_rfl) (by kernel_rfl) (fun _ _ _ h => h) (by rfl) (by assumption) ?_
        simp only [Act.put, lsA, lsZ, lsS]
        refine skip_at (i := 18) (d := 74) rfl rfl (by kernel_rfl) (by kernel_rfl) (by kernel_rfl) (fun _ _ _ h => h) (by rfl) (by assumption) ?_
        simp only [Act.put, lsA, lsZ, lsS]
        refine skip_at (i := 19) (d := 75) rfl rfl (by kernel_rfl) (by kernel_rfl) (by kernel_rfl) (fun _ _ _ h => h) (by rfl) (by assumption) ?_
        simp only [Act.put, lsA, lsZ, lsS]
        refine skip_at (i := 20) (d := 76) rfl rfl (by kernel_rfl) (by kernel_rfl) (by kernel_rfl) (fun _ _ _ h => h) (by rfl) (by assumption) ?_
        simp only [Act.put, lsA, lsZ, lsS]
        refine take_at (i := 21) (d := 77) (v := ?_) rfl rfl (by kernel_rfl) (by kernel_rfl) (by kernel_rfl) (fun _ _ _ h => h) (by rfl) ?_ (by assumption) ?_
        rotate_left
        ·(intro w hSw; (try dsimp only at hSw); go_simp; (try with_reducible rfl))
        simp only [Act.put, lsA, lsZ, lsS]
        refine wpAnyH_done (by kernel_rfl) ?_ _
        go_wp2
        go_roundw
        case rel => exact ⟨k + 1, by omega, by go_num, by rw [Hin.out]; exact rinner_step hlk (.inl Hq.out), hlw.drew, by omega, b1, b2, b3, b4⟩
        case measure => simp [intOf]; omega
       ·have hq1 : (((k : Int) + 1) % (ps.length : Int) != (i : Int)) = true := by
         rw [bne_iff_ne]
         intro h
         apply hq
         have : (((k + 1) % ps.length : Nat) : Int) = (i : Int) := by rw [Int.natCast_emod, Int.natCast_add]; exact h
         omega
        have Hq := Lib.hid hq
        clear hq
        obtain ⟨b', o', hA, e1, e2⟩ := (hp.later hlw).gp hlk
        obtain ⟨rfl, rfl⟩ : b = b' ∧ o = o' := by simpa using hA
        obtain ⟨b', o', hA, f1, f2⟩ := (hp.later hlw).gp hkm
        obtain ⟨rfl, rfl⟩ : b = b' ∧ o = o' := by simpa using hA
        have s3 := hsm k
        have s4 := hsm ((k + 1) % ps.length)
        have hi2 : (0 : Int) ≤ ((k : Int) + 1) % (ps.length : Int) ∧ ((k : Int) + 1) % (ps.length : Int) < (ps.length : Int) := ⟨Int.emod_nonneg _ (by omega), Int.emod_lt_of_pos _ (by omega)⟩
        have hn2 : (((k : Int) + 1) % (ps.length : Int)).toNat = (k + 1) % ps.length := toNat_emod k 1 ps.length
        rcases hmt : meetP (gp ps i) (gp ps ((i + 1) % ps.length)) (gp ps k) (gp ps ((k + 1) % ps.length)) with _ | _
        ·have Hmt := Lib.hid hmt
         unfold meetP at hmt
         go_wp2
         go_region_held3 (fun w' : World => (∀ a : Addr, (wr.cell? a).isSome = true → w'.cell? a = wr.cell? a) ∧ Later wr w') (first | assumption | exact keep_call (by assumption) (by assumption) | exact keep_call (by assumption) ((Later.refl _).alloc _) | exact keep_init _)
          (first | (go_at_call 222; refine (ref11_meet _ _ _ _ _ _ _ _ _ s1.1 s1.2 s2.1 s2.2 s3.1 s3.2 s4.1 s4.2).mono ?_; rintro e w1 ⟨rfl, hb1⟩))
         rename_i hHw
         clear e1 e2 f1 f2
         have c1 := hHw.2.cell b1
         have c2 := hHw.2.cell b2
         have c3 := hHw.2.cell b3
         have c4 := hHw.2.cell b4
         have hl2 := hlw.trans hHw.2
         clear hHw hb1
         go_wp2
         go_roundw
         case rel =>
          have hrl : ∃ k' : Nat, i + 2 ≤ k' ∧ Value.int .i64 ((k : Int) + 1) = .int .i64 k' ∧ rinnerGo ps i (ps.length - (i + 2)) (i + 2) = rinnerGo ps i (ps.length - k') k' ∧ Later w w1 ∧ k' ≤ ps.length + 2 ∧
           w1.cell? ⟨wo.heap.size + 1, 0, none⟩ = some (.int .i64 (gp ps i).x) ∧ w1.cell? ⟨wo.heap.size + 1, 1, none⟩ = some (.int .i64 (gp ps i).y) ∧
           w1.cell? ⟨wo.heap.size, 0, none⟩ = some (.int .i64 (gp ps ((i + 1) % ps.length)).x) ∧ w1.cell? ⟨wo.heap.size, 1, none⟩ = some (.int .i64 (gp ps ((i + 1) % ps.length)).y) :=
           ⟨k + 1, by omega, by go_num, by rw [Hin.out]; exact rinner_step hlk (.inr Hmt.out), hl2, by omega, c1, c2, c3, c4⟩
          first
           | exact hrl
           | ((repeat apply Exists.intro); exact ⟨hrl, rfl⟩)
         case measure => simp [intOf]; omega
        ·have Hmt := Lib.hid hmt
         unfold meetP at hmt
         go_wp2
         go_region_held3 (fun w' : World => (∀ a : Addr, (wr.cell? a).isSome = true → w'.cell? a = wr.cell? a) ∧ Later wr w') (first | assumption | exact keep_call (by assumption) (by assumption) | exact keep_call (by assumption) ((Later.refl _).alloc _) | exact keep_init _)
          (first | (go_at_call 222; refine (ref11_meet _ _ _ _ _ _ _ _ _ s1.1 s1.2 s2.1 s2.2 s3.1 s3.2 s4.1 s4.2).mono ?_; rintro e w1 ⟨rfl, hb1⟩))
         rename_i hHw
         go_wp2
         go_ret
         exact ⟨ret_bool (by rw [He.out]; exact (router_meets hli Hf.out (by rw [Hin.out]; exact rinner_hit hlk Hq.out Hmt.out)).symm), hlw.trans hHw.2⟩
      ·go_wp2
       go_roundw
       case rel => exact ⟨i + 1, by omega, by go_num, router_step He.out hli Hf.out (by rw [Hin.out, show ps.length - k = 0 by omega]; rfl), hlw⟩
       case measure => simp [intOf]; omega
   ·have Hf := Lib.hid hf
    clear hf
    have heq := eql_spot
    go_wp2
    go_region
    ·clear hw1 ht1 hi1 hn1
     go_wp2_with (go_at_call 221; refine (ref11_Between _ _ _ _ _ _ _ (by first | exact s1.1 | exact s2.1 | exact s3.1) (by first | exact s1.2 | exact s2.2 | exact s3.2) (by first | exact s1.1 | exact s2.1 | exact s3.1) (by first | exact s1.2 | exact s2.2 | exact s3.2) (by first | exact s1.1 | exact s2.1 | exact s3.1) (by first | exact s1.2 | exact s2.2 | exact s3.2)).mono ?_; rintro e w1 ⟨rfl, hb1⟩; have cax : w1.cell? ⟨wo.heap.size, 0, none⟩ = some (.int .i64 (gp ps i).x) := hb1.cell (by first | assumption | simp [go_sem]); have cay : w1.cell? ⟨wo.heap.size, 1, none⟩ = some (.int .i64 (gp ps i).y) := hb1.cell (by first | assumption | simp [go_sem]); have cbx : w1.cell? ⟨wo.heap.size + 1, 0, none⟩ = some (.int .i64 (gp ps ((i + 1) % ps.length)).x) := hb1.cell (by first | assumption | simp [go_sem]); have cby : w1.cell? ⟨wo.heap.size + 1, 1, none⟩ = some (.int .i64 (gp ps ((i + 1) % ps.length)).y) := hb1.cell (by first | assumption | simp [go_sem]); have ccx : w1.cell? ⟨wo.heap.size + 1 + 1, 0, none⟩ = some (.int .i64 (gp ps ((i + 2) % ps.length)).x) := hb1.cell (by first | assumption | simp [go_sem]); have ccy : w1.cell? ⟨wo.heap.size + 1 + 1, 1, none⟩ = some (.int .i64 (gp ps ((i + 2) % ps.length)).y) := hb1.cell (by first | assumption | simp [go_sem]))
     all_goals first | (go_ret; exact ⟨ret_bool (by rw [He.out]; exact (router_bad hli Hf.out).symm), (by repeat' (first | exact Later.refl _ | assumption | refine Later.drew ?_ | refine Later.drewN ?_ _ | refine Later.alloc ?_ _ | refine Later.put ?_ (by omega) _ | refine Later.trans ?_ (by assumption)))⟩) | (exfalso; have hbad := Hf.out; simp_all [badAt, onP] <;> omega)
    ·clear hw1 ht1 hi1 hn1
     go_wp2_with (go_at_call 221; refine (ref11_Between _ _ _ _ _ _ _ (by first | exact s1.1 | exact s2.1 | exact s3.1) (by first | exact s1.2 | exact s2.2 | exact s3.2) (by first | exact s1.1 | exact s2.1 | exact s3.1) (by first | exact s1.2 | exact s2.2 | exact s3.2) (by first | exact s1.1 | exact s2.1 | exact s3.1) (by first | exact s1.2 | exact s2.2 | exact s3.2)).mono ?_; rintro e w1 ⟨rfl, hb1⟩; have cax : w1.cell? ⟨wo.heap.size + 1, 0, none⟩ = some (.int .i64 (gp ps i).x) := hb1.cell (by first | assumption | simp [go_sem]); have cay : w1.cell? ⟨wo.heap.size + 1, 1, none⟩ = some (.int .i64 (gp ps i).y) := hb1.cell (by first | assumption | simp [go_sem]); have cbx : w1.cell? ⟨wo.heap.size, 0, none⟩ = some (.int .i64 (gp ps ((i + 1) % ps.length)).x) := hb1.cell (by first | assumption | simp [go_sem]); have cby : w1.cell? ⟨wo.heap.size, 1, none⟩ = some (.int .i64 (gp ps ((i + 1) % ps.length)).y) := hb1.cell (by first | assumption | simp [go_sem]); have ccx : w1.cell? ⟨wo.heap.size + 1 + 1, 0, none⟩ = some (.int .i64 (gp ps ((i + 2) % ps.length)).x) := hb1.cell (by first | assumption | simp [go_sem]); have ccy : w1.cell? ⟨wo.heap.size + 1 + 1, 1, none⟩ = some (.int .i64 (gp ps ((i + 2) % ps.length)).y) := hb1.cell (by first | assumption | simp [go_sem]))
     all_goals first | (go_ret; exact ⟨ret_bool (by rw [He.out]; exact (router_bad hli Hf.out).symm), (by repeat' (first | exact Later.refl _ | assumption | refine Later.drew ?_ | refine Later.drewN ?_ _ | refine Later.alloc ?_ _ | refine Later.put ?_ (by omega) _ | refine Later.trans ?_ (by assumption)))⟩) | (exfalso; have hbad := Hf.out; simp_all [badAt, onP] <;> omega)
  ·go_wp2
   go_ret
   exact ⟨ret_bool (by rw [He.out, show ps.length - i = 0 by omega]; rfl), hb⟩
end Go.Proofs.YtdhakoecjmaebaaGreat
namespace Go.Proofs.YtdhakoecjmaebaaGreat
open Go.RowKit
set_option linter.unusedSimpArgs false
set_option linter.unusedVariables false
def rcheckI (ps : List Pt) : Int :=
 if 40 < ps.length then 5 else if ps.length < 3 then 11 else if ps.any (fun p => outsideB p.x p.y) then 3 else if rsimpleB ps then 0 else 11
set_option maxHeartbeats 1000000 in
theorem ref11_Check (A : Option Addr) (c : Nat) (ps : List Pt) (w : World) (hn : ps.length ≤ 1099511627776) (hcap : ps.length ≤ c) (hp : Pts w A ps) :
  Calls Tryz.prog 135 #[.slice A ps.length c] w (Ret (.int .i64 (rcheckI ps)) w) := by
 by_cases h1 : 40 < ps.length
 ·have Hr := Lib.hid (show rcheckI ps = 5 by rw [rcheckI, if_pos h1])
  go_enter Tryz.func135, Tryz.ntmps135
  go_wp2
  go_ret
  exact ⟨ret_int (by rw [Hr.out]), Later.refl _⟩
 by_cases h2 : ps.length < 3
 ·have Hr := Lib.hid (show rcheckI ps = 11 by rw [rcheckI, if_neg h1, if_pos h2])
  go_enter Tryz.func135, Tryz.ntmps135
  go_wp2
  go_ret
  exact ⟨ret_int (by rw [Hr.out]), Later.refl _⟩
 obtain ⟨b, o, rfl, _⟩ := hp (by omega)
 go_enter Tryz.func135, Tryz.ntmps135
 go_wp2
 go_loopw [2, 3] (fun r i wr => ∃ k : Nat, k ≤ ps.length ∧ i = .int .i64 k ∧ ps.any (fun p => outsideB p.x p.y) = (ps.drop k).any (fun p => outsideB p.x p.y) ∧ Later w wr) (fun _ i _ => ps.length - (intOf i).toNat)
 case atStart => exact ⟨0, by omega, rfl, rfl, Later.refl _⟩
 case round =>
  obtain ⟨k, hk, rfl, he, hb⟩ := hrel
  have He := Lib.hid he
  clear he
  by_cases hlt : k < ps.length
  ·obtain ⟨b', o', hA, e1, e2⟩ := (hp.later hb).at_ hlt
   obtain ⟨rfl, rfl⟩ : b = b' ∧ o = o' := by simpa using hA
   have Hd := Lib.hid (drop_cons ps k hlt)
   generalize ps[k] = p at *
   obtain ⟨px, py⟩ := p
   rcases ho : outsideB px py with _ | _
   ·go_wp2_with (go_at_call 185; refine (ref11_Within _ _ _).mono ?_; rintro e w1 ⟨rfl, hb1⟩)
    go_roundw
    case rel => exact ⟨k + 1, by omega, by go_num, by rw [He.out, Hd.out]; simp [ho], (by repeat' (first | exact Later.refl _ | assumption | refine Later.drew ?_ | refine Later.drewN ?_ _ | refine Later.alloc ?_ _ | refine Later.put ?_ (by omega) _ | refine Later.trans ?_ (by assumption)))⟩
    case measure => simp [intOf]; omega
   ·have Hr := Lib.hid (show rcheckI ps = 3 by rw [rcheckI, if_neg h1, if_neg h2, He.out, Hd.out]; simp [ho])
    go_wp2_with (go_at_call 185; refine (ref11_Within _ _ _).mono ?_; rintro e w1 ⟨rfl, hb1⟩)
    go_ret
    exact ⟨ret_int (by rw [Hr.out]), (by repeat' (first | exact Later.refl _ | assumption | refine Later.drew ?_ | refine Later.drewN ?_ _ | refine Later.alloc ?_ _ | refine Later.put ?_ (by omega) _ | refine Later.trans ?_ (by assumption)))⟩
  ·have h3 : ps.any (fun p => outsideB p.x p.y) = false := by rw [He.out, List.drop_eq_nil_of_le (by omega)]; rfl
   have hsm := small_of h3
   have hp1 := hp.later hb
   rcases h4 : rsimpleB ps with _ | _
   ·have Hr := Lib.hid (show rcheckI ps = 11 by rw [rcheckI, if_neg h1, if_neg h2, h3, h4]; rfl)
    clear h3
    go_wp2_with (go_at_call 186; refine (ref11_simple _ _ _ _ _ hn hcap (by omega) hp1 hsm).mono ?_; rintro e w2 ⟨rfl, hb2⟩)
    go_ret
    exact ⟨ret_int (by rw [Hr.out]), (by repeat' (first | exact Later.refl _ | assumption | refine Later.drew ?_ | refine Later.drewN ?_ _ | refine Later.alloc ?_ _ | refine Later.put ?_ (by omega) _ | refine Later.trans ?_ (by assumption)))⟩
   ·have Hr := Lib.hid (show rcheckI ps = 0 by rw [rcheckI, if_neg h1, if_neg h2, h3, h4]; rfl)
    clear h3
    go_wp2_with (go_at_call 186; refine (ref11_simple _ _ _ _ _ hn hcap (by omega) hp1 hsm).mono ?_; rintro e w2 ⟨rfl, hb2⟩)
    go_ret
    exact ⟨ret_int (by rw [Hr.out]), (by repeat' (first | exact Later.refl _ | assumption | refine Later.drew ?_ | refine Later.drewN ?_ _ | refine Later.alloc ?_ _ | refine Later.put ?_ (by omega) _ | refine Later.trans ?_ (by assumption)))⟩
end Go.Proofs.YtdhakoecjmaebaaGreat
