/-
  The walk of polygon.simple.
-/
import Derived.Test.YtolddfapanabbaaPolyA
namespace Go.Proofs.Ytolddfapanabbaa
open Go.RowKit
set_option linter.unusedSimpArgs false
set_option linter.unusedVariables false

theorem tmod_nat (i j n : Nat) : ((i : Int) + (j : Int)).tmod (n : Int) = (((i + j) % n : Nat) : Int) := by
  rw [Int.tmod_eq_emod_of_nonneg (by omega), Int.natCast_emod, Int.natCast_add]

theorem toNat_emod (i j n : Nat) : (((i : Int) + (j : Int)) % (n : Int)).toNat = (i + j) % n := by
  rw [show ((i : Int) + (j : Int)) % (n : Int) = (((i + j) % n : Nat) : Int) by rw [Int.natCast_emod, Int.natCast_add]]
  exact Int.toNat_natCast _

def gp (ps : List Pt) (j : Nat) : Pt := ps.getD j ⟨0, 0⟩
theorem gp_eq {ps : List Pt} {j : Nat} (h : j < ps.length) : gp ps j = ps[j] := by simp [gp, h]

/-- A point comes twice. -/
def dupGo (pre : List Pt) : List Pt → Bool
  | [] => false
  | p :: l => if p ∈ pre then true else dupGo (pre ++ [p]) l
def meetP (a b c d : Pt) : Bool := meetB a.x a.y b.x b.y c.x c.y d.x d.y
def foldedP (a b c : Pt) : Bool := foldedB a.x a.y b.x b.y c.x c.y
/-- A side from k on, up to the last that is no neighbour, meets side i. -/
def innerGo (ps : List Pt) (i : Nat) : Nat → Nat → Bool
  | 0, _ => false
  | f + 1, k => if (k + 1) % ps.length = i then false else if meetP (gp ps i) (gp ps ((i + 1) % ps.length)) (gp ps k) (gp ps ((k + 1) % ps.length)) then true else innerGo ps i f (k + 1)
def outerGo (ps : List Pt) : Nat → Nat → Bool
  | 0, _ => true
  | f + 1, i => if foldedP (gp ps i) (gp ps ((i + 1) % ps.length)) (gp ps ((i + 2) % ps.length)) then false else if innerGo ps i (ps.length - (i + 2)) (i + 2) then false else outerGo ps f (i + 1)
def simpleB (ps : List Pt) : Bool := if dupGo [] ps then false else outerGo ps ps.length 0

theorem Pts.gp {w : World} {A : Option Addr} {ps : List Pt} (h : Pts w A ps) {k : Nat} (hk : k < ps.length) :
    ∃ b o, A = some ⟨b, o, none⟩ ∧ w.cell? ⟨b, o + k * 2, none⟩ = some (.int .i64 (gp ps k).x) ∧ w.cell? ⟨b, o + k * 2 + 1, none⟩ = some (.int .i64 (gp ps k).y) := by
  rw [gp_eq hk]
  exact h.at_ hk
/-- All points are small. -/
def AllSm (ps : List Pt) : Prop := ∀ j, SmP (gp ps j)

theorem dup_hit {p : Pt} {pre l : List Pt} (h : p ∈ pre) : dupGo pre (p :: l) = true := by rw [dupGo, if_pos h]
theorem dup_miss {p : Pt} {pre l : List Pt} (h : ¬ p ∈ pre) : dupGo pre (p :: l) = dupGo (pre ++ [p]) l := by rw [dupGo, if_neg h]


def simpleTail (ps : List Pt) : Bool := outerGo ps ps.length 0

theorem outer_folded {ps : List Pt} {i : Nat} (h : i < ps.length) (hf : foldedP (gp ps i) (gp ps ((i + 1) % ps.length)) (gp ps ((i + 2) % ps.length)) = true) : outerGo ps (ps.length - i) i = false := by
  obtain ⟨f, hf'⟩ : ∃ f, ps.length - i = f + 1 := ⟨ps.length - i - 1, by omega⟩
  rw [hf', outerGo, if_pos hf]
theorem outer_meets {ps : List Pt} {i : Nat} (h : i < ps.length) (hf : foldedP (gp ps i) (gp ps ((i + 1) % ps.length)) (gp ps ((i + 2) % ps.length)) = false) (hm : innerGo ps i (ps.length - (i + 2)) (i + 2) = true) : outerGo ps (ps.length - i) i = false := by
  obtain ⟨f, hf'⟩ : ∃ f, ps.length - i = f + 1 := ⟨ps.length - i - 1, by omega⟩
  rw [hf', outerGo, hf, hm]; rfl
theorem outer_step {ps : List Pt} {i : Nat} {x : Bool} (he : x = outerGo ps (ps.length - i) i) (h : i < ps.length) (hf : foldedP (gp ps i) (gp ps ((i + 1) % ps.length)) (gp ps ((i + 2) % ps.length)) = false) (hm : innerGo ps i (ps.length - (i + 2)) (i + 2) = false) :
    x = outerGo ps (ps.length - (i + 1)) (i + 1) := by
  obtain ⟨f, hf'⟩ : ∃ f, ps.length - i = f + 1 := ⟨ps.length - i - 1, by omega⟩
  rw [he, hf', outerGo, hf, hm, show ps.length - (i + 1) = f by omega]; rfl
theorem inner_stop {ps : List Pt} {i k : Nat} (h : k < ps.length) (hq : (k + 1) % ps.length = i) : innerGo ps i (ps.length - k) k = false := by
  obtain ⟨f, hf'⟩ : ∃ f, ps.length - k = f + 1 := ⟨ps.length - k - 1, by omega⟩
  rw [hf', innerGo, if_pos hq]
theorem inner_hit {ps : List Pt} {i k : Nat} (h : k < ps.length) (hq : ¬ (k + 1) % ps.length = i) (hm : meetP (gp ps i) (gp ps ((i + 1) % ps.length)) (gp ps k) (gp ps ((k + 1) % ps.length)) = true) : innerGo ps i (ps.length - k) k = true := by
  obtain ⟨f, hf'⟩ : ∃ f, ps.length - k = f + 1 := ⟨ps.length - k - 1, by omega⟩
  rw [hf', innerGo, if_neg hq, hm]; rfl
theorem inner_step {ps : List Pt} {i k : Nat} (h : k < ps.length) (hq : ¬ (k + 1) % ps.length = i) (hm : meetP (gp ps i) (gp ps ((i + 1) % ps.length)) (gp ps k) (gp ps ((k + 1) % ps.length)) = false) : innerGo ps i (ps.length - k) k = innerGo ps i (ps.length - (k + 1)) (k + 1) := by
  obtain ⟨f, hf'⟩ : ∃ f, ps.length - k = f + 1 := ⟨ps.length - k - 1, by omega⟩
  rw [hf', innerGo, if_neg hq, hm, show ps.length - (k + 1) = f by omega]; rfl

set_option maxHeartbeats 4000000 in
theorem polygon_simple (b o c : Nat) (ps : List Pt) (w : World) (hn : ps.length ≤ 1099511627776) (hcap : ps.length ≤ c) (h3 : 3 ≤ ps.length) (hp : Pts w (some ⟨b, o, none⟩) ps) (hsm : AllSm ps) :
    Calls Try.prog 77 #[.slice (some ⟨b, o, none⟩) ps.length c] w (Ret (.bool (simpleB ps)) w) := by
  go_enter Try.func77, Try.ntmps77
  go_wp2
  go_loopw [2, 14] (fun r i wr => ∃ k : Nat, k ≤ ps.length ∧ i = .int .i64 k ∧ dupGo [] ps = dupGo (ps.take k) (ps.drop k) ∧ Later w wr) (fun _ i _ => ps.length - (intOf i).toNat)
  case atStart => exact ⟨0, by omega, rfl, rfl, Later.refl _⟩
  case round =>
    obtain ⟨k, hk, rfl, he, hb⟩ := hrel
    have He := Lib.hid he
    clear he
    by_cases hlt : k < ps.length
    · obtain ⟨b', o', hA, e1, e2⟩ := (hp.later hb).at_ hlt
      obtain ⟨rfl, rfl⟩ : b = b' ∧ o = o' := by simpa using hA
      have Hd := Lib.hid (drop_cons ps k hlt)
      have Ht := Lib.hid (List.take_succ_eq_append_getElem hlt)
      have hl : (ps.take k).length = k := by rw [List.length_take]; omega
      have hpk : Pts wr (some ⟨b, o, none⟩) (ps.take k) := (hp.later hb).take k
      generalize ps[k] = p at *
      obtain ⟨xp, yp⟩ := p
      have hC : ∀ W, Later wr W → Calls Try.prog 107 #[.slice (some ⟨b, o, none⟩) k c, .agg #[.int .i64 xp, .int .i64 yp]] W (Ret (.bool (decide ((⟨xp, yp⟩ : Pt) ∈ ps.take k))) W) := by
        intro W hW
        have := slices_Contains (some ⟨b, o, none⟩) c (ps.take k) xp yp W (by omega) (hpk.later hW)
        rwa [hl] at this
      have HC := Lib.hid hC
      have hkc : (k : Int) ≤ (c : Int) := by omega
      clear hC hl
      rcases hm : decide ((⟨xp, yp⟩ : Pt) ∈ ps.take k) with _ | _
      · rw [hm] at HC
        have Hm := Lib.hid hm
        clear hm
        go_wp2
        go_region_held3 (fun w' : World => w'.cell? ⟨wr.heap.size, 0, none⟩ = some (.int .i64 xp) ∧ w'.cell? ⟨wr.heap.size, 1, none⟩ = some (.int .i64 yp) ∧ wr.heap.size + 1 ≤ w'.heap.size ∧ Later wr w') (first | assumption | exact held1_keep (by assumption) (by assumption) | exact held1_init wr _ _)
          (first | (go_at_call 107; refine (HC.out _ (held1_later (by assumption))).mono ?_; rintro e w1 ⟨rfl, hb1⟩))
        go_wp2
        go_roundw
        case rel => exact ⟨k + 1, by omega, by go_num, by rw [He.out, Hd.out, dup_miss (by simpa using Hm.out), Ht.out], hb.trans (held1_later (by assumption))⟩
        case measure => simp [intOf]; omega
      · rw [hm] at HC
        have Hm := Lib.hid hm
        clear hm
        go_wp2
        go_region_held3 (fun w' : World => w'.cell? ⟨wr.heap.size, 0, none⟩ = some (.int .i64 xp) ∧ w'.cell? ⟨wr.heap.size, 1, none⟩ = some (.int .i64 yp) ∧ wr.heap.size + 1 ≤ w'.heap.size ∧ Later wr w') (first | assumption | exact held1_keep (by assumption) (by assumption) | exact held1_init wr _ _)
          (first | (go_at_call 107; refine (HC.out _ (held1_later (by assumption))).mono ?_; rintro e w1 ⟨rfl, hb1⟩))
        go_wp2
        go_ret
        exact ⟨ret_bool (by rw [simpleB, He.out, Hd.out, dup_hit (by simpa using Hm.out)]; rfl), hb.trans (held1_later (by assumption))⟩
    · have hd : dupGo [] ps = false := by rw [He.out, List.drop_eq_nil_of_le (by omega)]; rfl
      have hs : simpleB ps = outerGo ps ps.length 0 := by rw [simpleB, hd]; rfl
      have Hs := Lib.hid hs
      clear hs hd
      go_wp2
      obtain ⟨wo, rfl⟩ : ∃ wo : World, wo = wr := ⟨_, rfl⟩
      go_loopw [2, 27] (fun r i wr => ∃ k : Nat, k ≤ ps.length ∧ i = .int .i64 k ∧ simpleB ps = outerGo ps (ps.length - k) k ∧ Later w wr) (fun _ i _ => ps.length - (intOf i).toNat)
      case atStart => exact ⟨0, by omega, rfl, Hs.out, hb⟩
      case round =>
        clear hb Hs He
        obtain ⟨i, hi, rfl, he, hb⟩ := hrel
        have He := Lib.hid he
        clear he
        by_cases hli : i < ps.length
        · obtain ⟨b', o', hA, e1, e2⟩ := (hp.later hb).gp hli
          obtain ⟨rfl, rfl⟩ : b = b' ∧ o = o' := by simpa using hA
          have hm1 : (i + 1) % ps.length < ps.length := Nat.mod_lt _ (by omega)
          have hm2 : (i + 2) % ps.length < ps.length := Nat.mod_lt _ (by omega)
          obtain ⟨b', o', hA, f1, f2⟩ := (hp.later hb).gp hm1
          obtain ⟨rfl, rfl⟩ : b = b' ∧ o = o' := by simpa using hA
          obtain ⟨b', o', hA, g1, g2⟩ := (hp.later hb).gp hm2
          obtain ⟨rfl, rfl⟩ : b = b' ∧ o = o' := by simpa using hA
          have hbz : b < wr.heap.size := World.block_lt_of_cell? _ _ e1
          have s1 := hsm i
          have s2 := hsm ((i + 1) % ps.length)
          have s3 := hsm ((i + 2) % ps.length)
          have hw2 : IntKind.i64.wrap ((i : Int) + 2) = (i : Int) + 2 := IntWalk.i64_in _ (by omega)
          have hi1 : (0 : Int) ≤ ((i : Int) + 1) % (ps.length : Int) ∧ ((i : Int) + 1) % (ps.length : Int) < (ps.length : Int) := ⟨Int.emod_nonneg _ (by omega), Int.emod_lt_of_pos _ (by omega)⟩
          have ht2 : ((i : Int) + 2).tmod (ps.length : Int) = ((i : Int) + 2) % (ps.length : Int) := Int.tmod_eq_emod_of_nonneg (by omega)
          have hi2 : (0 : Int) ≤ ((i : Int) + 2) % (ps.length : Int) ∧ ((i : Int) + 2) % (ps.length : Int) < (ps.length : Int) := ⟨Int.emod_nonneg _ (by omega), Int.emod_lt_of_pos _ (by omega)⟩
          have hn2 : (((i : Int) + 2) % (ps.length : Int)).toNat = (i + 2) % ps.length := toNat_emod i 2 ps.length
          have hnil : ¬ ps = [] := by intro h; rw [h] at h3; simp at h3
          go_wp2
          refine name_world (fun W hW => ?_)
          have a1 : W.cell? ⟨wr.heap.size, 0, none⟩ = some (.int .i64 (gp ps i).x) := by rw [hW]; simp [go_sem]
          have a2 : W.cell? ⟨wr.heap.size, 1, none⟩ = some (.int .i64 (gp ps i).y) := by rw [hW]; simp [go_sem]
          have a3 : W.cell? ⟨wr.heap.size + 1, 0, none⟩ = some (.int .i64 (gp ps ((i + 1) % ps.length)).x) := by rw [hW]; simp [go_sem]
          have a4 : W.cell? ⟨wr.heap.size + 1, 1, none⟩ = some (.int .i64 (gp ps ((i + 1) % ps.length)).y) := by rw [hW]; simp [go_sem]
          have hlW : Later wr W := by rw [hW]; exact ((Later.refl _).alloc _).alloc _
          clear hW
          have g1' := hlW.cell g1
          have g2' := hlW.cell g2
          rcases hf : foldedP (gp ps i) (gp ps ((i + 1) % ps.length)) (gp ps ((i + 2) % ps.length)) with _ | _
          · have Hf := Lib.hid hf
            unfold foldedP at hf
            go_region_held3 (fun w' : World => (∀ a : Addr, (W.cell? a).isSome = true → w'.cell? a = W.cell? a) ∧ Later W w') (first | assumption | exact keep_call (by assumption) (by assumption) | exact keep_call (by assumption) ((Later.refl _).alloc _) | exact keep_init _)
              (first | (go_at_call 108; refine (polygon_folded _ _ _ _ _ _ _ s1.1 s1.2 s2.1 s2.2 s3.1 s3.2).mono ?_; rintro e w1 ⟨rfl, hb1⟩))
            clear e1 e2 f1 f2 g1 g2 g1' g2' hi1 hi2 ht2 hn2 hw2 s3 hm2 hbz
            rename_i hHw
            have hlw : Later w w1 := hb.trans (hlW.trans hHw.2)
            have b1 := hHw.2.cell a1
            have b2 := hHw.2.cell a2
            have b3 := hHw.2.cell a3
            have b4 := hHw.2.cell a4
            clear hHw hlW hb1 a1 a2 a3 a4
            go_wp2
            go_loopw [2, 9] (fun r kk wq => ∃ k : Nat, i + 2 ≤ k ∧ kk = .int .i64 k ∧ innerGo ps i (ps.length - (i + 2)) (i + 2) = innerGo ps i (ps.length - k) k ∧ Later w wq ∧ k ≤ ps.length + 2 ∧
                wq.cell? ⟨wr.heap.size, 0, none⟩ = some (.int .i64 (gp ps i).x) ∧ wq.cell? ⟨wr.heap.size, 1, none⟩ = some (.int .i64 (gp ps i).y) ∧
                wq.cell? ⟨wr.heap.size + 1, 0, none⟩ = some (.int .i64 (gp ps ((i + 1) % ps.length)).x) ∧ wq.cell? ⟨wr.heap.size + 1, 1, none⟩ = some (.int .i64 (gp ps ((i + 1) % ps.length)).y)) (fun _ kk _ => ps.length - (intOf kk).toNat)
            case atStart => exact ⟨i + 2, by omega, by go_num, rfl, hlw, by omega, b1, b2, b3, b4⟩
            case round =>
              clear b1 b2 b3 b4 hlw
              obtain ⟨k, hik, rfl, he, hlw, hk2, b1, b2, b3, b4⟩ := hrel
              have Hin := Lib.hid he
              clear he
              have hk3 : (k : Int) ≤ 1099511627780 := by omega
              by_cases hlk : k < ps.length
              · have hkm : (k + 1) % ps.length < ps.length := Nat.mod_lt _ (by omega)
                by_cases hq : (k + 1) % ps.length = i
                · have hq' : ((k : Int) + 1) % (ps.length : Int) = (i : Int) := by rw [← hq, Int.natCast_emod, Int.natCast_add]; rfl
                  have hq1 : (((k : Int) + 1) % (ps.length : Int) != (i : Int)) = false := by rw [hq']; simp
                  have Hq := Lib.hid hq
                  clear hq hq'
                  go_wp2
                  go_roundw
                  case rel => exact ⟨i + 1, by omega, by go_num, outer_step He.out hli Hf.out (by rw [Hin.out]; exact inner_stop hlk Hq.out), hlw⟩
                  case measure => simp [intOf]; omega
                · have hq1 : (((k : Int) + 1) % (ps.length : Int) != (i : Int)) = true := by
                    rw [bne_iff_ne]
                    intro h
                    apply hq
                    have : (((k + 1) % ps.length : Nat) : Int) = (i : Int) := by rw [Int.natCast_emod, Int.natCast_add]; exact h
                    omega
                  have Hq := Lib.hid hq
                  clear hq
                  obtain ⟨b', o', hA, e1, e2⟩ := (hp.later hlw).gp hlk
                  obtain ⟨rfl, rfl⟩ : b = b' ∧ o = o' := by simpa using hA
                  obtain ⟨b', o', hA, f1, f2⟩ := (hp.later hlw).gp hkm
                  obtain ⟨rfl, rfl⟩ : b = b' ∧ o = o' := by simpa using hA
                  have s3 := hsm k
                  have s4 := hsm ((k + 1) % ps.length)
                  have hw2 : IntKind.i64.wrap ((k : Int) + 1) = (k : Int) + 1 := IntWalk.i64_in _ (by omega)
                  have ht2 : ((k : Int) + 1).tmod (ps.length : Int) = ((k : Int) + 1) % (ps.length : Int) := Int.tmod_eq_emod_of_nonneg (by omega)
                  have hi2 : (0 : Int) ≤ ((k : Int) + 1) % (ps.length : Int) ∧ ((k : Int) + 1) % (ps.length : Int) < (ps.length : Int) := ⟨Int.emod_nonneg _ (by omega), Int.emod_lt_of_pos _ (by omega)⟩
                  have hn2 : (((k : Int) + 1) % (ps.length : Int)).toNat = (k + 1) % ps.length := toNat_emod k 1 ps.length
                  rcases hmt : meetP (gp ps i) (gp ps ((i + 1) % ps.length)) (gp ps k) (gp ps ((k + 1) % ps.length)) with _ | _
                  · have Hmt := Lib.hid hmt
                    unfold meetP at hmt
                    go_wp2
                    go_region_held3 (fun w' : World => (∀ a : Addr, (wr.cell? a).isSome = true → w'.cell? a = wr.cell? a) ∧ Later wr w') (first | assumption | exact keep_call (by assumption) (by assumption) | exact keep_call (by assumption) ((Later.refl _).alloc _) | exact keep_init _)
                      (first | (go_at_call 109; refine (polygon_meet _ _ _ _ _ _ _ _ _ s1.1 s1.2 s2.1 s2.2 s3.1 s3.2 s4.1 s4.2).mono ?_; rintro e w1 ⟨rfl, hb1⟩))
                    rename_i hHw
                    clear e1 e2 f1 f2
                    have c1 := hHw.2.cell b1
                    have c2 := hHw.2.cell b2
                    have c3 := hHw.2.cell b3
                    have c4 := hHw.2.cell b4
                    have hl2 := hlw.trans hHw.2
                    clear hHw hb1
                    go_wp2
                    go_roundw
                    case rel => exact ⟨k + 1, by omega, by go_num, by rw [Hin.out]; exact inner_step hlk Hq.out Hmt.out, hl2, by omega, c1, c2, c3, c4⟩
                    case measure => simp [intOf]; omega
                  · have Hmt := Lib.hid hmt
                    unfold meetP at hmt
                    go_wp2
                    go_region_held3 (fun w' : World => (∀ a : Addr, (wr.cell? a).isSome = true → w'.cell? a = wr.cell? a) ∧ Later wr w') (first | assumption | exact keep_call (by assumption) (by assumption) | exact keep_call (by assumption) ((Later.refl _).alloc _) | exact keep_init _)
                      (first | (go_at_call 109; refine (polygon_meet _ _ _ _ _ _ _ _ _ s1.1 s1.2 s2.1 s2.2 s3.1 s3.2 s4.1 s4.2).mono ?_; rintro e w1 ⟨rfl, hb1⟩))
                    rename_i hHw
                    go_wp2
                    go_ret
                    exact ⟨ret_bool (by rw [He.out]; exact (outer_meets hli Hf.out (by rw [Hin.out]; exact inner_hit hlk Hq.out Hmt.out)).symm), hlw.trans hHw.2⟩
              · go_wp2
                go_roundw
                case rel => exact ⟨i + 1, by omega, by go_num, outer_step He.out hli Hf.out (by rw [Hin.out, show ps.length - k = 0 by omega]; rfl), hlw⟩
                case measure => simp [intOf]; omega
          · have Hf := Lib.hid hf
            unfold foldedP at hf
            go_region_held3 (fun w' : World => (∀ a : Addr, (W.cell? a).isSome = true → w'.cell? a = W.cell? a) ∧ Later W w') (first | assumption | exact keep_call (by assumption) (by assumption) | exact keep_call (by assumption) ((Later.refl _).alloc _) | exact keep_init _)
              (first | (go_at_call 108; refine (polygon_folded _ _ _ _ _ _ _ s1.1 s1.2 s2.1 s2.2 s3.1 s3.2).mono ?_; rintro e w1 ⟨rfl, hb1⟩))
            rename_i hHw
            go_wp2
            go_ret
            exact ⟨ret_bool (by rw [He.out]; exact (outer_folded hli Hf.out).symm), hb.trans (hlW.trans hHw.2)⟩
        · go_wp2
          go_ret
          exact ⟨ret_bool (by rw [He.out, show ps.length - i = 0 by omega]; rfl), hb⟩

end Go.Proofs.Ytolddfapanabbaa
