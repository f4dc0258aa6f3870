/-
  The walks of place.Extent, garmentref30.Same and garmentlaw30.Square.
-/
import Derived.Test.YtolddfapanabbaaCheckP
namespace Go.Proofs.Ytolddfapanabbaa
open Go.RowKit
set_option linter.unusedSimpArgs false
set_option linter.unusedVariables false

def extIn (i : Nat) : List Pt → Nat → Int → Int
  | [], _, m => m
  | p :: r, k, m => extIn i r (k + 1) (if (i = 0 ∧ k = 0) ∨ m < p.x then p.x else m)
def extGo (l : List Sh) : List Pu → Nat → Int → Int × Int
  | [], _, m => (m, 0)
  | o :: r, i, m => if (polyR l o).2 ≠ 0 then (0, (polyR l o).2) else extGo l r (i + 1) (extIn i (polyR l o).1 0 m)
def extR (l : List Sh) (puts : List Pu) : Int × Int := extGo l puts 0 0
theorem ext_err {l : List Sh} {o : Pu} {r : List Pu} {i : Nat} {m : Int} (h : (polyR l o).2 ≠ 0) : extGo l (o :: r) i m = (0, (polyR l o).2) := by rw [extGo, if_pos h]
theorem ext_go {l : List Sh} {o : Pu} {r : List Pu} {i : Nat} {m : Int} (h : (polyR l o).2 = 0) : extGo l (o :: r) i m = extGo l r (i + 1) (extIn i (polyR l o).1 0 m) := by rw [extGo, if_neg (by simpa using h)]
theorem ext_set {i k : Nat} {p : Pt} {r : List Pt} {m : Int} (h : (i = 0 ∧ k = 0) ∨ m < p.x) : extIn i (p :: r) k m = extIn i r (k + 1) p.x := by rw [extIn, if_pos h]
theorem ext_keep {i k : Nat} {p : Pt} {r : List Pt} {m : Int} (h : ¬ ((i = 0 ∧ k = 0) ∨ m < p.x)) : extIn i (p :: r) k m = extIn i r (k + 1) m := by rw [extIn, if_neg h]

set_option maxHeartbeats 1000000 in
theorem law30_Square (n : Int) (w : World) : Calls Try.prog 51 #[.int .i64 n] w (RetPts (rectPts 0 0 n n) w) := by
  go_enter Try.func51, Try.ntmps51
  go_wp2
  go_ret
  exact ⟨some ⟨w.heap.size, 0, none⟩, 4, rfl, Nat.le_refl _, by decide, fun _ => ⟨w.heap.size, 0, rfl, pts_four (Blk.new w _ _)⟩, (by repeat' (with_reducible first | exact Later.refl _ | assumption | refine Later.drew ?_ | refine Later.drewN ?_ _ | refine Later.alloc ?_ _ | refine Later.put ?_ (by omega) _ | refine Later.trans ?_ (by assumption)))⟩

def sameGoP (a b : List Pt) : Nat → Nat → Bool
  | 0, _ => true
  | f + 1, k => if gp a k ≠ gp b k then false else sameGoP a b f (k + 1)
def samePs (a b : List Pt) : Bool := if a.length ≠ b.length then false else sameGoP a b a.length 0
theorem samep_ne {a b : List Pt} {n k : Nat} (h : k < n) (h1 : gp a k ≠ gp b k) : sameGoP a b (n - k) k = false := by
  obtain ⟨f, hf⟩ : ∃ f, n - k = f + 1 := ⟨n - k - 1, by omega⟩
  rw [hf, sameGoP, if_pos h1]
theorem samep_eq {a b : List Pt} {n k : Nat} (h : k < n) (h1 : gp a k = gp b k) : sameGoP a b (n - k) k = sameGoP a b (n - (k + 1)) (k + 1) := by
  obtain ⟨f, hf⟩ : ∃ f, n - k = f + 1 := ⟨n - k - 1, by omega⟩
  rw [hf, sameGoP, if_neg (by simpa using h1), show n - (k + 1) = f by omega]

set_option maxHeartbeats 2000000 in
theorem ref30_Same (A B : Option Addr) (ca cb : Nat) (a b : List Pt) (w : World) (hna : a.length ≤ 65536) (hpa : Pts w A a) (hpb : Pts w B b) :
    Calls Try.prog 32 #[.slice A a.length ca, .slice B b.length cb] w (Ret (.bool (samePs a b)) w) := by
  by_cases hl : a.length = b.length
  · have Hs := Lib.hid (show samePs a b = sameGoP a b a.length 0 by rw [samePs, if_neg (by simpa using hl)])
    have Hl := Lib.hid hl
    rw [← hl]
    clear hl
    go_enter Try.func32, Try.ntmps32
    go_wp2
    go_loopw [4, 5] (fun _ iv wr => ∃ k : Nat, k ≤ a.length ∧ iv = .int .i64 k ∧ samePs a b = sameGoP a b (a.length - k) k ∧ Later w wr) (fun _ iv _ => a.length - (intOf iv).toNat)
    case atStart => exact ⟨0, by omega, rfl, Hs.out, Later.refl _⟩
    case round =>
      obtain ⟨k, hk, rfl, he, hb⟩ := hrel
      have He := Lib.hid he
      clear he
      by_cases hlt : k < a.length
      · obtain ⟨b1, o1, rfl, e1, e2⟩ := (hpa.later hb).gp hlt
        obtain ⟨b2, o2, rfl, e3, e4⟩ := (hpb.later hb).gp (show k < b.length by rw [← Hl.out]; exact hlt)
        have HN := Lib.hid (samep_ne (a := a) (b := b) hlt)
        have HE := Lib.hid (samep_eq (a := a) (b := b) hlt)
        have hz1 : b1 < wr.heap.size := World.block_lt_of_cell? _ _ e1
        have hz2 : b2 < wr.heap.size := World.block_lt_of_cell? _ _ e3
        have hk0 : (0 : Int) ≤ (k : Int) := by omega
        have hk1 : (k : Int) < (a.length : Int) := by omega
        generalize gp a k = p at *
        generalize gp b k = q at *
        have hne := neq_spot p.x p.y q.x q.y
        rcases hx : (!(p.x == q.x && p.y == q.y)) with _ | _
        · have Hx := Lib.hid (show p = q by simp at hx; exact pt_eq.2 hx)
          rw [hx] at hne
          go_wp2
          go_quiet (fail)
          go_wp2
          go_roundw
          case rel => exact ⟨k + 1, by omega, by go_num, by rw [He.out]; exact HE.out Hx.out, (by repeat' (with_reducible first | exact Later.refl _ | assumption | refine Later.drew ?_ | refine Later.drewN ?_ _ | refine Later.alloc ?_ _ | refine Later.put ?_ (by omega) _ | refine Later.trans ?_ (by assumption)))⟩
          case measure => simp [intOf]; omega
        · have Hx := Lib.hid (show p ≠ q by rintro rfl; simp at hx)
          rw [hx] at hne
          go_wp2
          go_quiet (fail)
          go_wp2
          go_ret
          exact ⟨ret_bool (by rw [He.out]; exact (HN.out Hx.out).symm), (by repeat' (with_reducible first | exact Later.refl _ | assumption | refine Later.drew ?_ | refine Later.drewN ?_ _ | refine Later.alloc ?_ _ | refine Later.put ?_ (by omega) _ | refine Later.trans ?_ (by assumption)))⟩
      · go_wp2
        go_ret
        exact ⟨ret_bool (by rw [He.out, show a.length - k = 0 by omega]; rfl), (by repeat' (with_reducible first | exact Later.refl _ | assumption | refine Later.drew ?_ | refine Later.drewN ?_ _ | refine Later.alloc ?_ _ | refine Later.put ?_ (by omega) _ | refine Later.trans ?_ (by assumption)))⟩
  · have Hs := Lib.hid (show samePs a b = false by rw [samePs, if_pos hl])
    have dl : ((a.length : Int) != (b.length : Int)) = true := by simp; omega
    have dl' : (a.length != b.length) = true := by simpa using hl
    clear hl
    go_enter Try.func32, Try.ntmps32
    go_wp2
    go_ret
    exact ⟨ret_bool (by rw [Hs.out]), (by repeat' (with_reducible first | exact Later.refl _ | assumption | refine Later.drew ?_ | refine Later.drewN ?_ _ | refine Later.alloc ?_ _ | refine Later.put ?_ (by omega) _ | refine Later.trans ?_ (by assumption)))⟩

set_option maxHeartbeats 4000000 in
theorem place_Extent (C P : Option Addr) (cc pc : Nat) (l : List Sh) (puts : List Pu) (w : World) (hs : Shapes w C l) (hl : l.length ≤ 65536) (hlen : ∀ s ∈ l, s.ps.length ≤ 1099511627776) (hpu : Puts w P puts) (hpn : puts.length ≤ 65536) :
    Calls Try.prog 33 #[.slice C l.length cc, .slice P puts.length pc] w (Ret (.tuple #[.int .i64 (extR l puts).1, .int .i64 (extR l puts).2]) w) := by
  have HPo := Lib.hid (fun o W (hW : Later w W) h => place_Poly_yes C cc l o W (hs.later hW) hl hlen h)
  have HPe := Lib.hid (fun o W (hW : Later w W) h => place_Poly_no C cc l o W (hs.later hW) hl hlen h)
  have Hr := Lib.hid (rfl : extR l puts = extGo l puts 0 0)
  go_enter Try.func33, Try.ntmps33
  go_wp2
  go_loopw [4, 5, 6, 15] (fun _ _ mv iv wr => ∃ (i : Nat) (m : Int), i ≤ puts.length ∧ iv = .int .i64 i ∧ mv = .int .i64 m ∧ extR l puts = extGo l (puts.drop i) i m ∧ Later w wr) (fun _ _ _ iv _ => puts.length - (intOf iv).toNat)
  case atStart => exact ⟨0, 0, by omega, rfl, rfl, rfl, Later.refl _⟩
  case round =>
    obtain ⟨i, m, hi, rfl, rfl, he, hb⟩ := hrel
    have He := Lib.hid he
    clear he
    by_cases hlt : i < puts.length
    · obtain ⟨b5, o5, rfl, e0, e1, e2, e3, e4, hok5⟩ := (hpu.later hb).at_ hlt
      have hbz : b5 < wr.heap.size := World.block_lt_of_cell? _ _ e0
      have Hd := Lib.hid (drop_cons' puts i hlt)
      generalize puts[i] = o at *
      have hi0 : (0 : Int) ≤ (i : Int) := by omega
      have hi1 : (i : Int) < (puts.length : Int) := by omega
      rcases Classical.em ((polyR l o).2 = 0) with hpo | hpo
      · have HQ := Lib.hid (fun W (hW : Later w W) => HPo.out o W hW hpo)
        have Hg := Lib.hid (ext_go (r := puts.drop (i + 1)) (i := i) (m := m) hpo)
        have h40 := len_of_check (polyR_ok hpo).2.2
        clear hpo
        generalize (polyR l o).1 = op at *
        unfold Pu.agg at HQ
        obtain ⟨osh, ofl, oq, ox, oy⟩ := o
        simp only [] at e0 e1 e2 e3 e4 HQ
        go_wp2_with (first | (go_at_call 30; (with_reducible refine (HQ.out _ (by repeat' (with_reducible first | exact Later.refl _ | assumption | refine Later.drew ?_ | refine Later.drewN ?_ _ | refine Later.alloc ?_ _ | refine Later.put ?_ (by omega) _ | refine Later.trans ?_ (by assumption)))).mono ?_); rintro e w5 ⟨A5, c5, rfl, z1, z2, z3, hb5⟩))
        have hl5 : Later w w5 := hb.trans (((Later.refl _).alloc _).trans hb5)
        clear e0 e1 e2 e3 e4
        obtain ⟨wo, rfl⟩ : ∃ wo : World, wo = wr := ⟨_, rfl⟩
        go_loopw [6, 31] (fun mv iv wq => ∃ (k : Nat) (n : Int), k ≤ op.length ∧ iv = .int .i64 k ∧ mv = .int .i64 n ∧ extIn i op 0 m = extIn i (op.drop k) k n ∧ Later w5 wq) (fun _ iv _ => op.length - (intOf iv).toNat)
        case atStart => exact ⟨0, m, by omega, rfl, rfl, rfl, Later.refl _⟩
        case round =>
          obtain ⟨k, n, hk, rfl, rfl, he2, hb2⟩ := hrel
          have He2 := Lib.hid he2
          clear he2
          by_cases hlk : k < op.length
          · obtain ⟨b6, o6, rfl, f0, f1⟩ := (z3.later hb2).at_ hlk
            have hbz6 : b6 < wr.heap.size := World.block_lt_of_cell? _ _ f0
            have Hd2 := Lib.hid (drop_cons' op k hlk)
            generalize op[k] = pt at *
            obtain ⟨ux, uy⟩ := pt
            simp only [] at f0 f1
            have hk0 : (0 : Int) ≤ (k : Int) := by omega
            have hk1 : (k : Int) < (op.length : Int) := by omega
            go_wp2
            all_goals
              go_roundw
              case rel => first | exact ⟨k + 1, ux, by omega, by go_num, rfl, by rw [He2.out, Hd2.out]; exact ext_set (by simp only []; omega), hb2.alloc _⟩ | exact ⟨k + 1, n, by omega, by go_num, rfl, by rw [He2.out, Hd2.out]; exact ext_keep (by simp only []; omega), hb2.alloc _⟩
              case measure => simp [intOf]; omega
          · have hxx : extIn i op 0 m = n := by rw [He2.out, List.drop_eq_nil_of_le (by omega)]; rfl
            have Hxx := Lib.hid hxx
            clear hxx
            go_wp2
            go_roundw
            case rel => exact ⟨i + 1, n, by omega, by go_num, rfl, by rw [He.out, Hd.out, Hg.out, Hxx.out], hl5.trans hb2⟩
            case measure => simp [intOf]; omega
      · have HQ := Lib.hid (fun W (hW : Later w W) => HPe.out o W hW hpo)
        have Hg := Lib.hid (ext_err (r := puts.drop (i + 1)) (i := i) (m := m) hpo)
        have dd : ((polyR l o).2 != 0) = true := by simpa using hpo
        clear hpo
        generalize (polyR l o).2 = oe at *
        unfold Pu.agg at HQ
        obtain ⟨osh, ofl, oq, ox, oy⟩ := o
        simp only [] at e0 e1 e2 e3 e4 HQ
        go_wp2_with (first | (go_at_call 30; (with_reducible refine (HQ.out _ (by repeat' (with_reducible first | exact Later.refl _ | assumption | refine Later.drew ?_ | refine Later.drewN ?_ _ | refine Later.alloc ?_ _ | refine Later.put ?_ (by omega) _ | refine Later.trans ?_ (by assumption)))).mono ?_); rintro e w5 ⟨rfl, hb5⟩))
        go_ret2
        exact ⟨by rw [He.out, Hd.out, Hg.out]; rfl, (by repeat' (with_reducible first | exact Later.refl _ | assumption | refine Later.drew ?_ | refine Later.drewN ?_ _ | refine Later.alloc ?_ _ | refine Later.put ?_ (by omega) _ | refine Later.trans ?_ (by assumption)))⟩
    · go_wp2
      go_ret2
      exact ⟨by rw [He.out, List.drop_eq_nil_of_le (by omega)]; rfl, hb⟩

end Go.Proofs.Ytolddfapanabbaa
