/-
  The walks of place.Extent, garmentref30.Same and garmentlaw30.Square.
  The walk of garmentlaw30.awake: the chapter's examples hold.
-/
import Derived.Test.YtinjdlnikhcbfaaFits
/- The walks of place.Extent, garmentref30.Same and garmentlaw30.Square. -/
namespace Go.Proofs.Ytinjdlnikhcbfaa
open Go.RowKit
set_option linter.unusedSimpArgs false
set_option linter.unusedVariables false

def extIn (i : Nat) : List Pt → Nat → Int → Int
  | [], _, m => m
  | p :: r, k, m => extIn i r (k + 1) (if (i = 0 ∧ k = 0) ∨ m < p.x then p.x else m)
def extGo (l : List Sh) : List Pu → Nat → Int → Int × Int
  | [], _, m => (m, 0)
  | o :: r, i, m => if (polyR l o).2 ≠ 0 then (0, (polyR l o).2) else extGo l r (i + 1) (extIn i (polyR l o).1 0 m)
def extR (l : List Sh) (puts : List Pu) : Int × Int := extGo l puts 0 0
theorem ext_err {l : List Sh} {o : Pu} {r : List Pu} {i : Nat} {m : Int} (h : (polyR l o).2 ≠ 0) : extGo l (o :: r) i m = (0, (polyR l o).2) := by rw [extGo, if_pos h]
theorem ext_go {l : List Sh} {o : Pu} {r : List Pu} {i : Nat} {m : Int} (h : (polyR l o).2 = 0) : extGo l (o :: r) i m = extGo l r (i + 1) (extIn i (polyR l o).1 0 m) := by rw [extGo, if_neg (by simpa using h)]
theorem ext_set {i k : Nat} {p : Pt} {r : List Pt} {m : Int} (h : (i = 0 ∧ k = 0) ∨ m < p.x) : extIn i (p :: r) k m = extIn i r (k + 1) p.x := by rw [extIn, if_pos h]
theorem ext_keep {i k : Nat} {p : Pt} {r : List Pt} {m : Int} (h : ¬ ((i = 0 ∧ k = 0) ∨ m < p.x)) : extIn i (p :: r) k m = extIn i r (k + 1) m := by rw [extIn, if_neg h]

set_option maxHeartbeats 1000000 in
theorem law30_Square (n : Int) (w : World) : Calls Try.prog 73 #[.int .i64 n] w (RetPts (rectPts 0 0 n n) w) := by
  go_enter Try.func73, Try.ntmps73
  go_wp2
  go_ret
  exact ⟨some ⟨w.heap.size, 0, none⟩, 4, rfl, Nat.le_refl _, by decide, fun _ => ⟨w.heap.size, 0, rfl, pts_four (Blk.new w _ _)⟩, (by repeat' (with_reducible first | exact Later.refl _ | assumption | refine Later.drew ?_ | refine Later.drewN ?_ _ | refine Later.alloc ?_ _ | refine Later.put ?_ (by omega) _ | refine Later.trans ?_ (by assumption)))⟩

def sameGoP (a b : List Pt) : Nat → Nat → Bool
  | 0, _ => true
  | f + 1, k => if gp a k ≠ gp b k then false else sameGoP a b f (k + 1)
def samePs (a b : List Pt) : Bool := if a.length ≠ b.length then false else sameGoP a b a.length 0
theorem samep_ne {a b : List Pt} {n k : Nat} (h : k < n) (h1 : gp a k ≠ gp b k) : sameGoP a b (n - k) k = false := by
  obtain ⟨f, hf⟩ : ∃ f, n - k = f + 1 := ⟨n - k - 1, by omega⟩
  rw [hf, sameGoP, if_pos h1]
theorem samep_eq {a b : List Pt} {n k : Nat} (h : k < n) (h1 : gp a k = gp b k) : sameGoP a b (n - k) k = sameGoP a b (n - (k + 1)) (k + 1) := by
  obtain ⟨f, hf⟩ : ∃ f, n - k = f + 1 := ⟨n - k - 1, by omega⟩
  rw [hf, sameGoP, if_neg (by simpa using h1), show n - (k + 1) = f by omega]

set_option maxHeartbeats 2000000 in
theorem ref30_Same (A B : Option Addr) (ca cb : Nat) (a b : List Pt) (w : World) (hna : a.length ≤ 65536) (hpa : Pts w A a) (hpb : Pts w B b) :
    Calls Try.prog 74 #[.slice A a.length ca, .slice B b.length cb] w (Ret (.bool (samePs a b)) w) := by
  by_cases hl : a.length = b.length
  · have Hs := Lib.hid (show samePs a b = sameGoP a b a.length 0 by rw [samePs, if_neg (by simpa using hl)])
    have Hl := Lib.hid hl
    rw [← hl]
    clear hl
    go_enter Try.func74, Try.ntmps74
    go_wp2
    go_loopw [4, 5] (fun _ iv wr => ∃ k : Nat, k ≤ a.length ∧ iv = .int .i64 k ∧ samePs a b = sameGoP a b (a.length - k) k ∧ Later w wr) (fun _ iv _ => a.length - (intOf iv).toNat)
    case atStart => exact ⟨0, by omega, rfl, Hs.out, Later.refl _⟩
    case round =>
      obtain ⟨k, hk, rfl, he, hb⟩ := hrel
      have He := Lib.hid he
      clear he
      by_cases hlt : k < a.length
      · obtain ⟨b1, o1, rfl, e1, e2⟩ := (hpa.later hb).gp hlt
        obtain ⟨b2, o2, rfl, e3, e4⟩ := (hpb.later hb).gp (show k < b.length by rw [← Hl.out]; exact hlt)
        have HN := Lib.hid (samep_ne (a := a) (b := b) hlt)
        have HE := Lib.hid (samep_eq (a := a) (b := b) hlt)
        have hz1 : b1 < wr.heap.size := World.block_lt_of_cell? _ _ e1
        have hz2 : b2 < wr.heap.size := World.block_lt_of_cell? _ _ e3
        have hk0 : (0 : Int) ≤ (k : Int) := by omega
        have hk1 : (k : Int) < (a.length : Int) := by omega
        generalize gp a k = p at *
        generalize gp b k = q at *
        have hne := neq_spot p.x p.y q.x q.y
        rcases hx : (!(p.x == q.x && p.y == q.y)) with _ | _
        · have Hx := Lib.hid (show p = q by simp at hx; exact pt_eq.2 hx)
          rw [hx] at hne
          go_wp2
          go_quiet (fail)
          go_wp2
          go_roundw
          case rel => exact ⟨k + 1, by omega, by go_num, by rw [He.out]; exact HE.out Hx.out, (by repeat' (with_reducible first | exact Later.refl _ | assumption | refine Later.drew ?_ | refine Later.drewN ?_ _ | refine Later.alloc ?_ _ | refine Later.put ?_ (by omega) _ | refine Later.trans ?_ (by assumption)))⟩
          case measure => simp [intOf]; omega
        · have Hx := Lib.hid (show p ≠ q by rintro rfl; simp at hx)
          rw [hx] at hne
          go_wp2
          go_quiet (fail)
          go_wp2
          go_ret
          exact ⟨ret_bool (by rw [He.out]; exact (HN.out Hx.out).symm), (by repeat' (with_reducible first | exact Later.refl _ | assumption | refine Later.drew ?_ | refine Later.drewN ?_ _ | refine Later.alloc ?_ _ | refine Later.put ?_ (by omega) _ | refine Later.trans ?_ (by assumption)))⟩
      · go_wp2
        go_ret
        exact ⟨ret_bool (by rw [He.out, show a.length - k = 0 by omega]; rfl), (by repeat' (with_reducible first | exact Later.refl _ | assumption | refine Later.drew ?_ | refine Later.drewN ?_ _ | refine Later.alloc ?_ _ | refine Later.put ?_ (by omega) _ | refine Later.trans ?_ (by assumption)))⟩
  · have Hs := Lib.hid (show samePs a b = false by rw [samePs, if_pos hl])
    have dl : ((a.length : Int) != (b.length : Int)) = true := by simp; omega
    have dl' : (a.length != b.length) = true := by simpa using hl
    clear hl
    go_enter Try.func74, Try.ntmps74
    go_wp2
    go_ret
    exact ⟨ret_bool (by rw [Hs.out]), (by repeat' (with_reducible first | exact Later.refl _ | assumption | refine Later.drew ?_ | refine Later.drewN ?_ _ | refine Later.alloc ?_ _ | refine Later.put ?_ (by omega) _ | refine Later.trans ?_ (by assumption)))⟩

set_option maxHeartbeats 4000000 in
theorem place_Extent (C P : Option Addr) (cc pc : Nat) (l : List Sh) (puts : List Pu) (w : World) (hs : Shapes w C l) (hl : l.length ≤ 65536) (hlen : ∀ s ∈ l, s.ps.length ≤ 1099511627776) (hpu : Puts w P puts) (hpn : puts.length ≤ 65536) :
    Calls Try.prog 45 #[.slice C l.length cc, .slice P puts.length pc] w (Ret (.tuple #[.int .i64 (extR l puts).1, .int .i64 (extR l puts).2]) w) := by
  have HPo := Lib.hid (fun o W (hW : Later w W) h => place_Poly_yes C cc l o W (hs.later hW) hl hlen h)
  have HPe := Lib.hid (fun o W (hW : Later w W) h => place_Poly_no C cc l o W (hs.later hW) hl hlen h)
  have Hr := Lib.hid (rfl : extR l puts = extGo l puts 0 0)
  go_enter Try.func45, Try.ntmps45
  go_wp2
  go_loopw [4, 5, 6, 15] (fun _ _ mv iv wr => ∃ (i : Nat) (m : Int), i ≤ puts.length ∧ iv = .int .i64 i ∧ mv = .int .i64 m ∧ extR l puts = extGo l (puts.drop i) i m ∧ Later w wr) (fun _ _ _ iv _ => puts.length - (intOf iv).toNat)
  case atStart => exact ⟨0, 0, by omega, rfl, rfl, rfl, Later.refl _⟩
  case round =>
    obtain ⟨i, m, hi, rfl, rfl, he, hb⟩ := hrel
    have He := Lib.hid he
    clear he
    by_cases hlt : i < puts.length
    · obtain ⟨b5, o5, rfl, e0, e1, e2, e3, e4, hok5⟩ := (hpu.later hb).at_ hlt
      have hbz : b5 < wr.heap.size := World.block_lt_of_cell? _ _ e0
      have Hd := Lib.hid (drop_cons' puts i hlt)
      generalize puts[i] = o at *
      have hi0 : (0 : Int) ≤ (i : Int) := by omega
      have hi1 : (i : Int) < (puts.length : Int) := by omega
      rcases Classical.em ((polyR l o).2 = 0) with hpo | hpo
      · have HQ := Lib.hid (fun W (hW : Later w W) => HPo.out o W hW hpo)
        have Hg := Lib.hid (ext_go (r := puts.drop (i + 1)) (i := i) (m := m) hpo)
        have h40 := len_of_check (polyR_ok hpo).2.2
        clear hpo
        generalize (polyR l o).1 = op at *
        unfold Pu.agg at HQ
        obtain ⟨osh, ofl, oq, ox, oy⟩ := o
        simp only [] at e0 e1 e2 e3 e4 HQ
        go_wp2_with (first | (go_at_call 39; (with_reducible refine (HQ.out _ (by repeat' (with_reducible first | exact Later.refl _ | assumption | refine Later.drew ?_ | refine Later.drewN ?_ _ | refine Later.alloc ?_ _ | refine Later.put ?_ (by omega) _ | refine Later.trans ?_ (by assumption)))).mono ?_); rintro e w5 ⟨A5, c5, rfl, z1, z2, z3, hb5⟩))
        have hl5 : Later w w5 := hb.trans (((Later.refl _).alloc _).trans hb5)
        clear e0 e1 e2 e3 e4
        obtain ⟨wo, rfl⟩ : ∃ wo : World, wo = wr := ⟨_, rfl⟩
        go_loopw [6, 31] (fun mv iv wq => ∃ (k : Nat) (n : Int), k ≤ op.length ∧ iv = .int .i64 k ∧ mv = .int .i64 n ∧ extIn i op 0 m = extIn i (op.drop k) k n ∧ Later w5 wq) (fun _ iv _ => op.length - (intOf iv).toNat)
        case atStart => exact ⟨0, m, by omega, rfl, rfl, rfl, Later.refl _⟩
        case round =>
          obtain ⟨k, n, hk, rfl, rfl, he2, hb2⟩ := hrel
          have He2 := Lib.hid he2
          clear he2
          by_cases hlk : k < op.length
          · obtain ⟨b6, o6, rfl, f0, f1⟩ := (z3.later hb2).at_ hlk
            have hbz6 : b6 < wr.heap.size := World.block_lt_of_cell? _ _ f0
            have Hd2 := Lib.hid (drop_cons' op k hlk)
            generalize op[k] = pt at *
            obtain ⟨ux, uy⟩ := pt
            simp only [] at f0 f1
            have hk0 : (0 : Int) ≤ (k : Int) := by omega
            have hk1 : (k : Int) < (op.length : Int) := by omega
            go_wp2
            all_goals
              go_roundw
              case rel => first | exact ⟨k + 1, ux, by omega, by go_num, rfl, by rw [He2.out, Hd2.out]; exact ext_set (by simp only []; omega), hb2.alloc _⟩ | exact ⟨k + 1, n, by omega, by go_num, rfl, by rw [He2.out, Hd2.out]; exact ext_keep (by simp only []; omega), hb2.alloc _⟩
              case measure => simp [intOf]; omega
          · have hxx : extIn i op 0 m = n := by rw [He2.out, List.drop_eq_nil_of_le (by omega)]; rfl
            have Hxx := Lib.hid hxx
            clear hxx
            go_wp2
            go_roundw
            case rel => exact ⟨i + 1, n, by omega, by go_num, rfl, by rw [He.out, Hd.out, Hg.out, Hxx.out], hl5.trans hb2⟩
            case measure => simp [intOf]; omega
      · have HQ := Lib.hid (fun W (hW : Later w W) => HPe.out o W hW hpo)
        have Hg := Lib.hid (ext_err (r := puts.drop (i + 1)) (i := i) (m := m) hpo)
        have dd : ((polyR l o).2 != 0) = true := by simpa using hpo
        clear hpo
        generalize (polyR l o).2 = oe at *
        unfold Pu.agg at HQ
        obtain ⟨osh, ofl, oq, ox, oy⟩ := o
        simp only [] at e0 e1 e2 e3 e4 HQ
        go_wp2_with (first | (go_at_call 39; (with_reducible refine (HQ.out _ (by repeat' (with_reducible first | exact Later.refl _ | assumption | refine Later.drew ?_ | refine Later.drewN ?_ _ | refine Later.alloc ?_ _ | refine Later.put ?_ (by omega) _ | refine Later.trans ?_ (by assumption)))).mono ?_); rintro e w5 ⟨rfl, hb5⟩))
        go_ret2
        exact ⟨by rw [He.out, Hd.out, Hg.out]; rfl, (by repeat' (with_reducible first | exact Later.refl _ | assumption | refine Later.drew ?_ | refine Later.drewN ?_ _ | refine Later.alloc ?_ _ | refine Later.put ?_ (by omega) _ | refine Later.trans ?_ (by assumption)))⟩
    · go_wp2
      go_ret2
      exact ⟨by rw [He.out, List.drop_eq_nil_of_le (by omega)]; rfl, hb⟩

end Go.Proofs.Ytinjdlnikhcbfaa

/- The walk of garmentlaw30.awake: the chapter's examples hold. -/
namespace Go.Proofs.Ytinjdlnikhcbfaa
open Go.RowKit
set_option linter.unusedSimpArgs false
set_option linter.unusedVariables false

def exSh (A1 : Option Addr) (c1 : Nat) (A2 : Option Addr) (c2 : Nat) : List Sh := [⟨A1, c1, rectPts 0 0 10 10, 1, true, 0, 0⟩, ⟨A2, c2, rectPts 0 0 10 10, 4, false, 0, 0⟩]
def exPu : List Pu := [⟨0, false, 0, 0, 0⟩, ⟨1, false, 0, 10, 0⟩]
theorem exSh_len {A1 : Option Addr} {c1 : Nat} {A2 : Option Addr} {c2 : Nat} : ∀ s ∈ exSh A1 c1 A2 c2, s.ps.length ≤ 1099511627776 := by
  intro s hs
  simp only [exSh, List.mem_cons, List.not_mem_nil, or_false] at hs
  rcases hs with rfl | rfl <;> (show 4 ≤ _; decide)
section
variable {W : World} {S P c1 c2 : Nat} {A1 A2 : Option Addr}
theorem exShapes (h : Blk W S 92 #[.slice A1 (rectPts 0 0 10 10).length c1, .int .i64 1, .bool true, .int .i64 0, .int .i64 0, .slice A2 (rectPts 0 0 10 10).length c2, .int .i64 4, .bool false, .int .i64 0, .int .i64 0])
    (h1 : (rectPts 0 0 10 10).length ≤ c1) (m1 : c1 ≤ maxLen) (p1 : Pts W A1 (rectPts 0 0 10 10)) (h2 : (rectPts 0 0 10 10).length ≤ c2) (m2 : c2 ≤ maxLen) (p2 : Pts W A2 (rectPts 0 0 10 10)) : Shapes W (some ⟨S, 0, none⟩) (exSh A1 c1 A2 c2) := fun _ => ⟨S, 0, rfl, by
  intro i a ha
  rcases i with _ | _ | i
  · cases ha
    refine ⟨fun j v hv => ?_, h1, m1, p1, by simp [I64], by simp [I64], by simp [I64]⟩
    rcases j with _ | _ | _ | _ | _ | j
    · cases hv; exact h.cell 0
    · cases hv; exact h.cell 1
    · cases hv; exact h.cell 2
    · cases hv; exact h.cell 3
    · cases hv; exact h.cell 4
    · simp [Sh.cells] at hv
  · cases ha
    refine ⟨fun j v hv => ?_, h2, m2, p2, by simp [I64], by simp [I64], by simp [I64]⟩
    rcases j with _ | _ | _ | _ | _ | j
    · cases hv; exact h.cell 5
    · cases hv; exact h.cell 6
    · cases hv; exact h.cell 7
    · cases hv; exact h.cell 8
    · cases hv; exact h.cell 9
    · simp [Sh.cells] at hv
  · simp [exSh] at ha⟩
theorem exPuts (h : Blk W P 90 #[.int .i64 0, .bool false, .int .i64 0, .int .i64 0, .int .i64 0, .int .i64 1, .bool false, .int .i64 0, .int .i64 10, .int .i64 0]) : Puts W (some ⟨P, 0, none⟩) exPu := fun _ => ⟨P, 0, rfl, by
  intro i a ha
  rcases i with _ | _ | i
  · cases ha
    refine ⟨fun j v hv => ?_, by unfold PuOk I64; decide⟩
    rcases j with _ | _ | _ | _ | _ | j
    · cases hv; exact h.cell 0
    · cases hv; exact h.cell 1
    · cases hv; exact h.cell 2
    · cases hv; exact h.cell 3
    · cases hv; exact h.cell 4
    · simp [Pu.cells] at hv
  · cases ha
    refine ⟨fun j v hv => ?_, by unfold PuOk I64; decide⟩
    rcases j with _ | _ | _ | _ | _ | j
    · cases hv; exact h.cell 5
    · cases hv; exact h.cell 6
    · cases hv; exact h.cell 7
    · cases hv; exact h.cell 8
    · cases hv; exact h.cell 9
    · simp [Pu.cells] at hv
  · simp [exPu] at ha⟩
theorem ex30_fits (b : Bd) (puts : List Pu) (n : Nat) (PA : Option Addr) (p : Pu) (v : Int) (hn : puts.length = n) (hle : n ≤ 65536) (hs : Shapes W (some ⟨S, 0, none⟩) (exSh A1 c1 A2 c2)) (hp : Puts W PA puts) (hv : fitsR b (exSh A1 c1 A2 c2) puts p = v) :
    Calls Try.prog 75 #[.agg #[.int .i64 b.l, .int .i64 b.w, .int .i64 b.rx, .int .i64 b.ry], .slice (some ⟨S, 0, none⟩) 2 2, .slice PA n n, .agg #[.int .i64 p.sh, .bool p.fl, .int .i64 p.q, .int .i64 p.x, .int .i64 p.y]] W (Ret (.int .i64 v) W) := by
  have := place_Fits b (some ⟨S, 0, none⟩) PA 2 n (exSh A1 c1 A2 c2) puts p W hs (by show 2 ≤ _; decide) exSh_len hp (by omega)
  rw [hv, hn] at this
  exact this
theorem puts_nil (W : World) (A : Option Addr) : Puts W A [] := fun h => by simp at h
end

set_option maxHeartbeats 8000000 in
set_option maxRecDepth 100000 in
theorem law30_awake (w : World) : Calls Try.prog 34 #[] w (Ret (.bool true) w) := by
  have tok1 : True := trivial
  go_enter Try.func34, Try.ntmps34
  go_upto_region 5 with (first | (go_at_call 73; have _t := tok1; (with_reducible refine (law30_Square _ _).mono ?_); rintro e w1 ⟨A1, c1, rfl, h1, m1, p1, hb1⟩; clear tok1) | (go_at_call 73; (with_reducible refine (law30_Square _ _).mono ?_); rintro e w2 ⟨A2, c2, rfl, h2, m2, p2, hb2⟩))
  refine name_world (fun W hW => ?_)
  have hlW : Later w2 W := by rw [hW]; exact (by repeat' (with_reducible first | exact Later.refl _ | assumption | refine Later.drew ?_ | refine Later.drewN ?_ _ | refine Later.alloc ?_ _ | refine Later.put ?_ (by omega) _ | refine Later.trans ?_ (by assumption)))
  have B0 : Blk W w2.heap.size 92 #[.slice A1 (rectPts 0 0 10 10).length c1, .int .i64 1, .bool true, .int .i64 0, .int .i64 0, .slice A2 (rectPts 0 0 10 10).length c2, .int .i64 4, .bool false, .int .i64 0, .int .i64 0] := by rw [hW]; exact (by repeat' (with_reducible first | assumption | (refine Blk.newAt ?_; simp; done) | refine Blk.alloc ?_ _ | refine Blk.drew ?_ | refine Blk.drewN ?_ _ | refine Blk.later ?_ (by assumption)))
  have B1 : Blk W (w2.heap.size + 1) 79 #[.int .i64 30, .int .i64 20, .int .i64 0, .int .i64 0] := by rw [hW]; exact (by repeat' (with_reducible first | assumption | (refine Blk.newAt ?_; simp; done) | refine Blk.alloc ?_ _ | refine Blk.drew ?_ | refine Blk.drewN ?_ _ | refine Blk.later ?_ (by assumption)))
  have B2 : Blk W (w2.heap.size + 1 + 1) 79 #[.int .i64 30, .int .i64 20, .int .i64 8, .int .i64 0] := by rw [hW]; exact (by repeat' (with_reducible first | assumption | (refine Blk.newAt ?_; simp; done) | refine Blk.alloc ?_ _ | refine Blk.drew ?_ | refine Blk.drewN ?_ _ | refine Blk.later ?_ (by assumption)))
  have B3 : Blk W (w2.heap.size + 1 + 1 + 1) 90 #[.int .i64 0, .bool false, .int .i64 0, .int .i64 0, .int .i64 0, .int .i64 1, .bool false, .int .i64 0, .int .i64 10, .int .i64 0] := by rw [hW]; exact (by repeat' (with_reducible first | assumption | (refine Blk.newAt ?_; simp; done) | refine Blk.alloc ?_ _ | refine Blk.drew ?_ | refine Blk.drewN ?_ _ | refine Blk.later ?_ (by assumption)))
  have hl : Later w W := (hb1.trans hb2).trans hlW
  have hs : Shapes W (some ⟨w2.heap.size, 0, none⟩) (exSh A1 c1 A2 c2) := exShapes B0 h1 m1 ((p1.later hb2).later hlW) h2 m2 (p2.later hlW)
  have hp := exPuts B3
  clear hW hlW hb1 hb2 p1 p2 B0 B3
  generalize w2.heap.size = S at *
  generalize S + 1 = S1 at *
  generalize S1 + 1 = S2 at *
  generalize S2 + 1 = S3 at *
  have Hs := Lib.hid hs
  have Hp := Lib.hid hp
  have v1 : polyR (exSh A1 c1 A2 c2) ⟨1, false, 1, 20, 0⟩ = ([⟨20, 0⟩, ⟨20, 10⟩, ⟨10, 10⟩, ⟨10, 0⟩], 0) := by kernel_rfl
  have v2 : extR (exSh A1 c1 A2 c2) exPu = (20, 0) := by kernel_rfl
  have v3 : pcheckR ⟨30, 20, 0, 0⟩ (exSh A1 c1 A2 c2) exPu = 0 := by kernel_rfl
  have v4 : fitsR ⟨30, 20, 0, 0⟩ (exSh A1 c1 A2 c2) exPu ⟨0, false, 0, 25, 0⟩ = 13 := by kernel_rfl
  have v5 : fitsR ⟨30, 20, 0, 0⟩ (exSh A1 c1 A2 c2) exPu ⟨0, false, 0, 5, 5⟩ = 14 := by kernel_rfl
  have v6 : fitsR ⟨30, 20, 0, 0⟩ (exSh A1 c1 A2 c2) [] ⟨0, false, 1, 20, 0⟩ = 12 := by kernel_rfl
  have v7 : fitsR ⟨30, 20, 0, 0⟩ (exSh A1 c1 A2 c2) [] ⟨1, false, 1, 20, 0⟩ = 0 := by kernel_rfl
  have v8 : fitsR ⟨30, 20, 8, 0⟩ (exSh A1 c1 A2 c2) [] ⟨0, false, 0, 10, 0⟩ = 15 := by kernel_rfl
  have v9 : fitsR ⟨30, 20, 8, 0⟩ (exSh A1 c1 A2 c2) [] ⟨0, false, 0, 16, 0⟩ = 0 := by kernel_rfl
  have H1 : ∀ W', Later W W' → Calls Try.prog 39 #[.slice (some ⟨S, 0, none⟩) 2 2, .agg #[.int .i64 1, .bool false, .int .i64 1, .int .i64 20, .int .i64 0]] W' (PolyOk [⟨20, 0⟩, ⟨20, 10⟩, ⟨10, 10⟩, ⟨10, 0⟩] W') := fun W' hW => by
    have := place_Poly_yes (some ⟨S, 0, none⟩) 2 (exSh A1 c1 A2 c2) ⟨1, false, 1, 20, 0⟩ W' (Hs.out.later hW) (by show 2 ≤ _; decide) exSh_len (by rw [v1])
    rw [v1] at this
    exact this
  have H2 : ∀ W', Later W W' → Calls Try.prog 45 #[.slice (some ⟨S, 0, none⟩) 2 2, .slice (some ⟨S3, 0, none⟩) 2 2] W' (Ret (.tuple #[.int .i64 20, .int .i64 0]) W') := fun W' hW => by
    have := place_Extent (some ⟨S, 0, none⟩) (some ⟨S3, 0, none⟩) 2 2 (exSh A1 c1 A2 c2) exPu W' (Hs.out.later hW) (by show 2 ≤ _; decide) exSh_len (Hp.out.later hW) (by decide)
    rw [v2] at this
    exact this
  have H3 : ∀ W', Later W W' → Calls Try.prog 36 #[.agg #[.int .i64 30, .int .i64 20, .int .i64 0, .int .i64 0], .slice (some ⟨S, 0, none⟩) 2 2, .slice (some ⟨S3, 0, none⟩) 2 2] W' (Ret (.int .i64 0) W') := fun W' hW => by
    have := place_Check ⟨30, 20, 0, 0⟩ (some ⟨S, 0, none⟩) (some ⟨S3, 0, none⟩) 2 2 (exSh A1 c1 A2 c2) exPu W' (Hs.out.later hW) (by show 2 ≤ _; decide) exSh_len (Hp.out.later hW) (by decide)
    rw [v3] at this
    exact this
  have H4 := fun W' (hW : Later W W') => ex30_fits ⟨30, 20, 0, 0⟩ exPu 2 (some ⟨S3, 0, none⟩) ⟨0, false, 0, 25, 0⟩ 13 rfl (by decide) (Hs.out.later hW) (Hp.out.later hW) v4
  have H5 := fun W' (hW : Later W W') => ex30_fits ⟨30, 20, 0, 0⟩ exPu 2 (some ⟨S3, 0, none⟩) ⟨0, false, 0, 5, 5⟩ 14 rfl (by decide) (Hs.out.later hW) (Hp.out.later hW) v5
  have H6 := fun W' (hW : Later W W') => ex30_fits ⟨30, 20, 0, 0⟩ [] 0 none ⟨0, false, 1, 20, 0⟩ 12 rfl (by decide) (Hs.out.later hW) (puts_nil _ _) v6
  have H7 := fun W' (hW : Later W W') => ex30_fits ⟨30, 20, 0, 0⟩ [] 0 none ⟨1, false, 1, 20, 0⟩ 0 rfl (by decide) (Hs.out.later hW) (puts_nil _ _) v7
  have H8 := fun W' (hW : Later W W') => ex30_fits ⟨30, 20, 8, 0⟩ [] 0 none ⟨0, false, 0, 10, 0⟩ 15 rfl (by decide) (Hs.out.later hW) (puts_nil _ _) v8
  have H9 := fun W' (hW : Later W W') => ex30_fits ⟨30, 20, 8, 0⟩ [] 0 none ⟨0, false, 0, 16, 0⟩ 0 rfl (by decide) (Hs.out.later hW) (puts_nil _ _) v9
  simp only [] at H4 H5 H6 H7 H8 H9
  have K1 := Lib.hid H1
  have K2 := Lib.hid H2
  have K3 := Lib.hid H3
  have K4 := Lib.hid H4
  have K5 := Lib.hid H5
  have K6 := Lib.hid H6
  have K7 := Lib.hid H7
  have K8 := Lib.hid H8
  have K9 := Lib.hid H9
  clear H1 H2 H3 H4 H5 H6 H7 H8 H9 v1 v2 v3 v4 v5 v6 v7 v8 v9 hs hp
  go_upto_region 7 with (first | (go_at_call 39; (with_reducible refine (K1.out _ (by repeat' (with_reducible first | exact Later.refl _ | assumption | refine Later.drew ?_ | refine Later.drewN ?_ _ | refine Later.alloc ?_ _ | refine Later.put ?_ (by omega) _ | refine Later.trans ?_ (by assumption)))).mono ?_); rintro e w5 ⟨A5, c5, rfl, z1, z2, z3, hb5⟩) | (go_at_call 45; (with_reducible refine (K2.out _ (by repeat' (with_reducible first | exact Later.refl _ | assumption | refine Later.drew ?_ | refine Later.drewN ?_ _ | refine Later.alloc ?_ _ | refine Later.put ?_ (by omega) _ | refine Later.trans ?_ (by assumption)))).mono ?_); rintro e w6 ⟨rfl, hb6⟩))
  have z6 := z3.later hb6
  have hl6 : Later W w6 := hb5.trans hb6
  clear z3 hb5 hb6
  have H10 : ∀ W' g, Later w6 W' → Blk W' g 86 #[.int .i64 20, .int .i64 0, .int .i64 20, .int .i64 10, .int .i64 10, .int .i64 10, .int .i64 10, .int .i64 0] → Calls Try.prog 74 #[.slice A5 4 c5, .slice (some ⟨g, 0, none⟩) 4 4] W' (Ret (.bool true) W') := fun W' g hW hB => by
    have := ref30_Same A5 (some ⟨g, 0, none⟩) c5 4 [⟨20, 0⟩, ⟨20, 10⟩, ⟨10, 10⟩, ⟨10, 0⟩] [⟨20, 0⟩, ⟨20, 10⟩, ⟨10, 10⟩, ⟨10, 0⟩] W' (by decide) (z6.later hW) (fun _ => ⟨g, 0, rfl, pts_four hB⟩)
    rw [show samePs [⟨20, 0⟩, ⟨20, 10⟩, ⟨10, 10⟩, ⟨10, 0⟩] [⟨20, 0⟩, ⟨20, 10⟩, ⟨10, 10⟩, ⟨10, 0⟩] = true by kernel_rfl] at this
    exact this
  have K10 := Lib.hid H10
  clear H10 z6
  go_upto_region 9 with (first | (go_at_call 74; (with_reducible refine (K10.out _ _ (by repeat' (with_reducible first | exact Later.refl _ | assumption | refine Later.drew ?_ | refine Later.drewN ?_ _ | refine Later.alloc ?_ _ | refine Later.put ?_ (by omega) _ | refine Later.trans ?_ (by assumption))) (by repeat' (with_reducible first | assumption | (refine Blk.newAt ?_; simp; done) | refine Blk.alloc ?_ _ | refine Blk.drew ?_ | refine Blk.drewN ?_ _ | refine Blk.later ?_ (by assumption)))).mono ?_); rintro e w7 ⟨rfl, hb7⟩))
  have hl7 : Later W w7 := hl6.trans (((Later.refl _).alloc _).trans hb7)
  clear hl6 hb7
  have a0 : w7.cell? ⟨S1, 0, none⟩ = some (.int .i64 30) := hl7.cell (B1.cell 0)
  have a1 : w7.cell? ⟨S1, 1, none⟩ = some (.int .i64 20) := hl7.cell (B1.cell 1)
  have a2 : w7.cell? ⟨S1, 2, none⟩ = some (.int .i64 0) := hl7.cell (B1.cell 2)
  have a3 : w7.cell? ⟨S1, 3, none⟩ = some (.int .i64 0) := hl7.cell (B1.cell 3)
  go_upto_region 11 with (first | (go_at_call 36; (with_reducible refine (K3.out _ hl7).mono ?_); rintro e w8 ⟨rfl, hb8⟩; have b0 := hb8.cell a0; have b1 := hb8.cell a1; have b2 := hb8.cell a2; have b3 := hb8.cell a3; have hl8 := hl7.trans hb8) | (go_at_call 75; (with_reducible refine (K4.out _ hl8).mono ?_); rintro e w9 ⟨rfl, hb9⟩; have d0 := hb9.cell b0; have d1 := hb9.cell b1; have d2 := hb9.cell b2; have d3 := hb9.cell b3; have hl9 := hl8.trans hb9) | (go_at_call 75; (with_reducible refine (K5.out _ hl9).mono ?_); rintro e w10 ⟨rfl, hb10⟩))
  have e0 := hb10.cell d0
  have e1 := hb10.cell d1
  have e2 := hb10.cell d2
  have e3 := hb10.cell d3
  have hl10 := hl9.trans hb10
  go_upto_region 13 with (first | (go_at_call 75; (with_reducible refine (K6.out _ hl10).mono ?_); rintro e w11 ⟨rfl, hb11⟩; have f0 := hb11.cell e0; have f1 := hb11.cell e1; have f2 := hb11.cell e2; have f3 := hb11.cell e3; have hl11 := hl10.trans hb11) | (go_at_call 75; (with_reducible refine (K7.out _ hl11).mono ?_); rintro e w12 ⟨rfl, hb12⟩))
  have hl12 := hl11.trans hb12
  have g0 : w12.cell? ⟨S2, 0, none⟩ = some (.int .i64 30) := hl12.cell (B2.cell 0)
  have g1 : w12.cell? ⟨S2, 1, none⟩ = some (.int .i64 20) := hl12.cell (B2.cell 1)
  have g2 : w12.cell? ⟨S2, 2, none⟩ = some (.int .i64 8) := hl12.cell (B2.cell 2)
  have g3 : w12.cell? ⟨S2, 3, none⟩ = some (.int .i64 0) := hl12.cell (B2.cell 3)
  go_wp2_with (first | (go_at_call 75; (with_reducible refine (K8.out _ hl12).mono ?_); rintro e w13 ⟨rfl, hb13⟩; have f0 := hb13.cell g0; have f1 := hb13.cell g1; have f2 := hb13.cell g2; have f3 := hb13.cell g3; have hl13 := hl12.trans hb13) | (go_at_call 75; (with_reducible refine (K9.out _ hl13).mono ?_); rintro e w14 ⟨rfl, hb14⟩))
  go_ret
  exact ⟨rfl, hl.trans (hl13.trans hb14)⟩

end Go.Proofs.Ytinjdlnikhcbfaa
