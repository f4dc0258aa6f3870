/-
 garmentlaw38.laid.
-/
import Derived.Test.YtdhakoecjmaebaaGreatZOpen38
import Derived.Test.YtdhakoecjmaebaaGreatZSprR
import Derived.Test.YtdhakoecjmaebaaGreatZAccD
import Derived.Test.YtdhakoecjmaebaaGreatZOpen39
import Derived.Test.YtdhakoecjmaebaaGreatZAccA
namespace Go.Proofs.YtdhakoecjmaebaaGreat
open Go.RowKit
set_option linter.unusedSimpArgs false
set_option linter.unusedVariables false
def spR (c : C8) : List Pl × List Qd × Int := spreadR c.len c.wd c.ps c.rs c.lots c.plies
theorem few8_all {c : C8} (h : few8 c = true) : c.plies.length ≤ 6 ∧ c.ps.length ≤ 6 ∧ c.rs.length ≤ 6 ∧ c.lots.length ≤ 8 ∧ c.sz.length ≤ 7 ∧ c.pl.length ≤ 8 ∧ ∀ p ∈ c.ps, p.length ≤ 12 := by
 unfold few8 at h
 rw [Bool.and_eq_true, decide_eq_true_iff] at h
 obtain ⟨a, b, d, _, f, g, k⟩ := f38_all h.2
 exact ⟨by omega, a, b, d, f, g, k⟩
end Go.Proofs.YtdhakoecjmaebaaGreat
namespace Go.Proofs.YtdhakoecjmaebaaGreat
open Go.RowKit
set_option linter.unusedSimpArgs false
set_option linter.unusedVariables false
deriving instance DecidableEq for Qd
def RetBox (ps : List Pt) (w : World) (e : Ending) (w' : World) : Prop := ∃ g c, e = .returned (.slice (some ⟨g, 0, none⟩) ps.length c) ∧ ps.length ≤ c ∧ c ≤ maxLen ∧ w.heap.size ≤ g ∧ g < w'.heap.size ∧ PtsAt w' g 0 ps ∧ Later w w'
@[go_sem] theorem build_roll012 (s : ByteArray) (a b : Int) (w : World) : (Instr.build 100 #[(0, .string s), (1, .int .i64 a), (2, .int .i64 b)]).run Tryz.prog w = .ok (.agg #[.string s, .int .i64 a, .int .i64 b, .int .i64 0, .int .i64 0, .int .i64 0, .slice none 0 0]) w := run_build w 100 _ _ (by kernel_rfl)
@[go_sem] theorem build_marker01 (a b : Int) (w : World) : (Instr.build 62 #[(0, .int .i64 a), (1, .int .i64 b)]).run Tryz.prog w = .ok (.agg #[.int .i64 a, .int .i64 b, .int .i64 0, .int .i64 0, .slice none 0 0, .slice none 0 0]) w := run_build w 62 _ _ (by kernel_rfl)
@[go_sem] theorem build_case8 (a b c d : Int) (A1 A2 A3 A4 A5 A6 : Option Addr) (n1 n2 n3 n4 n5 n6 c1 c2 c3 c4 c5 c6 : Nat) (w : World) : (Instr.build 66 #[(0, .agg #[.int .i64 a, .int .i64 b, .int .i64 c, .int .i64 d, .slice A1 n1 c1, .slice A2 n2 c2]), (1, .slice A3 n3 c3), (2, .slice A4 n4 c4), (3, .slice A5 n5 c5), (4, .slice A6 n6 c6)]).run Tryz.prog w = .ok (.agg #[.int .i64 a, .int .i64 b, .int .i64 c, .int .i64 d, .slice A1 n1 c1, .slice A2 n2 c2, .slice A3 n3 c3, .slice A4 n4 c4, .slice A5 n5 c5, .slice A6 n6 c6]) w := run_build w 66 _ _ (by kernel_rfl)
end Go.Proofs.YtdhakoecjmaebaaGreat
namespace Go.Proofs.YtdhakoecjmaebaaGreat
open Go.RowKit
set_option linter.unusedSimpArgs false
set_option linter.unusedVariables false
section
variable {W : World} {s1 s2 qa ra la aa : Option Addr} {d1 d2 qc rc lc ac : Nat}
end
@[go_sem] theorem b8_p2 (c : Int) (w : World) : (Instr.build 92 #[(2, .int .i64 c)]).run Tryz.prog w = .ok (.agg #[.int .i64 0, .int .i64 0, .int .i64 c, .int .i64 0]) w := run_build w 92 _ _ (by kernel_rfl)
@[go_sem] theorem b8_p023 (a c d : Int) (w : World) : (Instr.build 92 #[(0, .int .i64 a), (2, .int .i64 c), (3, .int .i64 d)]).run Tryz.prog w = .ok (.agg #[.int .i64 a, .int .i64 0, .int .i64 c, .int .i64 d]) w := run_build w 92 _ _ (by kernel_rfl)
@[go_sem] theorem b8_r23 (c d : Int) (w : World) : (Instr.build 192 #[(2, .int .i64 c), (3, .int .i64 d)]).run Tryz.prog w = .ok (.agg #[.int .i64 0, .int .i64 0, .int .i64 c, .int .i64 d]) w := run_build w 192 _ _ (by kernel_rfl)
@[go_sem] theorem b8_r023 (a c d : Int) (w : World) : (Instr.build 192 #[(0, .int .i64 a), (2, .int .i64 c), (3, .int .i64 d)]).run Tryz.prog w = .ok (.agg #[.int .i64 a, .int .i64 0, .int .i64 c, .int .i64 d]) w := run_build w 192 _ _ (by kernel_rfl)
end Go.Proofs.YtdhakoecjmaebaaGreat
namespace Go.Proofs.YtdhakoecjmaebaaGreat
open Go.RowKit
set_option linter.unusedSimpArgs false
set_option linter.unusedVariables false
theorem laid_ok {c : C8} (h : (spR c).2.2 = 0) : LaidOk c.len c.wd c.ps c.rs c.lots c.plies (spR c).1 ∧ lotsGo c.len c.wd c.ps c.rs c.lots c.plies 0 = some (spR c).1 ∧ (spR c).2.1 = restsFrom (allQ (spR c).1) c.rs c.lots 0 := by
 obtain ⟨_, _, ys0, h0, hLk, hSp⟩ := spread_ok h
 have e : spR c = (ys0, restsFrom (allQ ys0) c.rs c.lots 0, 0) := hSp
 rw [e]
 exact ⟨hLk, h0, rfl⟩
end Go.Proofs.YtdhakoecjmaebaaGreat
namespace Go.Proofs.YtdhakoecjmaebaaGreat
open Go.RowKit
set_option linter.unusedSimpArgs false
set_option linter.unusedVariables false
@[go_sem] theorem build_part012 (a b c : Int) (w : World) : (Instr.build 92 #[(0, .int .i64 a), (1, .int .i64 b), (2, .int .i64 c)]).run Tryz.prog w = .ok (.agg #[.int .i64 a, .int .i64 b, .int .i64 c, .int .i64 0]) w := run_build w 92 _ _ (by kernel_rfl)
theorem layR_len {len : Int} {polys : List (List Pt)} : ∀ {l : List Qd} {at_ : Int} {x : List Qd × List Qd}, layR len polys l at_ = some x → x.1.length ≤ l.length ∧ x.2.length ≤ l.length := by
 intro l
 induction l with
 | nil => intro at_ x h; cases h
 | cons r l ih =>
  intro at_ x h
  rw [layR] at h
  split at h
  ·cases h; simp
  ·split at h
   ·rw [Option.map_eq_some_iff] at h
    obtain ⟨y, hy, rfl⟩ := h
    have := ih hy
    simp only [List.length_cons]
    omega
   ·have := ih h
    simp only [List.length_cons]
    omega
theorem pliesN_len {len : Int} {polys : List (List Pt)} {k : Int} : ∀ {n : Nat} {left : List Qd} {ys : List Pl}, pliesN len polys k n left = some ys → ∀ y ∈ ys, y.2.length ≤ left.length := by
 intro n
 induction n with
 | zero => intro left ys h y hy; cases h; cases hy
 | succ n ih =>
  intro left ys h y hy
  rw [pliesN, Option.bind_eq_some_iff] at h
  obtain ⟨x, hx, h⟩ := h
  rw [Option.map_eq_some_iff] at h
  obtain ⟨r, hr, rfl⟩ := h
  have h1 := layR_len hx
  rcases List.mem_cons.1 hy with rfl | hy
  ·exact h1.1
  ·have := ih hr y hy; omega
theorem remGo_len {lot wd : Int} : ∀ {rs : List Rl} {ts : List Int} {i : Nat}, (remGo lot wd rs ts i).length ≤ rs.length := by
 intro rs
 induction rs with
 | nil => intro ts i; simp [remGo]
 | cons r rs ih =>
  intro ts i
  cases ts with
  | nil => simp [remGo]
  | cons t ts =>
   have := ih (ts := ts) (i := i + 1)
   rw [remGo]
   split
   ·simp only [List.length_cons]; omega
   ·simp only [List.length_cons]; omega
theorem lotsGo_len {len wd : Int} {polys : List (List Pt)} {rs : List Rl} {lots : List Int} : ∀ {pl : List Int} {j : Nat} {ys : List Pl}, lotsGo len wd polys rs lots pl j = some ys → ∀ y ∈ ys, y.2.length ≤ rs.length := by
 intro pl
 induction pl with
 | nil => intro j ys h y hy; cases h; cases hy
 | cons n pl ih =>
  intro j ys h y hy
  rw [lotsGo, Option.bind_eq_some_iff] at h
  obtain ⟨x, hx, h⟩ := h
  rw [Option.map_eq_some_iff] at h
  obtain ⟨r, hr, rfl⟩ := h
  rcases List.mem_append.1 hy with hy | hy
  ·exact Nat.le_trans (pliesN_len hx y hy) remGo_len
  ·exact ih hr y hy
structure OnceOk (rs : List Rl) (lots plies : List Int) (ys : List Py) (xs : List Qd) : Prop where
 lot : ys.map (fun y => y.lot) = expandL plies 0
 ln : lots.length = rs.length
 r20 : rs.length ≤ 20
 rl : ∀ r ∈ rs, 1 ≤ r.ln ∧ r.ln ≤ 1048576
 part : ∀ y ∈ ys, ∀ q ∈ y.parts, 0 ≤ q.a ∧ q.a < (rs.length : Int) ∧ gL lots q.a.toNat = y.lot ∧ 0 ≤ q.b ∧ q.b < q.c ∧ q.c ≤ (grl rs q.a.toNat).ln ∧ q.c ≤ 1048576
 rest : ∀ q ∈ xs, 0 ≤ q.a ∧ q.a < (rs.length : Int) ∧ q.b = gL lots q.a.toNat ∧ 0 ≤ q.c ∧ q.c < q.d ∧ q.d ≤ (grl rs q.a.toNat).ln ∧ q.d ≤ 1048576
 few : ∀ y ∈ ys, y.parts.length ≤ 20
 all : (allP ys).length ≤ 800
 xsl : xs.length ≤ 17000
 two : NoTwice (allP ys ++ xs.map restPart)
 sum : lenQ (allP ys ++ xs.map restPart) = lnSum rs
end Go.Proofs.YtdhakoecjmaebaaGreat
namespace Go.Proofs.YtdhakoecjmaebaaGreat
open Go.RowKit
set_option linter.unusedSimpArgs false
set_option linter.unusedVariables false
def few40 (c : C8) (ys : List Py) : Bool := decide ((ys.length : Int) ≤ 6) && few38 c.sz.length c.pl.length c.lots.length c.ps c.rs ys
theorem build_lay9 (a b c d : Int) (s p : Value) (A : Option Addr) (n k : Nat) (w : World) : (Instr.build 70 #[(0, .agg #[.int .i64 a, .int .i64 b, .int .i64 c, .int .i64 d, s, p]), (1, .slice A n k)]).run Tryz.prog w = .ok (.agg #[.int .i64 a, .int .i64 b, .int .i64 c, .int .i64 d, s, p, .slice A n k]) w := run_build w 70 _ _ (by kernel_rfl)
section
attribute [local go_sem] build_lay9
set_option maxHeartbeats 2000000 in
theorem law40_few (c : C8) (A : Option Addr) (k : Nat) (ys : List Py) (w : World) (hc : C8Ok w c) (hy : Plys w A ys) : Calls Tryz.prog 18 #[c.agg, .slice A ys.length k] w (Ret (.bool (few40 c ys)) w) := by
 have HF := Lib.hid (fun W (hW : Later w W) => ref38_Few A c.ra c.qa c.s1 c.s2 c.la k c.rc c.qc c.c1 c.c2 c.lc c.sz.length c.pl.length c.lots.length c.len c.wd c.rx c.ry ys c.rs c.ps W (hy.later hW) (hc.rs.later hW) (hc.ps.later hW))
 unfold C8.agg few40
 generalize few38 c.sz.length c.pl.length c.lots.length c.ps c.rs ys = fb at *
 obtain ⟨len, wd, rx, ry, s1, c1, sz, s2, c2, pl, qa, qc, ps, ra, rc, rs, la, lc, lots, aa, ac, plies⟩ := c
 simp only [] at HF ⊢
 clear hc
 by_cases h6 : (ys.length : Int) ≤ 6
 ·have d6 : decide ((ys.length : Int) ≤ 6) = true := by rw [decide_eq_true_iff]; exact h6
  rw [d6]
  go_enter Tryz.func18, Tryz.ntmps18
  go_wp2_with (first | (go_at_call 35; (with_reducible refine (HF.out _ (by repeat' (with_reducible first | exact .refl _ | assumption | refine .drew ?_ | refine .drewN ?_ _ | refine .alloc ?_ _ | refine .put ?_ (by omega) _ | refine .trans ?_ (by assumption)))).mono ?_); rintro e w1 ⟨rfl, hb1⟩))
  go_ret
  exact ⟨ret_bool (by simp), (by repeat' (with_reducible first | exact .refl _ | assumption | refine .drew ?_ | refine .drewN ?_ _ | refine .alloc ?_ _ | refine .put ?_ (by omega) _ | refine .trans ?_ (by assumption)))⟩
 ·have d6 : decide ((ys.length : Int) ≤ 6) = false := by rw [decide_eq_false_iff_not]; exact h6
  rw [d6]
  go_enter Tryz.func18, Tryz.ntmps18
  go_wp2_with fail
  go_ret
  exact ⟨ret_bool (by simp), (by repeat' (with_reducible first | exact .refl _ | assumption | refine .drew ?_ | refine .drewN ?_ _ | refine .alloc ?_ _ | refine .put ?_ (by omega) _ | refine .trans ?_ (by assumption)))⟩
end
def Ok40 (c : C8) : Prop := few8 c = true ∧ (spR c).2.2 = 0 ∧ (spR c).1.length ≤ 8 ∧ (accR c.len c.wd c.ps c.rs c.lots ((spR c).1.map pyOf)).2 = 0
end Go.Proofs.YtdhakoecjmaebaaGreat
namespace Go.Proofs.YtdhakoecjmaebaaGreat
open Go.RowKit
set_option linter.unusedSimpArgs false
set_option linter.unusedVariables false
theorem Ok40.acc {c : C8} (h : Ok40 c) {ys : List Py} (hys : ys.map Py.pl = (spR c).1) : accR c.len c.wd c.ps c.rs c.lots ys = (balR c.rs c.ps ys, 0) ∧ scheckR c.len c.wd c.ps c.rs c.lots (ys.map Py.pl) = 0 ∧ ckPolysR c.ps c.wd = 0 := by
 have h0 := h.2.2.2
 rw [← hys, acc_py] at h0
 exact acc_zero h0
theorem Ok40.parts {c : C8} (h : Ok40 c) {ys : List Py} (hys : ys.map Py.pl = (spR c).1) : ∀ y ∈ ys, y.parts.length ≤ 6 := by
 intro y hy
 obtain ⟨a1, a2, a3, a4, a5, a6, a7⟩ := few8_all h.1
 have h1 : Py.pl y ∈ (spR c).1 := by rw [← hys]; exact List.mem_map_of_mem hy
 have h2 := lotsGo_len (laid_ok h.2.1).2.1 _ h1
 have h3 : (Py.pl y).2.length = y.parts.length := rfl
 omega
end Go.Proofs.YtdhakoecjmaebaaGreat
namespace Go.Proofs.YtdhakoecjmaebaaGreat
open Go.RowKit
set_option linter.unusedSimpArgs false
set_option linter.unusedVariables false
theorem ints_set (l : List Int) : ∀ (k : Nat) (n : Int), (l.set k n).flatMap i1 = (l.flatMap i1).set k (.int .i64 n) := by
 induction l with
 | nil => intro k n; rfl
 | cons a l ih =>
  intro k n
  cases k with
  | zero => rfl
  | succ k =>
   rw [List.set_cons_succ, List.flatMap_cons, List.flatMap_cons, ih]
   rfl
theorem OwnR.setInt {w : World} {base g c : Nat} {E : TypeId} {l : List Int} (h : OwnR w base E 1 i1 (.slice (some ⟨g, 0, none⟩) l.length c) l) (k : Nat) (n : Int) :
  OwnR (w.setCell ⟨g, k, none⟩ (.int .i64 n)) base E 1 i1 (.slice (some ⟨g, 0, none⟩) l.length c) (l.set k n) := by
 obtain ⟨h1, _⟩ := World.ownsRow.stored (show w.ownsRow base E 1 _ l.length (l.flatMap i1) from h) k (.int .i64 n)
 unfold OwnR
 rw [ints_set, List.length_set]
 exact h1
theorem OwnR.blk {α : Type} {cells : α → List Value} {sz : Nat} (hc : ∀ a, (cells a).length = sz) {w : World} {base : Nat} {E : TypeId} {v : Value} {l : List α} (h : OwnR w base E sz cells v l) (hn : 0 < l.length) :
  ∃ g c, v = .slice (some ⟨g, 0, none⟩) l.length c ∧ l.length ≤ c ∧ c ≤ maxLen ∧ base ≤ g ∧ g < w.heap.size ∧ ∀ j, w.frozen? ⟨g, j, none⟩ = false := by
 obtain ⟨A, c, e, h1, h2, h3⟩ := h.form hc
 obtain ⟨g, rfl, k1, k2, k3, _⟩ := h3 hn
 exact ⟨g, c, e, h1, h2, k1, k2, k3⟩
theorem OwnR.ints2 {w : World} {base : Nat} {E : TypeId} {A : Option Addr} {n c : Nat} {l : List Int} (h : OwnR w base E 1 i1 (.slice A n c) l) : Ints w A l := by
 obtain ⟨A', c', e, _, _, h3⟩ := h.ints
 cases e
 exact h3
theorem ListAt.take {α : Type} {w : World} {sz : Nat} {cells : α → List Value} {ok : World → α → Prop} {A : Option Addr} {l : List α} (h : ListAt w sz cells ok A l) (n : Nat) : ListAt w sz cells ok A (l.take n) := fun hn => by
 obtain ⟨b, o, e, hx⟩ := h (by rw [List.length_take] at hn; omega)
 exact ⟨b, o, e, fun i a ha => hx i a (by rw [List.getElem?_take] at ha; split at ha; exact ha; cases ha)⟩
section
variable {α : Type} {cells : α → List Value} {sz : Nat} {P : Program} {ops : Array Oper} {Q : Exit → Act → World → Prop} {md : Region.Mode} {S : World → Prop}
theorem ready_val3 {i d : Nat} {o : Oper} {v : Value} {fuel : Nat} {listed : Array Bool} {a : Act} {w w' : World} {rs : List Nat} (ho : ops[i]? = some o) (hd : o.dst = some d) (hw : Region.wanted o (yielded ops a.tmps) = true) (he : (execOp a.eval o).run P w = .ok (.value v) w') (hS : S w')
  (h : wpAnyH P md ops Q S fuel (listed.setIfInBounds i true) (a.put (some d) v) w') (hs : AllReadyH P md ops Q S fuel listed a w rs) : AllReadyH P md ops Q S fuel listed a w (i :: rs) :=
 ready_val' ho hw he hS (hd.symm ▸ h) hs
theorem store_at {i : Nat} {o : Oper} {fuel : Nat} {listed : Array Bool} {a : Act} {w w' : World} (hr : Region.ready md ops listed = [i]) (ho : ops[i]? = some o) (hd : o.dst = none)
  (hw : Region.wanted o (yielded ops a.tmps) = true) (he : (execOp a.eval o).run P w = .ok .skip w') (hS : S w')
  (h : wpAnyH P md ops Q S fuel (listed.setIfInBounds i true) a w') : wpAnyH P md ops Q S (fuel + 1) listed a w := by
 refine wpAnyH_ready hr (by simp) (AllReadyH.cons ho (fun K hK => ?_) AllReadyH.nil)
 rw [if_pos hw]
 unfold Oper.wp
 rw [he]
 have := hK.out a w' hS (fun _ => h)
 rw [Oper.upon_skip, hd]
 exact this
end
end Go.Proofs.YtdhakoecjmaebaaGreat
namespace Go.Proofs.YtdhakoecjmaebaaGreat
open Go.RowKit
set_option linter.unusedSimpArgs false
set_option linter.unusedVariables false
theorem f40_parts {n1 n2 nl : Nat} {ps : List (List Pt)} {rs : List Rl} {ys : List Py} (h : few38 n1 n2 nl ps rs ys = true) : ∀ y ∈ ys, y.parts.length ≤ 6 := by
 unfold few38 at h
 split at h
 ·cases h
 ·split at h
  ·cases h
  ·split at h
   ·cases h
   ·exact pliesB_all h
theorem few40_all {c : C8} {ys : List Py} (h : few40 c ys = true) : ys.length ≤ 6 ∧ few38 c.sz.length c.pl.length c.lots.length c.ps c.rs ys = true := by
 unfold few40 at h
 rw [Bool.and_eq_true, decide_eq_true_iff] at h
 exact ⟨by omega, h.2⟩
theorem few40_of {c : C8} {ys zs : List Py} {A : Option Addr} {k : Nat} {w : World} (hc : C8Ok w c) (h : few40 c ys = true) (hz : ∀ z ∈ zs, z ∈ ys) (hl : zs.length ≤ ys.length) (hy : Plys w A zs) :
  Calls Tryz.prog 20 #[.agg #[.int .i64 c.len, .int .i64 c.wd, .int .i64 c.rx, .int .i64 c.ry, .slice c.s1 c.sz.length c.c1, .slice c.s2 c.pl.length c.c2, .slice A zs.length k], .slice c.ra c.rs.length c.rc, .slice c.la c.lots.length c.lc, .slice c.qa c.ps.length c.qc] w
   (Ret (.tuple #[(accR c.len c.wd c.ps c.rs c.lots zs).1.agg, .int .i64 (accR c.len c.wd c.ps c.rs c.lots zs).2]) w) := by
 obtain ⟨h6, h38⟩ := few40_all h
 obtain ⟨a1, a2, a3, a4, a5, a6, a7⟩ := f38_all h38
 have hp := f40_parts h38
 exact account_Of c.qa c.ra c.la c.s1 c.s2 A c.qc c.rc c.lc c.sz.length c.c1 c.pl.length c.c2 k c.len c.wd c.rx c.ry c.ps c.rs c.lots zs w hc.ps (fun p hp => by have := a7 p hp; omega) hc.rs (by omega) hc.lots (by omega) hy (by omega) (fun y hy => by have := hp y (hz y hy); omega) (by omega) hc.psc.1
section
attribute [local go_sem] build_lay9
end
end Go.Proofs.YtdhakoecjmaebaaGreat
namespace Go.Proofs.YtdhakoecjmaebaaGreat
open Go.RowKit
set_option linter.unusedSimpArgs false
set_option linter.unusedVariables false
theorem lo_y_ge : ∀ (l : List Pt) (a : Pt), 0 ≤ a.y → (∀ p ∈ l, 0 ≤ p.y) → 0 ≤ (l.foldl loP a).y := by
 intro l
 induction l with
 | nil => intro a h _; exact h
 | cons b l ih =>
  intro a h hl
  have hb := hl b (List.mem_cons_self ..)
  exact ih _ (by unfold loP; simp only []; omega) (fun p hp => hl p (List.mem_cons_of_mem _ hp))
theorem hi_y_le {M : Int} : ∀ (l : List Pt) (a : Pt), a.y ≤ M → (∀ p ∈ l, p.y ≤ M) → (l.foldl hiP a).y ≤ M := by
 intro l
 induction l with
 | nil => intro a h _; exact h
 | cons b l ih =>
  intro a h hl
  have hb := hl b (List.mem_cons_self ..)
  exact ih _ (by unfold hiP; simp only []; omega) (fun p hp => hl p (List.mem_cons_of_mem _ hp))
theorem box_y {ps : List Pt} {W : Int} (hn : 0 < ps.length) (h : ∀ p ∈ ps, 0 ≤ p.y ∧ p.y ≤ W) : 0 ≤ (loOf ps).y ∧ (hiOf ps).y ≤ W := by
 have h0 : ps.getD 0 ⟨0, 0⟩ ∈ ps := by
  have : ps.getD 0 ⟨0, 0⟩ = ps[0] := by simp [hn]
  rw [this]; exact List.getElem_mem hn
 exact ⟨lo_y_ge ps _ (h _ h0).1 (fun p hp => (h p hp).1), hi_y_le ps _ (h _ h0).2 (fun p hp => (h p hp).2)⟩
section
variable {W : Int} {ps : List (List Pt)}
theorem ckY_out : ∀ {ps : List (List Pt)}, (∀ p ∈ ps, checkI p = 0) → ∀ p ∈ ps, ∀ v ∈ p, (v.y < 0 ∨ W < v.y) → ckYGo W ps = 13 := by
 intro ps
 induction ps with
 | nil => intro _ p hp; cases hp
 | cons a l ih =>
  intro h p hp v hv ho
  have ha := h a (List.mem_cons_self ..)
  rw [ckYGo, if_neg (by simpa using ha)]
  rcases List.mem_cons.1 hp with rfl | hp
  ·have := box_in p v hv
   rw [if_pos (by omega)]
  ·by_cases hb : (loOf a).y < 0 ∨ W < (hiOf a).y
   ·rw [if_pos hb]
   ·rw [if_neg hb]
    exact ih (fun q hq => h q (List.mem_cons_of_mem _ hq)) p hp v hv ho
theorem ck_len {p : List Pt} (h : checkI p = 0) : 0 < p.length := by
 unfold checkI at h
 split at h
 ·cases h
 ·omega
theorem ckY_in : ∀ {ps : List (List Pt)}, (∀ p ∈ ps, checkI p = 0) → (∀ p ∈ ps, ∀ v ∈ p, 0 ≤ v.y ∧ v.y ≤ W) → ckYGo W ps = 0 := by
 intro ps
 induction ps with
 | nil => intro _ _; rfl
 | cons a l ih =>
  intro h hi
  have ha := h a (List.mem_cons_self ..)
  have hb := box_y (ck_len ha) (hi a (List.mem_cons_self ..))
  rw [ckYGo, if_neg (by simpa using ha), if_neg (by omega)]
  exact ih (fun q hq => h q (List.mem_cons_of_mem _ hq)) (fun q hq => hi q (List.mem_cons_of_mem _ hq))
theorem ckORow_or {p : List Pt} (hp : checkI p = 0) : ∀ {l : List (List Pt)}, (∀ q ∈ l, checkI q = 0) → (ckORow p l = 0 ∧ ∀ q ∈ l, (overR p q).1 = false) ∨ (ckORow p l = 14 ∧ ∃ q ∈ l, (overR p q).1 = true) := by
 intro l
 induction l with
 | nil => intro _; exact .inl ⟨rfl, fun q hq => by cases hq⟩
 | cons a l ih =>
  intro h
  have h0 := over_zero hp (h a (List.mem_cons_self ..))
  rw [ckORow, if_neg (by simpa using h0)]
  by_cases ho : (overR p a).1 = true
  ·rw [if_pos ho]
   exact .inr ⟨rfl, a, List.mem_cons_self .., ho⟩
  ·rw [if_neg ho]
   rcases ih (fun q hq => h q (List.mem_cons_of_mem _ hq)) with ⟨k1, k2⟩ | ⟨k1, q, k2, k3⟩
   ·refine .inl ⟨k1, fun q hq => ?_⟩
    rcases List.mem_cons.1 hq with rfl | hq
    ·simpa using ho
    ·exact k2 q hq
   ·exact .inr ⟨k1, q, List.mem_cons_of_mem _ k2, k3⟩
theorem ckOGo_or (h : ∀ p ∈ ps, checkI p = 0) : ∀ {f i : Nat}, i + f ≤ ps.length → (ckOGo ps f i = 0 ∧ ∀ j (hj : j < ps.length), i ≤ j → j < i + f → ∀ q ∈ ps.take j, (overR ps[j] q).1 = false) ∨ (ckOGo ps f i = 14 ∧ ∃ j, ∃ hj : j < ps.length, i ≤ j ∧ ∃ q ∈ ps.take j, (overR ps[j] q).1 = true) := by
 intro f
 induction f with
 | zero => intro i _; exact .inl ⟨rfl, fun j hj h1 h2 => by omega⟩
 | succ f ih =>
  intro i hi
  have hlt : i < ps.length := by omega
  have e : ps.getD i [] = ps[i] := by simp [hlt]
  rw [ckOGo, e]
  rcases ckORow_or (h _ (List.getElem_mem hlt)) (l := ps.take i) (fun q hq => h q (List.mem_of_mem_take hq)) with ⟨k1, k2⟩ | ⟨k1, q, k2, k3⟩
  ·rw [if_neg (by simpa using k1)]
   rcases ih (i := i + 1) (by omega) with ⟨m1, m2⟩ | ⟨m1, j, hj, m2, m3⟩
   ·refine .inl ⟨m1, fun j hj h1 h2 => ?_⟩
    by_cases ej : j = i
    ·subst ej; exact k2
    ·exact m2 j hj (by omega) (by omega)
   ·exact .inr ⟨m1, j, hj, by omega, m3⟩
  ·rw [if_pos (by rw [k1]; decide), k1]
   exact .inr ⟨rfl, i, hlt, Nat.le_refl _, q, k2, k3⟩
theorem ck_out (h : ∀ p ∈ ps, checkI p = 0) {i : Nat} (hi : i < ps.length) {k : Nat} (hk : k < ps[i].length) (ho : ps[i][k].y < 0 ∨ W < ps[i][k].y) : ckPolysR ps W = 13 := by
 have := ckY_out (W := W) h _ (List.getElem_mem hi) _ (List.getElem_mem hk) ho
 unfold ckPolysR
 rw [if_pos (by rw [this]; decide), this]
theorem ck_over (h : ∀ p ∈ ps, checkI p = 0) (hin : ∀ p ∈ ps, ∀ v ∈ p, 0 ≤ v.y ∧ v.y ≤ W) {i : Nat} (hi : i < ps.length) {k : Nat} (hk : k < i) (ho : (overR ps[k] ps[i]).1 = true) : ckPolysR ps W = 14 := by
 unfold ckPolysR
 rw [if_neg (by simpa using ckY_in h hin)]
 rcases ckOGo_or h (f := ps.length) (i := 0) (by omega) with ⟨_, k2⟩ | ⟨k1, _⟩
 ·have := k2 i hi (by omega) (by omega) ps[k] (by
   have e : (ps.take i)[k]'(by rw [List.length_take]; omega) = ps[k] := List.getElem_take
   rw [← e]; exact List.getElem_mem _)
  rw [over_comm (h _ (List.getElem_mem hi)) (h _ (List.getElem_mem (by omega)))] at this
  rw [this] at ho; cases ho
 ·exact k1
theorem ck_fine (h : ∀ p ∈ ps, checkI p = 0) (hin : ∀ p ∈ ps, ∀ v ∈ p, 0 ≤ v.y ∧ v.y ≤ W) (ho : ∀ i (hi : i < ps.length) k (hk : k < i), (overR ps[k] ps[i]).1 = false) : ckPolysR ps W = 0 := by
 unfold ckPolysR
 rw [if_neg (by simpa using ckY_in h hin)]
 rcases ckOGo_or h (f := ps.length) (i := 0) (by omega) with ⟨k1, _⟩ | ⟨_, j, hj, _, q, hq, k3⟩
 ·exact k1
 ·obtain ⟨k, hk, e⟩ := List.getElem_of_mem hq
  have hkj : k < j := by rw [List.length_take] at hk; omega
  have e2 : ps[k] = q := by rw [← e]; exact List.getElem_take.symm
  have := ho j hj k hkj
  rw [e2, ← over_comm (h _ (List.getElem_mem hj)) (by rw [← e2]; exact h _ (List.getElem_mem (by omega)))] at this
  rw [this] at k3; cases k3
end
end Go.Proofs.YtdhakoecjmaebaaGreat
namespace Go.Proofs.YtdhakoecjmaebaaGreat
open Go.RowKit
section
variable {P : Program} {ops : Array Oper} {Q : Exit → Act → World → Prop} {md : Region.Mode} {S : World → Prop}
theorem ready_call {i d f : Nat} {o : Oper} {args : Array Value} {fuel : Nat} {listed : Array Bool} {a : Act} {w : World} {rs : List Nat} (ho : ops[i]? = some o) (hd : o.dst = some d)
  (hw : Region.wanted o (yielded ops a.tmps) = true) (he : (execOp a.eval o).run P w = .ok (.enter f args) w)
  (h : Calls P f args w fun e w' => ∃ v, e = .returned v ∧ S w' ∧ (S w' → wpAnyH P md ops Q S fuel (listed.setIfInBounds i true) (a.put (some d) v) w')) (hrs : AllReadyH P md ops Q S fuel listed a w rs) : AllReadyH P md ops Q S fuel listed a w (i :: rs) := by
 refine AllReadyH.cons ho (fun K hK => ?_) hrs
 rw [if_pos hw]
 unfold Oper.wp
 rw [he]
 refine Calls.mono h ?_
 rintro e w' ⟨v, rfl, hS, hn⟩
 exact hK.out _ _ hS (fun h' => hd.symm ▸ hn h')
end
end Go.Proofs.YtdhakoecjmaebaaGreat
