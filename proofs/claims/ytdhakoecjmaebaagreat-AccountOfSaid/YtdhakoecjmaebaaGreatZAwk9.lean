/-
 garmentlaw40.awake: the chapter's examples hold.
-/
import Derived.Test.YtdhakoecjmaebaaGreatZStepC
import Derived.Test.YtdhakoecjmaebaaGreatZAccC
namespace Go.Proofs.YtdhakoecjmaebaaGreat
open Go.RowKit
set_option linter.unusedSimpArgs false
set_option linter.unusedVariables false
def nPs : List (List Pt) := [rectPts 0 0 40 5, rectPts 40 0 60 5]
def nRl (fa : Option Addr) (fc : Nat) (fl : List Qd) : Rl := ⟨⟨#[65]⟩, 12, 100, 0, 0, 0, fa, fc, fl⟩
def nPy (A : Option Addr) (k : Nat) : Py := ⟨0, A, k, [⟨0, 0, 60, 0⟩]⟩
theorem n_of1 : (accR 60 10 nPs [nRl none 0 []] [0] [nPy none 0]).1.t = 1440 ∧ (accR 60 10 nPs [nRl none 0 []] [0] [nPy none 0]).1.p = 600 ∧ (accR 60 10 nPs [nRl none 0 []] [0] [nPy none 0]).1.d = 0 ∧ (accR 60 10 nPs [nRl none 0 []] [0] [nPy none 0]).1.w = 840 ∧ (accR 60 10 nPs [nRl none 0 []] [0] [nPy none 0]).1.s = 0 ∧ (accR 60 10 nPs [nRl none 0 []] [0] [nPy none 0]).2 = 0 := by decide +kernel
theorem n_of3 : (accR 60 10 nPs [nRl none 0 []] [0] []).1.t = 0 ∧ (accR 60 10 nPs [nRl none 0 []] [0] []).1.p = 0 ∧ (accR 60 10 nPs [nRl none 0 []] [0] []).1.d = 0 ∧ (accR 60 10 nPs [nRl none 0 []] [0] []).1.w = 0 ∧ (accR 60 10 nPs [nRl none 0 []] [0] []).1.s = 0 ∧ (accR 60 10 nPs [nRl none 0 []] [0] []).2 = 0 := by decide +kernel
theorem n_of2 (fa : Option Addr) (fc : Nat) : accR 60 10 nPs [nRl fa fc [⟨10, 4, 2, 2⟩]] [0] [nPy none 0] = (⟨1440, 200, 400, 840, 0⟩, 0) := by kernel_rfl
theorem n_rolls : (accRollsR [nRl none 0 []] [0] [nPy none 0]).1 = [60] ∧ (accRollsR [nRl none 0 []] [0] [nPy none 0]).2 = 0 := by decide +kernel
set_option maxHeartbeats 1000000 in
theorem law40_box (a b : Int) (w : World) : Calls Tryz.prog 36 #[.int .i64 a, .int .i64 b] w (RetBox (rectPts a 0 b 5) w) := by
 go_enter Tryz.func36, Tryz.ntmps36
 go_wp2
 go_ret
 exact ⟨w.heap.size, 4, rfl, Nat.le_refl _, by decide, Nat.le_refl _, by simp, pts_four (Blk.new w _ _), (by repeat' (with_reducible first | exact .refl _ | assumption | refine .drew ?_ | refine .drewN ?_ _ | refine .alloc ?_ _ | refine .put ?_ (by omega) _ | refine .trans ?_ (by assumption)))⟩
theorem n_rlok {W : World} {fa : Option Addr} {fc : Nat} {fl : List Qd} (h1 : fl.length ≤ fc) (h2 : fc ≤ maxLen) (h3 : Qds W fa fl) (h4 : ∀ q ∈ fl, QdI q) : RlOk W (nRl fa fc fl) :=
 ⟨show (⟨#[65]⟩ : ByteArray).size ≤ maxLen from (by decide), h1, h2, h3, h4, (by unfold I64 nRl; simp only []; omega), (by unfold I64 nRl; simp only []; omega), (by unfold I64 nRl; simp only []; omega), (by unfold I64 nRl; simp only []; omega), (by unfold I64 nRl; simp only []; omega)⟩
theorem n_roll {W : World} {g : Nat} {fa : Option Addr} {fc : Nat} {fl : List Qd} (h : Blk W g 100 #[.string ⟨#[65]⟩, .int .i64 12, .int .i64 100, .int .i64 0, .int .i64 0, .int .i64 0, .slice fa fl.length fc]) (hk : RlOk W (nRl fa fc fl)) : Rolls W (some ⟨g, 0, none⟩) [nRl fa fc fl] := fun _ => ⟨g, 0, rfl, by
 intro i r hr
 rcases i with _ | i
 ·cases hr
  refine ⟨fun j v hv => ?_, hk⟩
  rw [Nat.zero_mul, Nat.zero_add, h.cell j, ← hv]
  rcases j with _ | _ | _ | _ | _ | _ | _ | j <;> first | rfl | (simp [Rl.cells, nRl] at hv)
 ·simp at hr⟩
theorem n_qd {W : World} {g : Nat} {t : TypeId} {a b c d : Int} (h : Blk W g t #[.int .i64 a, .int .i64 b, .int .i64 c, .int .i64 d]) : Qds W (some ⟨g, 0, none⟩) [⟨a, b, c, d⟩] := fun _ => ⟨g, 0, rfl, by
 intro i p hp
 rcases i with _ | i
 ·cases hp; exact ⟨h.cell 0, h.cell 1, h.cell 2, h.cell 3⟩
 ·simp at hp⟩
theorem n_ply {W : World} {g p : Nat} (h : Blk W g 95 #[.int .i64 0, .slice (some ⟨p, 0, none⟩) 1 1]) (hp : Blk W p 92 #[.int .i64 0, .int .i64 0, .int .i64 60, .int .i64 0]) : Plys W (some ⟨g, 0, none⟩) [nPy (some ⟨p, 0, none⟩) 1] := fun _ => ⟨g, 0, rfl, by
 intro i r hr
 rcases i with _ | i
 ·cases hr
  refine ⟨fun j v hv => ?_, Nat.le_refl 1, (by show (1 : Nat) ≤ maxLen; decide), n_qd hp, fun q hq => ?_⟩
  ·rw [Nat.zero_mul, Nat.zero_add, h.cell j, ← hv]
   rcases j with _ | _ | j <;> first | rfl | (simp [Py.cells, nPy] at hv)
  ·rw [List.mem_singleton.1 hq]; unfold QdI I64; simp only []; omega
 ·simp at hr⟩
theorem n_int {W : World} {g : Nat} {n : Int} (h : Blk W g 3 #[.int .i64 n]) : Ints W (some ⟨g, 0, none⟩) [n] := fun _ => ⟨g, 0, rfl, by
 intro i m hi
 rcases i with _ | i
 ·cases hi; exact h.cell 0
 ·simp at hi⟩
theorem n_polys {W : World} {g ga gb ca cb : Nat} (h : Blk W g 28 #[.slice (some ⟨ga, 0, none⟩) 4 ca, .slice (some ⟨gb, 0, none⟩) 4 cb]) (a1 : 4 ≤ ca ∧ ca ≤ maxLen) (b1 : 4 ≤ cb ∧ cb ≤ maxLen) (a5 : PtsAt W ga 0 (rectPts 0 0 40 5)) (b5 : PtsAt W gb 0 (rectPts 40 0 60 5)) : Polys W (some ⟨g, 0, none⟩) nPs := fun _ => ⟨g, 0, rfl, by
 intro i ps hi
 rcases i with _ | _ | i
 ·cases hi; exact ⟨_, h.cell 0, some ⟨ga, 0, none⟩, ca, rfl, a1.1, a1.2, fun _ => ⟨ga, 0, rfl, a5⟩⟩
 ·cases hi; exact ⟨_, h.cell 1, some ⟨gb, 0, none⟩, cb, rfl, b1.1, b1.2, fun _ => ⟨gb, 0, rfl, b5⟩⟩
 ·simp [nPs] at hi⟩
theorem bal_eta {b : Bal} {t p d w s : Int} (h : b.t = t ∧ b.p = p ∧ b.d = d ∧ b.w = w ∧ b.s = s) : b = ⟨t, p, d, w, s⟩ := Bal.ext' h.1 h.2.1 h.2.2.1 h.2.2.2.1 h.2.2.2.2
theorem n_call1 {W : World} {Q C L P : Option Addr} {qc cc lc pc : Nat} {A : Option Addr} {k : Nat} (hq : Polys W Q nPs) (hr : Rolls W C [nRl none 0 []]) (hL : Ints W L [0]) (hp : Plys W P [nPy A k]) (hqc : 2 ≤ qc) :
  Calls Tryz.prog 20 #[.agg #[.int .i64 60, .int .i64 10, .int .i64 0, .int .i64 0, .slice none 0 0, .slice none 0 0, .slice P 1 pc], .slice C 1 cc, .slice L 1 lc, .slice Q 2 qc] W (Ret (.tuple #[.agg #[.int .i64 1440, .int .i64 600, .int .i64 0, .int .i64 840, .int .i64 0], .int .i64 0]) W) := by
 have h := account_Of Q C L none none P qc cc lc 0 0 0 0 pc 60 10 0 0 nPs [nRl none 0 []] [0] [nPy A k] W hq (by decide) hr (by decide) hL (by decide) hp (by simp) (by intro y hy; rw [List.mem_singleton.1 hy]; show 1 ≤ 50; omega) (by decide) hqc
 rw [← acc_py, show (([nPy A k] : List Py).map Py.pl).map pyOf = [nPy none 0] from rfl] at h
 obtain ⟨a1, a2, a3, a4, a5, a6⟩ := n_of1
 rw [bal_eta ⟨a1, a2, a3, a4, a5⟩, a6] at h
 exact h
theorem n_call2 {W : World} {Q C L P : Option Addr} {qc cc lc pc : Nat} {A : Option Addr} {k : Nat} {fa : Option Addr} {fc : Nat} (hq : Polys W Q nPs) (hr : Rolls W C [nRl fa fc [⟨10, 4, 2, 2⟩]]) (hL : Ints W L [0]) (hp : Plys W P [nPy A k]) (hqc : 2 ≤ qc) :
  Calls Tryz.prog 20 #[.agg #[.int .i64 60, .int .i64 10, .int .i64 0, .int .i64 0, .slice none 0 0, .slice none 0 0, .slice P 1 pc], .slice C 1 cc, .slice L 1 lc, .slice Q 2 qc] W (Ret (.tuple #[.agg #[.int .i64 1440, .int .i64 200, .int .i64 400, .int .i64 840, .int .i64 0], .int .i64 0]) W) := by
 have h := account_Of Q C L none none P qc cc lc 0 0 0 0 pc 60 10 0 0 nPs [nRl fa fc [⟨10, 4, 2, 2⟩]] [0] [nPy A k] W hq (by decide) hr (by simp) hL (by decide) hp (by simp) (by intro y hy; rw [List.mem_singleton.1 hy]; show 1 ≤ 50; omega) (by decide) hqc
 rw [← acc_py, show (([nPy A k] : List Py).map Py.pl).map pyOf = [nPy none 0] from rfl, n_of2] at h
 exact h
theorem n_call3 {W : World} {Q C L : Option Addr} {qc cc lc : Nat} (hq : Polys W Q nPs) (hr : Rolls W C [nRl none 0 []]) (hL : Ints W L [0]) (hqc : 2 ≤ qc) :
  Calls Tryz.prog 20 #[.agg #[.int .i64 60, .int .i64 10, .int .i64 0, .int .i64 0, .slice none 0 0, .slice none 0 0, .slice none 0 0], .slice C 1 cc, .slice L 1 lc, .slice Q 2 qc] W (Ret (.tuple #[.agg #[.int .i64 0, .int .i64 0, .int .i64 0, .int .i64 0, .int .i64 0], .int .i64 0]) W) := by
 have h := account_Of Q C L none none none qc cc lc 0 0 0 0 0 60 10 0 0 nPs [nRl none 0 []] [0] [] W hq (by decide) hr (by decide) hL (by decide) (fun h => absurd h (by simp)) (by simp) (by intro y hy; cases hy) (by decide) hqc
 obtain ⟨a1, a2, a3, a4, a5, a6⟩ := n_of3
 rw [bal_eta ⟨a1, a2, a3, a4, a5⟩, a6] at h
 exact h
theorem n_call4 {W : World} {C L P : Option Addr} {cc lc pc : Nat} {A : Option Addr} {k : Nat} (hr : Rolls W C [nRl none 0 []]) (hL : Ints W L [0]) (hp : Plys W P [nPy A k]) :
  Calls Tryz.prog 37 #[.agg #[.int .i64 60, .int .i64 10, .int .i64 0, .int .i64 0, .slice none 0 0, .slice none 0 0, .slice P 1 pc], .slice C 1 cc, .slice L 1 lc] W (fun e w' => ∃ g c, e = .returned (.tuple #[.slice (some ⟨g, 0, none⟩) 1 c, .int .i64 0]) ∧ w'.cell? ⟨g, 0, none⟩ = some (.int .i64 60) ∧ Later W w') := by
 refine (account_Rolls C L none none P cc lc 0 0 0 0 pc 60 10 0 0 [nRl none 0 []] [0] [nPy A k] W hr (by decide) hL (by decide) hp (by simp) (by intro y hy; rw [List.mem_singleton.1 hy]; show 1 ≤ 50; omega)).mono fun e w' hp => ?_
 obtain ⟨A', c, e1, e2, e3⟩ := hp
 have er : accRollsR [nRl none 0 []] [0] [nPy A k] = accRollsR [nRl none 0 []] [0] [nPy none 0] := rfl
 rw [er] at e1 e2
 rw [n_rolls.1, n_rolls.2] at e1
 rw [n_rolls.1] at e2
 obtain ⟨g, c', h1, _, _, _, _, _⟩ := e2.blk i1_len (by simp)
 injection h1 with h1 _ h2
 subst h1 h2
 obtain ⟨b, o, h3, h4⟩ := (e2.ints2).at_ (k := 0) (by simp)
 cases h3
 exact ⟨_, c, e1, h4, e3⟩
@[go_sem] theorem nb_part (c : Int) (w : World) : (Instr.build 92 #[(2, .int .i64 c)]).run Tryz.prog w = .ok (.agg #[.int .i64 0, .int .i64 0, .int .i64 c, .int .i64 0]) w := run_build w 92 _ _ (by kernel_rfl)
@[go_sem] theorem nb_ply (A : Option Addr) (n k : Nat) (w : World) : (Instr.build 95 #[(1, .slice A n k)]).run Tryz.prog w = .ok (.agg #[.int .i64 0, .slice A n k]) w := run_build w 95 _ _ (by kernel_rfl)
@[go_sem] theorem nb_rect (a b c d : Int) (w : World) : (Instr.build 48 #[(0, .int .i64 a), (1, .int .i64 b), (2, .int .i64 c), (3, .int .i64 d)]).run Tryz.prog w = .ok (.agg #[.int .i64 a, .int .i64 b, .int .i64 c, .int .i64 d]) w := run_build w 48 _ _ (by kernel_rfl)
@[go_sem] theorem nb_roll (s : ByteArray) (a b : Int) (A : Option Addr) (n k : Nat) (w : World) : (Instr.build 100 #[(0, .string s), (1, .int .i64 a), (2, .int .i64 b), (4, .slice A n k)]).run Tryz.prog w = .ok (.agg #[.string s, .int .i64 a, .int .i64 b, .int .i64 0, .int .i64 0, .int .i64 0, .slice A n k]) w := run_build w 100 _ _ (by kernel_rfl)
@[go_sem] theorem nb_bal3 (a b c : Int) (w : World) : (Instr.build 72 #[(0, .int .i64 a), (1, .int .i64 b), (3, .int .i64 c)]).run Tryz.prog w = .ok (.agg #[.int .i64 a, .int .i64 b, .int .i64 0, .int .i64 c, .int .i64 0]) w := run_build w 72 _ _ (by kernel_rfl)
@[go_sem] theorem nb_bal4 (a b c d : Int) (w : World) : (Instr.build 72 #[(0, .int .i64 a), (1, .int .i64 b), (2, .int .i64 c), (3, .int .i64 d)]).run Tryz.prog w = .ok (.agg #[.int .i64 a, .int .i64 b, .int .i64 c, .int .i64 d, .int .i64 0]) w := run_build w 72 _ _ (by kernel_rfl)
attribute [local go_sem] build_lay9 build_lay8
set_option maxHeartbeats 8000000 in
set_option maxRecDepth 100000 in
theorem law40_awake (w : World) : Calls Tryz.prog 19 #[] w (Ret (.bool true) w) := by
 go_enter Tryz.func19, Tryz.ntmps19
 go_upto_region 5 with fail
 refine name_world (fun W1 hW1 => ?_)
 have hl1 : Later w W1 := by rw [hW1]; exact (by repeat' (with_reducible first | exact .refl _ | assumption | refine .drew ?_ | refine .drewN ?_ _ | refine .alloc ?_ _ | refine .put ?_ (by omega) _ | refine .trans ?_ (by assumption)))
 have MK : Blk W1 w.heap.size 62 #[.int .i64 60, .int .i64 10, .int .i64 0, .int .i64 0, .slice none 0 0, .slice none 0 0] := by rw [hW1]; exact (by repeat' (with_reducible first | assumption | (refine Blk.newAt ?_; simp; done) | refine Blk.alloc ?_ _ | refine Blk.drew ?_ | refine Blk.drewN ?_ _ | refine Blk.later ?_ (by assumption)))
 have PT : Blk W1 (w.heap.size + 1) 92 #[.int .i64 0, .int .i64 0, .int .i64 60, .int .i64 0] := by rw [hW1]; exact (by repeat' (with_reducible first | assumption | (refine Blk.newAt ?_; simp; done) | refine Blk.alloc ?_ _ | refine Blk.drew ?_ | refine Blk.drewN ?_ _ | refine Blk.later ?_ (by assumption)))
 have PY : Blk W1 (w.heap.size + 1 + 1) 95 #[.int .i64 0, .slice (some ⟨w.heap.size + 1, 0, none⟩) 1 1] := by rw [hW1]; exact (by repeat' (with_reducible first | assumption | (refine Blk.newAt ?_; simp; done) | refine Blk.alloc ?_ _ | refine Blk.drew ?_ | refine Blk.drewN ?_ _ | refine Blk.later ?_ (by assumption)))
 have LY : Blk W1 (w.heap.size + 1 + 1 + 1) 70 #[.int .i64 60, .int .i64 10, .int .i64 0, .int .i64 0, .slice none 0 0, .slice none 0 0, .slice (some ⟨w.heap.size + 1 + 1, 0, none⟩) 1 1] := by rw [hW1]; exact (by repeat' (with_reducible first | assumption | (refine Blk.newAt ?_; simp; done) | refine Blk.alloc ?_ _ | refine Blk.drew ?_ | refine Blk.drewN ?_ _ | refine Blk.later ?_ (by assumption)))
 have R1 : Blk W1 (w.heap.size + 1 + 1 + 1 + 1) 100 #[.string ⟨#[65]⟩, .int .i64 12, .int .i64 100, .int .i64 0, .int .i64 0, .int .i64 0, .slice none 0 0] := by rw [hW1]; exact (by repeat' (with_reducible first | assumption | (refine Blk.newAt ?_; simp; done) | refine Blk.alloc ?_ _ | refine Blk.drew ?_ | refine Blk.drewN ?_ _ | refine Blk.later ?_ (by assumption)))
 have FL : Blk W1 (w.heap.size + 1 + 1 + 1 + 1 + 1) 48 #[.int .i64 10, .int .i64 4, .int .i64 2, .int .i64 2] := by rw [hW1]; exact (by repeat' (with_reducible first | assumption | (refine Blk.newAt ?_; simp; done) | refine Blk.alloc ?_ _ | refine Blk.drew ?_ | refine Blk.drewN ?_ _ | refine Blk.later ?_ (by assumption)))
 have R2 : Blk W1 (w.heap.size + 1 + 1 + 1 + 1 + 1 + 1) 100 #[.string ⟨#[65]⟩, .int .i64 12, .int .i64 100, .int .i64 0, .int .i64 0, .int .i64 0, .slice (some ⟨w.heap.size + 1 + 1 + 1 + 1 + 1, 0, none⟩) 1 1] := by rw [hW1]; exact (by repeat' (with_reducible first | assumption | (refine Blk.newAt ?_; simp; done) | refine Blk.alloc ?_ _ | refine Blk.drew ?_ | refine Blk.drewN ?_ _ | refine Blk.later ?_ (by assumption)))
 clear hW1
 generalize w.heap.size + 1 + 1 + 1 + 1 + 1 + 1 = gr2 at *
 generalize w.heap.size + 1 + 1 + 1 + 1 + 1 = gf at *
 generalize w.heap.size + 1 + 1 + 1 + 1 = gr1 at *
 generalize w.heap.size + 1 + 1 + 1 = gl at *
 generalize w.heap.size + 1 + 1 = gy at *
 generalize w.heap.size + 1 = gp at *
 generalize hgm : w.heap.size = gm at *
 clear hgm
 have hr1 : Rolls W1 (some ⟨gr1, 0, none⟩) [nRl none 0 []] := n_roll R1 (n_rlok (Nat.le_refl _) (Nat.zero_le _) (fun h => absurd h (by simp)) (fun q hq => by cases hq))
 have hr2 : Rolls W1 (some ⟨gr2, 0, none⟩) [nRl (some ⟨gf, 0, none⟩) 1 [⟨10, 4, 2, 2⟩]] := n_roll R2 (n_rlok (Nat.le_refl 1) (by decide) (n_qd FL) (fun q hq => by rw [List.mem_singleton.1 hq]; unfold QdI I64; simp only []; omega))
 have hpy : Plys W1 (some ⟨gy, 0, none⟩) [nPy (some ⟨gp, 0, none⟩) 1] := n_ply PY PT
 clear R1 R2 FL PT PY
 go_upto_region 6 with (first
  | (go_at_call 36; (with_reducible refine (law40_box 0 40 _).mono ?_); rintro e wa ⟨ga, ca, rfl, a1, a2, a3, a4, a5, hba⟩)
  | (go_at_call 36; (with_reducible refine (law40_box 40 60 _).mono ?_); rintro e wb ⟨gb, cb, rfl, b1, b2, b3, b4, b5, hbb⟩))
 refine name_world (fun W6 hW6 => ?_)
 have hl6 : Later W1 W6 := by rw [hW6]; exact (by repeat' (with_reducible first | exact .refl _ | assumption | refine .drew ?_ | refine .drewN ?_ _ | refine .alloc ?_ _ | refine .put ?_ (by omega) _ | refine .trans ?_ (by assumption)))
 have hlb : Later wb W6 := by rw [hW6]; exact (by repeat' (with_reducible first | exact .refl _ | assumption | refine .drew ?_ | refine .drewN ?_ _ | refine .alloc ?_ _ | refine .put ?_ (by omega) _ | refine .trans ?_ (by assumption)))
 have hla : Later wa W6 := by rw [hW6]; exact (by repeat' (with_reducible first | exact .refl _ | assumption | refine .drew ?_ | refine .drewN ?_ _ | refine .alloc ?_ _ | refine .put ?_ (by omega) _ | refine .trans ?_ (by assumption)))
 have DQ : Blk W6 wb.heap.size 28 #[.slice (some ⟨ga, 0, none⟩) (rectPts 0 0 40 5).length ca, .slice (some ⟨gb, 0, none⟩) (rectPts 40 0 60 5).length cb] := by rw [hW6]; exact (by repeat' (with_reducible first | assumption | (refine Blk.newAt ?_; simp; done) | refine Blk.alloc ?_ _ | refine Blk.drew ?_ | refine Blk.drewN ?_ _ | refine Blk.later ?_ (by assumption)))
 clear hW6
 have hqp : Polys W6 (some ⟨wb.heap.size, 0, none⟩) nPs := n_polys DQ ⟨a1, a2⟩ ⟨b1, b2⟩ (a5.later hla) (b5.later hlb)
 generalize wb.heap.size = gq at *
 have H1 := Lib.hid (fun W g (hW : Later W6 W) (hg : Blk W g 3 #[.int .i64 0]) => n_call1 (W := W) (qc := 2) (cc := 1) (lc := 1) (pc := 1) (hqp.later hW) (hr1.later (hl6.trans hW)) (n_int hg) (hpy.later (hl6.trans hW)) (Nat.le_refl 2))
 have H2 := Lib.hid (fun W g (hW : Later W6 W) (hg : Blk W g 3 #[.int .i64 0]) => n_call2 (W := W) (qc := 2) (cc := 1) (lc := 1) (pc := 1) (hqp.later hW) (hr2.later (hl6.trans hW)) (n_int hg) (hpy.later (hl6.trans hW)) (Nat.le_refl 2))
 have H3 := Lib.hid (fun W g (hW : Later W6 W) (hg : Blk W g 3 #[.int .i64 0]) => n_call3 (W := W) (qc := 2) (cc := 1) (lc := 1) (hqp.later hW) (hr1.later (hl6.trans hW)) (n_int hg) (Nat.le_refl 2))
 have H4 := Lib.hid (fun W g (hW : Later W6 W) (hg : Blk W g 3 #[.int .i64 0]) => n_call4 (W := W) (cc := 1) (lc := 1) (pc := 1) (hr1.later (hl6.trans hW)) (n_int hg) (hpy.later (hl6.trans hW)))
 have hlw := hl1.trans hl6
 clear DQ hqp hr1 hr2 hpy hla hlb hba hbb a5 b5 hl1
 have l0 : W6.cell? ⟨gl, 0, none⟩ = some (.int .i64 60) := (LY.later hl6).cell 0
 have l1 : W6.cell? ⟨gl, 1, none⟩ = some (.int .i64 10) := (LY.later hl6).cell 1
 have l2 : W6.cell? ⟨gl, 2, none⟩ = some (.int .i64 0) := (LY.later hl6).cell 2
 have l3 : W6.cell? ⟨gl, 3, none⟩ = some (.int .i64 0) := (LY.later hl6).cell 3
 have l4 : W6.cell? ⟨gl, 4, none⟩ = some (.slice none 0 0) := (LY.later hl6).cell 4
 have l5 : W6.cell? ⟨gl, 5, none⟩ = some (.slice none 0 0) := (LY.later hl6).cell 5
 have l6 : W6.cell? ⟨gl, 6, none⟩ = some (.slice (some ⟨gy, 0, none⟩) 1 1) := (LY.later hl6).cell 6
 have zl := (LY.later hl6).lt
 have m0 : W6.cell? ⟨gm, 0, none⟩ = some (.int .i64 60) := (MK.later hl6).cell 0
 have m1 : W6.cell? ⟨gm, 1, none⟩ = some (.int .i64 10) := (MK.later hl6).cell 1
 have m2 : W6.cell? ⟨gm, 2, none⟩ = some (.int .i64 0) := (MK.later hl6).cell 2
 have m3 : W6.cell? ⟨gm, 3, none⟩ = some (.int .i64 0) := (MK.later hl6).cell 3
 have m4 : W6.cell? ⟨gm, 4, none⟩ = some (.slice none 0 0) := (MK.later hl6).cell 4
 have m5 : W6.cell? ⟨gm, 5, none⟩ = some (.slice none 0 0) := (MK.later hl6).cell 5
 have zm := (MK.later hl6).lt
 go_upto_region 7 with (first | (go_at_call 20; (with_reducible refine (H1.out _ _ (by repeat' (with_reducible first | exact .refl _ | assumption | refine .drew ?_ | refine .drewN ?_ _ | refine .alloc ?_ _ | refine .put ?_ (by omega) _ | refine .trans ?_ (by assumption))) (by repeat' (with_reducible first | assumption | (refine Blk.newAt ?_; simp; done) | refine Blk.alloc ?_ _ | refine Blk.drew ?_ | refine Blk.drewN ?_ _ | refine Blk.later ?_ (by assumption)))).mono ?_); rintro e w7 ⟨rfl, hb7⟩))
 refine name_world (fun W7 hW7 => ?_)
 have h7 : Later w7 W7 := by rw [hW7]; exact (by repeat' (with_reducible first | exact .refl _ | assumption | refine .drew ?_ | refine .drewN ?_ _ | refine .alloc ?_ _ | refine .put ?_ (by omega) _ | refine .trans ?_ (by assumption)))
 have hl7 : Later W6 W7 := by
  have : Later W6 w7 := (by repeat' (with_reducible first | exact .refl _ | assumption | refine .drew ?_ | refine .drewN ?_ _ | refine .alloc ?_ _ | refine .put ?_ (by omega) _ | refine .trans ?_ (by assumption)))
  exact this.trans h7
 have B1 : Blk W7 w7.heap.size 72 #[.int .i64 1440, .int .i64 600, .int .i64 0, .int .i64 840, .int .i64 0] := by rw [hW7]; exact (by repeat' (with_reducible first | assumption | (refine Blk.newAt ?_; simp; done) | refine Blk.alloc ?_ _ | refine Blk.drew ?_ | refine Blk.drewN ?_ _ | refine Blk.later ?_ (by assumption)))
 clear hW7 hb7 h7 l0 l1 l2 l3 l4 l5 l6 zl m0 m1 m2 m3 m4 m5 zm
 generalize w7.heap.size = g1 at *
 have l0 : W7.cell? ⟨gl, 0, none⟩ = some (.int .i64 60) := (LY.later (hl6.trans hl7)).cell 0
 have l1 : W7.cell? ⟨gl, 1, none⟩ = some (.int .i64 10) := (LY.later (hl6.trans hl7)).cell 1
 have l2 : W7.cell? ⟨gl, 2, none⟩ = some (.int .i64 0) := (LY.later (hl6.trans hl7)).cell 2
 have l3 : W7.cell? ⟨gl, 3, none⟩ = some (.int .i64 0) := (LY.later (hl6.trans hl7)).cell 3
 have l4 : W7.cell? ⟨gl, 4, none⟩ = some (.slice none 0 0) := (LY.later (hl6.trans hl7)).cell 4
 have l5 : W7.cell? ⟨gl, 5, none⟩ = some (.slice none 0 0) := (LY.later (hl6.trans hl7)).cell 5
 have l6 : W7.cell? ⟨gl, 6, none⟩ = some (.slice (some ⟨gy, 0, none⟩) 1 1) := (LY.later (hl6.trans hl7)).cell 6
 have zl := (LY.later (hl6.trans hl7)).lt
 have m0 : W7.cell? ⟨gm, 0, none⟩ = some (.int .i64 60) := (MK.later (hl6.trans hl7)).cell 0
 have m1 : W7.cell? ⟨gm, 1, none⟩ = some (.int .i64 10) := (MK.later (hl6.trans hl7)).cell 1
 have m2 : W7.cell? ⟨gm, 2, none⟩ = some (.int .i64 0) := (MK.later (hl6.trans hl7)).cell 2
 have m3 : W7.cell? ⟨gm, 3, none⟩ = some (.int .i64 0) := (MK.later (hl6.trans hl7)).cell 3
 have m4 : W7.cell? ⟨gm, 4, none⟩ = some (.slice none 0 0) := (MK.later (hl6.trans hl7)).cell 4
 have m5 : W7.cell? ⟨gm, 5, none⟩ = some (.slice none 0 0) := (MK.later (hl6.trans hl7)).cell 5
 have zm := (MK.later (hl6.trans hl7)).lt
 go_upto_region 8 with (first | (go_at_call 20; (with_reducible refine (H2.out _ _ (hl7.trans (by repeat' (with_reducible first | exact .refl _ | assumption | refine .drew ?_ | refine .drewN ?_ _ | refine .alloc ?_ _ | refine .put ?_ (by omega) _ | refine .trans ?_ (by assumption)))) (by repeat' (with_reducible first | assumption | (refine Blk.newAt ?_; simp; done) | refine Blk.alloc ?_ _ | refine Blk.drew ?_ | refine Blk.drewN ?_ _ | refine Blk.later ?_ (by assumption)))).mono ?_); rintro e w8 ⟨rfl, hb8⟩))
 refine name_world (fun W8 hW8 => ?_)
 have h8 : Later w8 W8 := by rw [hW8]; exact (by repeat' (with_reducible first | exact .refl _ | assumption | refine .drew ?_ | refine .drewN ?_ _ | refine .alloc ?_ _ | refine .put ?_ (by omega) _ | refine .trans ?_ (by assumption)))
 have hl8' : Later W7 W8 := by
  have : Later W7 w8 := (by repeat' (with_reducible first | exact .refl _ | assumption | refine .drew ?_ | refine .drewN ?_ _ | refine .alloc ?_ _ | refine .put ?_ (by omega) _ | refine .trans ?_ (by assumption)))
  exact this.trans h8
 have hl8 := hl7.trans hl8'
 have B2 : Blk W8 w8.heap.size 72 #[.int .i64 1440, .int .i64 200, .int .i64 400, .int .i64 840, .int .i64 0] := by rw [hW8]; exact (by repeat' (with_reducible first | assumption | (refine Blk.newAt ?_; simp; done) | refine Blk.alloc ?_ _ | refine Blk.drew ?_ | refine Blk.drewN ?_ _ | refine Blk.later ?_ (by assumption)))
 clear hW8 hb8 h8 l0 l1 l2 l3 l4 l5 l6 zl m0 m1 m2 m3 m4 m5 zm
 generalize w8.heap.size = g2 at *
 have l0 : W8.cell? ⟨gl, 0, none⟩ = some (.int .i64 60) := (LY.later (hl6.trans hl8)).cell 0
 have l1 : W8.cell? ⟨gl, 1, none⟩ = some (.int .i64 10) := (LY.later (hl6.trans hl8)).cell 1
 have l2 : W8.cell? ⟨gl, 2, none⟩ = some (.int .i64 0) := (LY.later (hl6.trans hl8)).cell 2
 have l3 : W8.cell? ⟨gl, 3, none⟩ = some (.int .i64 0) := (LY.later (hl6.trans hl8)).cell 3
 have l4 : W8.cell? ⟨gl, 4, none⟩ = some (.slice none 0 0) := (LY.later (hl6.trans hl8)).cell 4
 have l5 : W8.cell? ⟨gl, 5, none⟩ = some (.slice none 0 0) := (LY.later (hl6.trans hl8)).cell 5
 have l6 : W8.cell? ⟨gl, 6, none⟩ = some (.slice (some ⟨gy, 0, none⟩) 1 1) := (LY.later (hl6.trans hl8)).cell 6
 have zl := (LY.later (hl6.trans hl8)).lt
 have m0 : W8.cell? ⟨gm, 0, none⟩ = some (.int .i64 60) := (MK.later (hl6.trans hl8)).cell 0
 have m1 : W8.cell? ⟨gm, 1, none⟩ = some (.int .i64 10) := (MK.later (hl6.trans hl8)).cell 1
 have m2 : W8.cell? ⟨gm, 2, none⟩ = some (.int .i64 0) := (MK.later (hl6.trans hl8)).cell 2
 have m3 : W8.cell? ⟨gm, 3, none⟩ = some (.int .i64 0) := (MK.later (hl6.trans hl8)).cell 3
 have m4 : W8.cell? ⟨gm, 4, none⟩ = some (.slice none 0 0) := (MK.later (hl6.trans hl8)).cell 4
 have m5 : W8.cell? ⟨gm, 5, none⟩ = some (.slice none 0 0) := (MK.later (hl6.trans hl8)).cell 5
 have zm := (MK.later (hl6.trans hl8)).lt
 go_upto_region 9 with (first | (go_at_call 20; (with_reducible refine (H3.out _ _ (hl8.trans (by repeat' (with_reducible first | exact .refl _ | assumption | refine .drew ?_ | refine .drewN ?_ _ | refine .alloc ?_ _ | refine .put ?_ (by omega) _ | refine .trans ?_ (by assumption)))) (by repeat' (with_reducible first | assumption | (refine Blk.newAt ?_; simp; done) | refine Blk.alloc ?_ _ | refine Blk.drew ?_ | refine Blk.drewN ?_ _ | refine Blk.later ?_ (by assumption)))).mono ?_); rintro e w9 ⟨rfl, hb9⟩))
 refine name_world (fun W9 hW9 => ?_)
 have h9 : Later w9 W9 := by rw [hW9]; exact (by repeat' (with_reducible first | exact .refl _ | assumption | refine .drew ?_ | refine .drewN ?_ _ | refine .alloc ?_ _ | refine .put ?_ (by omega) _ | refine .trans ?_ (by assumption)))
 have hl9' : Later W8 W9 := by
  have : Later W8 w9 := (by repeat' (with_reducible first | exact .refl _ | assumption | refine .drew ?_ | refine .drewN ?_ _ | refine .alloc ?_ _ | refine .put ?_ (by omega) _ | refine .trans ?_ (by assumption)))
  exact this.trans h9
 have hl9 := hl8.trans hl9'
 have B3 : Blk W9 w9.heap.size 72 #[.int .i64 0, .int .i64 0, .int .i64 0, .int .i64 0, .int .i64 0] := by rw [hW9]; exact (by repeat' (with_reducible first | assumption | (refine Blk.newAt ?_; simp; done) | refine Blk.alloc ?_ _ | refine Blk.drew ?_ | refine Blk.drewN ?_ _ | refine Blk.later ?_ (by assumption)))
 clear hW9 hb9 h9 l0 l1 l2 l3 l4 l5 l6 zl m0 m1 m2 m3 m4 m5 zm
 generalize w9.heap.size = g3 at *
 have l0 : W9.cell? ⟨gl, 0, none⟩ = some (.int .i64 60) := (LY.later (hl6.trans hl9)).cell 0
 have l1 : W9.cell? ⟨gl, 1, none⟩ = some (.int .i64 10) := (LY.later (hl6.trans hl9)).cell 1
 have l2 : W9.cell? ⟨gl, 2, none⟩ = some (.int .i64 0) := (LY.later (hl6.trans hl9)).cell 2
 have l3 : W9.cell? ⟨gl, 3, none⟩ = some (.int .i64 0) := (LY.later (hl6.trans hl9)).cell 3
 have l4 : W9.cell? ⟨gl, 4, none⟩ = some (.slice none 0 0) := (LY.later (hl6.trans hl9)).cell 4
 have l5 : W9.cell? ⟨gl, 5, none⟩ = some (.slice none 0 0) := (LY.later (hl6.trans hl9)).cell 5
 have l6 : W9.cell? ⟨gl, 6, none⟩ = some (.slice (some ⟨gy, 0, none⟩) 1 1) := (LY.later (hl6.trans hl9)).cell 6
 have zl := (LY.later (hl6.trans hl9)).lt
 have m0 : W9.cell? ⟨gm, 0, none⟩ = some (.int .i64 60) := (MK.later (hl6.trans hl9)).cell 0
 have m1 : W9.cell? ⟨gm, 1, none⟩ = some (.int .i64 10) := (MK.later (hl6.trans hl9)).cell 1
 have m2 : W9.cell? ⟨gm, 2, none⟩ = some (.int .i64 0) := (MK.later (hl6.trans hl9)).cell 2
 have m3 : W9.cell? ⟨gm, 3, none⟩ = some (.int .i64 0) := (MK.later (hl6.trans hl9)).cell 3
 have m4 : W9.cell? ⟨gm, 4, none⟩ = some (.slice none 0 0) := (MK.later (hl6.trans hl9)).cell 4
 have m5 : W9.cell? ⟨gm, 5, none⟩ = some (.slice none 0 0) := (MK.later (hl6.trans hl9)).cell 5
 have zm := (MK.later (hl6.trans hl9)).lt
 go_upto_region 10 with (first | (go_at_call 37; (with_reducible refine (H4.out _ _ (hl9.trans (by repeat' (with_reducible first | exact .refl _ | assumption | refine .drew ?_ | refine .drewN ?_ _ | refine .alloc ?_ _ | refine .put ?_ (by omega) _ | refine .trans ?_ (by assumption)))) (by repeat' (with_reducible first | assumption | (refine Blk.newAt ?_; simp; done) | refine Blk.alloc ?_ _ | refine Blk.drew ?_ | refine Blk.drewN ?_ _ | refine Blk.later ?_ (by assumption)))).mono ?_); rintro e w10 ⟨gu, cu, rfl, u0, hb10⟩))
 have hl10 : Later W9 w10 := (by repeat' (with_reducible first | exact .refl _ | assumption | refine .drew ?_ | refine .drewN ?_ _ | refine .alloc ?_ _ | refine .put ?_ (by omega) _ | refine .trans ?_ (by assumption)))
 have B1b := B1.later (hl8'.trans (hl9'.trans hl10))
 have B2b := B2.later (hl9'.trans hl10)
 have B3b := B3.later hl10
 have zu := World.block_lt_of_cell? _ _ u0
 clear l0 l1 l2 l3 l4 l5 l6 zl m0 m1 m2 m3 m4 m5 zm hb10
 have x0 : w10.cell? ⟨g1, 0, none⟩ = some (.int .i64 1440) := B1b.cell 0
 have x1 : w10.cell? ⟨g1, 1, none⟩ = some (.int .i64 600) := B1b.cell 1
 have x2 : w10.cell? ⟨g1, 2, none⟩ = some (.int .i64 0) := B1b.cell 2
 have x3 : w10.cell? ⟨g1, 3, none⟩ = some (.int .i64 840) := B1b.cell 3
 have x4 : w10.cell? ⟨g1, 4, none⟩ = some (.int .i64 0) := B1b.cell 4
 have zx := B1b.lt
 have y0 : w10.cell? ⟨g2, 0, none⟩ = some (.int .i64 1440) := B2b.cell 0
 have y1 : w10.cell? ⟨g2, 1, none⟩ = some (.int .i64 200) := B2b.cell 1
 have y2 : w10.cell? ⟨g2, 2, none⟩ = some (.int .i64 400) := B2b.cell 2
 have y3 : w10.cell? ⟨g2, 3, none⟩ = some (.int .i64 840) := B2b.cell 3
 have y4 : w10.cell? ⟨g2, 4, none⟩ = some (.int .i64 0) := B2b.cell 4
 have zy := B2b.lt
 have z0 : w10.cell? ⟨g3, 0, none⟩ = some (.int .i64 0) := B3b.cell 0
 have z1 : w10.cell? ⟨g3, 1, none⟩ = some (.int .i64 0) := B3b.cell 1
 have z2 : w10.cell? ⟨g3, 2, none⟩ = some (.int .i64 0) := B3b.cell 2
 have z3 : w10.cell? ⟨g3, 3, none⟩ = some (.int .i64 0) := B3b.cell 3
 have z4 : w10.cell? ⟨g3, 4, none⟩ = some (.int .i64 0) := B3b.cell 4
 have zz := B3b.lt
 go_wp2
 go_ret
 exact ⟨rfl, hlw.trans (hl9.trans hl10)⟩
end Go.Proofs.YtdhakoecjmaebaaGreat
