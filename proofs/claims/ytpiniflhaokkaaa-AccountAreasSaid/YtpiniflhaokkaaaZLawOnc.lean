/-
  garmentlaw38.laid.
-/
import Derived.Test.YtpiniflhaokkaaaZOpen38
import Derived.Test.YtpiniflhaokkaaaZSprR
namespace Go.Proofs.Ytpiniflhaokkaaa
open Go.RowKit
set_option linter.unusedSimpArgs false
set_option linter.unusedVariables false

def spR (c : C8) : List Pl × List Qd × Int := spreadR c.len c.wd c.ps c.rs c.lots c.plies
theorem few8_all {c : C8} (h : few8 c = true) : c.plies.length ≤ 6 ∧ c.ps.length ≤ 6 ∧ c.rs.length ≤ 6 ∧ c.lots.length ≤ 8 ∧ c.sz.length ≤ 7 ∧ c.pl.length ≤ 8 ∧ ∀ p ∈ c.ps, p.length ≤ 12 := by
  unfold few8 at h
  rw [Bool.and_eq_true, decide_eq_true_iff] at h
  obtain ⟨a, b, d, _, f, g, k⟩ := f38_all h.2
  exact ⟨by omega, a, b, d, f, g, k⟩
theorem law38_spread (c : C8) (w : World) (hc : C8Ok w c) (hf : few8 c = true) :
    Calls Try.prog 14 #[.agg #[.int .i64 c.len, .int .i64 c.wd, .int .i64 c.rx, .int .i64 c.ry, .slice c.s1 c.sz.length c.c1, .slice c.s2 c.pl.length c.c2], .slice c.qa c.ps.length c.qc, .slice c.ra c.rs.length c.rc, .slice c.la c.lots.length c.lc, .slice c.aa c.plies.length c.ac] w
      (SpreadPost c.len c.wd c.rx c.ry c.sz c.pl (spR c) w) := by
  obtain ⟨a1, a2, a3, a4, a5, a6, a7⟩ := few8_all hf
  refine spread_Spread c.qa c.ra c.la c.s1 c.s2 c.aa c.qc c.rc c.lc c.c1 c.c2 c.ac c.len c.wd c.rx c.ry c.sz c.pl c.ps c.rs c.lots c.plies w (fun h => ?_) hc.sz (by omega) (fun h => ?_) hc.pl (by omega) hc.ps (fun p hp => by have := a7 p hp; omega) hc.rs (by omega) hc.lots (by omega) hc.plies (by omega)
  · rcases hl : c.sz with _ | ⟨n, l⟩
    · rfl
    · obtain ⟨b, o, e, _⟩ := hc.sz (by rw [hl]; simp)
      rw [h] at e; cases e
  · rcases hl : c.pl with _ | ⟨n, l⟩
    · rfl
    · obtain ⟨b, o, e, _⟩ := hc.pl (by rw [hl]; simp)
      rw [h] at e; cases e

end Go.Proofs.Ytpiniflhaokkaaa
/-
  garmentref38.SameParts, SameRests; garmentlaw38.box, bolt.
-/
namespace Go.Proofs.Ytpiniflhaokkaaa
open Go.RowKit
set_option linter.unusedSimpArgs false
set_option linter.unusedVariables false

deriving instance DecidableEq for Qd
/-- The points, in a block of the call's own. -/
def RetBox (ps : List Pt) (w : World) (e : Ending) (w' : World) : Prop := ∃ g c, e = .returned (.slice (some ⟨g, 0, none⟩) ps.length c) ∧ ps.length ≤ c ∧ c ≤ maxLen ∧ w.heap.size ≤ g ∧ g < w'.heap.size ∧ PtsAt w' g 0 ps ∧ Later w w'
@[go_sem] theorem build_roll012 (s : ByteArray) (a b : Int) (w : World) : (Instr.build 36 #[(0, .string s), (1, .int .i64 a), (2, .int .i64 b)]).run Try.prog w = .ok (.agg #[.string s, .int .i64 a, .int .i64 b, .int .i64 0, .int .i64 0, .int .i64 0, .slice none 0 0]) w := run_build w 36 _ _ (by kernel_rfl)
/- The example. -/
@[go_sem] theorem build_marker01 (a b : Int) (w : World) : (Instr.build 27 #[(0, .int .i64 a), (1, .int .i64 b)]).run Try.prog w = .ok (.agg #[.int .i64 a, .int .i64 b, .int .i64 0, .int .i64 0, .slice none 0 0, .slice none 0 0]) w := run_build w 27 _ _ (by kernel_rfl)
@[go_sem] theorem build_case8 (a b c d : Int) (A1 A2 A3 A4 A5 A6 : Option Addr) (n1 n2 n3 n4 n5 n6 c1 c2 c3 c4 c5 c6 : Nat) (w : World) : (Instr.build 31 #[(0, .agg #[.int .i64 a, .int .i64 b, .int .i64 c, .int .i64 d, .slice A1 n1 c1, .slice A2 n2 c2]), (1, .slice A3 n3 c3), (2, .slice A4 n4 c4), (3, .slice A5 n5 c5), (4, .slice A6 n6 c6)]).run Try.prog w = .ok (.agg #[.int .i64 a, .int .i64 b, .int .i64 c, .int .i64 d, .slice A1 n1 c1, .slice A2 n2 c2, .slice A3 n3 c3, .slice A4 n4 c4, .slice A5 n5 c5, .slice A6 n6 c6]) w := run_build w 31 _ _ (by kernel_rfl)
end Go.Proofs.Ytpiniflhaokkaaa
/-
  garmentlaw38.awake: the chapter's examples hold.
-/
namespace Go.Proofs.Ytpiniflhaokkaaa
open Go.RowKit
set_option linter.unusedSimpArgs false
set_option linter.unusedVariables false

section
variable {W : World} {s1 s2 qa ra la aa : Option Addr} {d1 d2 qc rc lc ac : Nat}
end

@[go_sem] theorem b8_p2 (c : Int) (w : World) : (Instr.build 64 #[(2, .int .i64 c)]).run Try.prog w = .ok (.agg #[.int .i64 0, .int .i64 0, .int .i64 c, .int .i64 0]) w := run_build w 64 _ _ (by kernel_rfl)
@[go_sem] theorem b8_p023 (a c d : Int) (w : World) : (Instr.build 64 #[(0, .int .i64 a), (2, .int .i64 c), (3, .int .i64 d)]).run Try.prog w = .ok (.agg #[.int .i64 a, .int .i64 0, .int .i64 c, .int .i64 d]) w := run_build w 64 _ _ (by kernel_rfl)
@[go_sem] theorem b8_r23 (c d : Int) (w : World) : (Instr.build 68 #[(2, .int .i64 c), (3, .int .i64 d)]).run Try.prog w = .ok (.agg #[.int .i64 0, .int .i64 0, .int .i64 c, .int .i64 d]) w := run_build w 68 _ _ (by kernel_rfl)
@[go_sem] theorem b8_r023 (a c d : Int) (w : World) : (Instr.build 68 #[(0, .int .i64 a), (2, .int .i64 c), (3, .int .i64 d)]).run Try.prog w = .ok (.agg #[.int .i64 a, .int .i64 0, .int .i64 c, .int .i64 d]) w := run_build w 68 _ _ (by kernel_rfl)
end Go.Proofs.Ytpiniflhaokkaaa
/-
  garmentlaw38.laid in its two cases, and the bounds of the parts of a lay.
-/
namespace Go.Proofs.Ytpiniflhaokkaaa
open Go.RowKit
set_option linter.unusedSimpArgs false
set_option linter.unusedVariables false

/-- The lay of a case. -/
theorem laid_ok {c : C8} (h : (spR c).2.2 = 0) : LaidOk c.len c.wd c.ps c.rs c.lots c.plies (spR c).1 ∧ lotsGo c.len c.wd c.ps c.rs c.lots c.plies 0 = some (spR c).1 ∧ (spR c).2.1 = restsFrom (allQ (spR c).1) c.rs c.lots 0 := by
  obtain ⟨_, _, ys0, h0, hLk, hSp⟩ := spread_ok h
  have e : spR c = (ys0, restsFrom (allQ ys0) c.rs c.lots 0, 0) := hSp
  rw [e]
  exact ⟨hLk, h0, rfl⟩
end Go.Proofs.Ytpiniflhaokkaaa
/-
  SpreadOnce, walked.
-/
namespace Go.Proofs.Ytpiniflhaokkaaa
open Go.RowKit
set_option linter.unusedSimpArgs false
set_option linter.unusedVariables false

@[go_sem] theorem build_part012 (a b c : Int) (w : World) : (Instr.build 64 #[(0, .int .i64 a), (1, .int .i64 b), (2, .int .i64 c)]).run Try.prog w = .ok (.agg #[.int .i64 a, .int .i64 b, .int .i64 c, .int .i64 0]) w := run_build w 64 _ _ (by kernel_rfl)
theorem layR_len {len : Int} {polys : List (List Pt)} : ∀ {l : List Qd} {at_ : Int} {x : List Qd × List Qd}, layR len polys l at_ = some x → x.1.length ≤ l.length ∧ x.2.length ≤ l.length := by
  intro l
  induction l with
  | nil => intro at_ x h; cases h
  | cons r l ih =>
    intro at_ x h
    rw [layR] at h
    split at h
    · cases h; simp
    · split at h
      · rw [Option.map_eq_some_iff] at h
        obtain ⟨y, hy, rfl⟩ := h
        have := ih hy
        simp only [List.length_cons]
        omega
      · have := ih h
        simp only [List.length_cons]
        omega
theorem pliesN_len {len : Int} {polys : List (List Pt)} {k : Int} : ∀ {n : Nat} {left : List Qd} {ys : List Pl}, pliesN len polys k n left = some ys → ∀ y ∈ ys, y.2.length ≤ left.length := by
  intro n
  induction n with
  | zero => intro left ys h y hy; cases h; cases hy
  | succ n ih =>
    intro left ys h y hy
    rw [pliesN, Option.bind_eq_some_iff] at h
    obtain ⟨x, hx, h⟩ := h
    rw [Option.map_eq_some_iff] at h
    obtain ⟨r, hr, rfl⟩ := h
    have h1 := layR_len hx
    rcases List.mem_cons.1 hy with rfl | hy
    · exact h1.1
    · have := ih hr y hy; omega
theorem remGo_len {lot wd : Int} : ∀ {rs : List Rl} {ts : List Int} {i : Nat}, (remGo lot wd rs ts i).length ≤ rs.length := by
  intro rs
  induction rs with
  | nil => intro ts i; simp [remGo]
  | cons r rs ih =>
    intro ts i
    cases ts with
    | nil => simp [remGo]
    | cons t ts =>
      have := ih (ts := ts) (i := i + 1)
      rw [remGo]
      split
      · simp only [List.length_cons]; omega
      · simp only [List.length_cons]; omega
theorem lotsGo_len {len wd : Int} {polys : List (List Pt)} {rs : List Rl} {lots : List Int} : ∀ {pl : List Int} {j : Nat} {ys : List Pl}, lotsGo len wd polys rs lots pl j = some ys → ∀ y ∈ ys, y.2.length ≤ rs.length := by
  intro pl
  induction pl with
  | nil => intro j ys h y hy; cases h; cases hy
  | cons n pl ih =>
    intro j ys h y hy
    rw [lotsGo, Option.bind_eq_some_iff] at h
    obtain ⟨x, hx, h⟩ := h
    rw [Option.map_eq_some_iff] at h
    obtain ⟨r, hr, rfl⟩ := h
    rcases List.mem_append.1 hy with hy | hy
    · exact Nat.le_trans (pliesN_len hx y hy) remGo_len
    · exact ih hr y hy
theorem restGo_len' {i lot ln : Int} : ∀ {zs : List Pt} {f : Int}, (restGo i lot ln f zs).length ≤ zs.length + 1 := by
  intro zs
  induction zs with
  | nil => intro f; rw [restGo]; split <;> simp
  | cons z zs ih =>
    intro f
    have := ih (f := z.y)
    rw [restGo, List.length_append, List.length_cons]
    split <;> simp <;> omega
theorem restsFrom_len' {parts : List Qd} : ∀ {rs : List Rl} {ts : List Int} {i : Nat}, (restsFrom parts rs ts i).length ≤ rs.length * (parts.length + 1) := by
  intro rs
  induction rs with
  | nil => intro ts i; cases ts <;> simp [restsFrom]
  | cons r rs ih =>
    intro ts i
    cases ts with
    | nil => simp [restsFrom]
    | cons t ts =>
      have h1 := ih (ts := ts) (i := i + 1)
      have h2 := restGo_len' (i := (i : Int)) (lot := t) (ln := r.ln) (zs := sortZ (zonesOf (i : Int) parts)) (f := 0)
      have h3 : (sortZ (zonesOf (i : Int) parts)).length ≤ parts.length := by rw [(sortZ_perm _).length_eq]; exact zones_len _ _
      rw [restsFrom, List.length_append, List.length_cons, Nat.succ_mul]
      omega
/-- What a lay says of its plies, its parts and what is left. -/
structure OnceOk (rs : List Rl) (lots plies : List Int) (ys : List Py) (xs : List Qd) : Prop where
  lot : ys.map (fun y => y.lot) = expandL plies 0
  ln : lots.length = rs.length
  r20 : rs.length ≤ 20
  rl : ∀ r ∈ rs, 1 ≤ r.ln ∧ r.ln ≤ 1048576
  part : ∀ y ∈ ys, ∀ q ∈ y.parts, 0 ≤ q.a ∧ q.a < (rs.length : Int) ∧ gL lots q.a.toNat = y.lot ∧ 0 ≤ q.b ∧ q.b < q.c ∧ q.c ≤ (grl rs q.a.toNat).ln ∧ q.c ≤ 1048576
  rest : ∀ q ∈ xs, 0 ≤ q.a ∧ q.a < (rs.length : Int) ∧ q.b = gL lots q.a.toNat ∧ 0 ≤ q.c ∧ q.c < q.d ∧ q.d ≤ (grl rs q.a.toNat).ln ∧ q.d ≤ 1048576
  few : ∀ y ∈ ys, y.parts.length ≤ 20
  all : (allP ys).length ≤ 800
  xsl : xs.length ≤ 17000
  two : NoTwice (allP ys ++ xs.map restPart)
  sum : lenQ (allP ys ++ xs.map restPart) = lnSum rs
theorem once_of {len wd : Int} {polys : List (List Pt)} {rs : List Rl} {lots plies : List Int} {ys : List Py} (h : LaidOk len wd polys rs lots plies (ys.map Py.pl)) (h2 : lotsGo len wd polys rs lots plies 0 = some (ys.map Py.pl)) : OnceOk rs lots plies ys (restsFrom (allQ (ys.map Py.pl)) rs lots 0) := by
  obtain ⟨r1, r2, r3⟩ := chkRolls_zero h.rolls
  have hrl : ∀ r ∈ rs, 1 ≤ r.ln ∧ r.ln ≤ 1048576 := fun r hr => (roll_ok (r2 r hr)).2.2.2.1
  have hcl : ∀ p ∈ allQ (ys.map Py.pl), clothB p rs = true := by
    intro p hp
    obtain ⟨y, hy, hp⟩ := List.mem_flatMap.1 hp
    exact ((h.good y hy).2 p hp).1
  obtain ⟨o1, o2, o3⟩ := once_all r3 hcl h.two (fun r hr => by have := hrl r hr; omega)
  have hg : ∀ a : Int, 0 ≤ a → a < (rs.length : Int) → (grl rs a.toNat).ln ≤ 1048576 := fun a h0 h1 => by
    have hlt : a.toNat < rs.length := by omega
    rw [grl_eq hlt]
    exact (hrl _ (List.getElem_mem hlt)).2
  rw [allP_pl] at o2 o3
  have hfew : ∀ y ∈ ys, y.parts.length ≤ 20 := fun y hy => by
    have := lotsGo_len h2 (Py.pl y) (List.mem_map_of_mem hy)
    exact Nat.le_trans this r1
  have hall : (allP ys).length ≤ 800 := by
    have h3 := allP_len hfew
    have h4 := h.num
    rw [List.length_map] at h4
    exact Nat.le_trans h3 (Nat.mul_le_mul_right 20 h4)
  refine ⟨?_, r3, r1, hrl, fun y hy q hq => ?_, fun q hq => ?_, hfew, hall, ?_, by rw [allP_pl]; exact o2, by rw [allP_pl]; exact o3⟩
  · have := lotsGo_lots h2
    rw [List.map_map] at this
    exact this
  · obtain ⟨g1, g2, _⟩ := (h.good (Py.pl y) (List.mem_map_of_mem hy)).2 q hq
    obtain ⟨c1, c2, c3, c4, c5⟩ := clothB_in g1
    have := hg q.a c1 c2
    exact ⟨c1, c2, g2, c3, c4, c5, by omega⟩
  · obtain ⟨c1, c2, c3, c4, c5, c6⟩ := o1 q hq
    have := hg q.a c1 c2
    exact ⟨c1, c2, c3, c4, c5, c6, by omega⟩
  · rw [allP_pl]
    exact Nat.le_trans restsFrom_len' (Nat.le_trans (Nat.mul_le_mul r1 (show (allP ys).length + 1 ≤ 801 by omega)) (by decide))
end Go.Proofs.Ytpiniflhaokkaaa
