/-
  SpreadOnce, walked.
-/
import Derived.Test.YtdhakoecjmaebaaLaidB
namespace Go.Proofs.Ytdhakoecjmaebaa
open Go.RowKit
set_option linter.unusedSimpArgs false
set_option linter.unusedVariables false

@[go_sem] theorem build_part012 (a b c : Int) (w : World) : (Instr.build 58 #[(0, .int .i64 a), (1, .int .i64 b), (2, .int .i64 c)]).run Try.prog w = .ok (.agg #[.int .i64 a, .int .i64 b, .int .i64 c, .int .i64 0]) w := run_build w 58 _ _ (by kernel_rfl)
theorem SrcAt.qds1 {w : World} {g : Nat} {a b c d : Int} {t : TypeId} (h : Blk w g t #[.int .i64 a, .int .i64 b, .int .i64 c, .int .i64 d]) : SrcAt w (some ⟨g, 0, none⟩) ([(⟨a, b, c, d⟩ : Qd)].flatMap qd4) := SrcAt.blk h
theorem layR_len {len : Int} {polys : List (List Pt)} : ∀ {l : List Qd} {at_ : Int} {x : List Qd × List Qd}, layR len polys l at_ = some x → x.1.length ≤ l.length ∧ x.2.length ≤ l.length := by
  intro l
  induction l with
  | nil => intro at_ x h; cases h
  | cons r l ih =>
    intro at_ x h
    rw [layR] at h
    split at h
    · cases h; simp
    · split at h
      · rw [Option.map_eq_some_iff] at h
        obtain ⟨y, hy, rfl⟩ := h
        have := ih hy
        simp only [List.length_cons]
        omega
      · have := ih h
        simp only [List.length_cons]
        omega
theorem pliesN_len {len : Int} {polys : List (List Pt)} {k : Int} : ∀ {n : Nat} {left : List Qd} {ys : List Pl}, pliesN len polys k n left = some ys → ∀ y ∈ ys, y.2.length ≤ left.length := by
  intro n
  induction n with
  | zero => intro left ys h y hy; cases h; cases hy
  | succ n ih =>
    intro left ys h y hy
    rw [pliesN, Option.bind_eq_some_iff] at h
    obtain ⟨x, hx, h⟩ := h
    rw [Option.map_eq_some_iff] at h
    obtain ⟨r, hr, rfl⟩ := h
    have h1 := layR_len hx
    rcases List.mem_cons.1 hy with rfl | hy
    · exact h1.1
    · have := ih hr y hy; omega
theorem remGo_len {lot wd : Int} : ∀ {rs : List Rl} {ts : List Int} {i : Nat}, (remGo lot wd rs ts i).length ≤ rs.length := by
  intro rs
  induction rs with
  | nil => intro ts i; simp [remGo]
  | cons r rs ih =>
    intro ts i
    cases ts with
    | nil => simp [remGo]
    | cons t ts =>
      have := ih (ts := ts) (i := i + 1)
      rw [remGo]
      split
      · simp only [List.length_cons]; omega
      · simp only [List.length_cons]; omega
theorem lotsGo_len {len wd : Int} {polys : List (List Pt)} {rs : List Rl} {lots : List Int} : ∀ {pl : List Int} {j : Nat} {ys : List Pl}, lotsGo len wd polys rs lots pl j = some ys → ∀ y ∈ ys, y.2.length ≤ rs.length := by
  intro pl
  induction pl with
  | nil => intro j ys h y hy; cases h; cases hy
  | cons n pl ih =>
    intro j ys h y hy
    rw [lotsGo, Option.bind_eq_some_iff] at h
    obtain ⟨x, hx, h⟩ := h
    rw [Option.map_eq_some_iff] at h
    obtain ⟨r, hr, rfl⟩ := h
    rcases List.mem_append.1 hy with hy | hy
    · exact Nat.le_trans (pliesN_len hx y hy) remGo_len
    · exact ih hr y hy
theorem restGo_len' {i lot ln : Int} : ∀ {zs : List Pt} {f : Int}, (restGo i lot ln f zs).length ≤ zs.length + 1 := by
  intro zs
  induction zs with
  | nil => intro f; rw [restGo]; split <;> simp
  | cons z zs ih =>
    intro f
    have := ih (f := z.y)
    rw [restGo, List.length_append, List.length_cons]
    split <;> simp <;> omega
theorem restsFrom_len' {parts : List Qd} : ∀ {rs : List Rl} {ts : List Int} {i : Nat}, (restsFrom parts rs ts i).length ≤ rs.length * (parts.length + 1) := by
  intro rs
  induction rs with
  | nil => intro ts i; cases ts <;> simp [restsFrom]
  | cons r rs ih =>
    intro ts i
    cases ts with
    | nil => simp [restsFrom]
    | cons t ts =>
      have h1 := ih (ts := ts) (i := i + 1)
      have h2 := restGo_len' (i := (i : Int)) (lot := t) (ln := r.ln) (zs := sortZ (zonesOf (i : Int) parts)) (f := 0)
      have h3 : (sortZ (zonesOf (i : Int) parts)).length ≤ parts.length := by rw [(sortZ_perm _).length_eq]; exact zones_len _ _
      rw [restsFrom, List.length_append, List.length_cons, Nat.succ_mul]
      omega
/-- What a lay says of its plies, its parts and what is left. -/
structure OnceOk (rs : List Rl) (lots plies : List Int) (ys : List Py) (xs : List Qd) : Prop where
  lot : ys.map (fun y => y.lot) = expandL plies 0
  ln : lots.length = rs.length
  r20 : rs.length ≤ 20
  rl : ∀ r ∈ rs, 1 ≤ r.ln ∧ r.ln ≤ 1048576
  part : ∀ y ∈ ys, ∀ q ∈ y.parts, 0 ≤ q.a ∧ q.a < (rs.length : Int) ∧ gL lots q.a.toNat = y.lot ∧ 0 ≤ q.b ∧ q.b < q.c ∧ q.c ≤ (grl rs q.a.toNat).ln ∧ q.c ≤ 1048576
  rest : ∀ q ∈ xs, 0 ≤ q.a ∧ q.a < (rs.length : Int) ∧ q.b = gL lots q.a.toNat ∧ 0 ≤ q.c ∧ q.c < q.d ∧ q.d ≤ (grl rs q.a.toNat).ln ∧ q.d ≤ 1048576
  few : ∀ y ∈ ys, y.parts.length ≤ 20
  all : (allP ys).length ≤ 800
  xsl : xs.length ≤ 17000
  two : NoTwice (allP ys ++ xs.map restPart)
  sum : lenQ (allP ys ++ xs.map restPart) = lnSum rs
theorem once_of {len wd : Int} {polys : List (List Pt)} {rs : List Rl} {lots plies : List Int} {ys : List Py} (h : LaidOk len wd polys rs lots plies (ys.map Py.pl)) (h2 : lotsGo len wd polys rs lots plies 0 = some (ys.map Py.pl)) : OnceOk rs lots plies ys (restsFrom (allQ (ys.map Py.pl)) rs lots 0) := by
  obtain ⟨r1, r2, r3⟩ := chkRolls_zero h.rolls
  have hrl : ∀ r ∈ rs, 1 ≤ r.ln ∧ r.ln ≤ 1048576 := fun r hr => (roll_ok (r2 r hr)).2.2.2.1
  have hcl : ∀ p ∈ allQ (ys.map Py.pl), clothB p rs = true := by
    intro p hp
    obtain ⟨y, hy, hp⟩ := List.mem_flatMap.1 hp
    exact ((h.good y hy).2 p hp).1
  obtain ⟨o1, o2, o3⟩ := once_all r3 hcl h.two (fun r hr => by have := hrl r hr; omega)
  have hg : ∀ a : Int, 0 ≤ a → a < (rs.length : Int) → (grl rs a.toNat).ln ≤ 1048576 := fun a h0 h1 => by
    have hlt : a.toNat < rs.length := by omega
    rw [grl_eq hlt]
    exact (hrl _ (List.getElem_mem hlt)).2
  rw [allP_pl] at o2 o3
  have hfew : ∀ y ∈ ys, y.parts.length ≤ 20 := fun y hy => by
    have := lotsGo_len h2 (Py.pl y) (List.mem_map_of_mem hy)
    exact Nat.le_trans this r1
  have hall : (allP ys).length ≤ 800 := by
    have h3 := allP_len hfew
    have h4 := h.num
    rw [List.length_map] at h4
    exact Nat.le_trans h3 (Nat.mul_le_mul_right 20 h4)
  refine ⟨?_, r3, r1, hrl, fun y hy q hq => ?_, fun q hq => ?_, hfew, hall, ?_, by rw [allP_pl]; exact o2, by rw [allP_pl]; exact o3⟩
  · have := lotsGo_lots h2
    rw [List.map_map] at this
    exact this
  · obtain ⟨g1, g2, _⟩ := (h.good (Py.pl y) (List.mem_map_of_mem hy)).2 q hq
    obtain ⟨c1, c2, c3, c4, c5⟩ := clothB_in g1
    have := hg q.a c1 c2
    exact ⟨c1, c2, g2, c3, c4, c5, by omega⟩
  · obtain ⟨c1, c2, c3, c4, c5, c6⟩ := o1 q hq
    have := hg q.a c1 c2
    exact ⟨c1, c2, c3, c4, c5, c6, by omega⟩
  · rw [allP_pl]
    exact Nat.le_trans restsFrom_len' (Nat.le_trans (Nat.mul_le_mul r1 (show (allP ys).length + 1 ≤ 801 by omega)) (by decide))
theorem expand_step {plies : List Int} {j : Nat} (h : j < plies.length) : expandL (plies.drop j) j = List.replicate (plies[j]).toNat (j : Int) ++ expandL (plies.drop (j + 1)) (j + 1) := by rw [drop_cons' plies j h]; rfl
theorem drop_head {l : List Int} {k : Nat} {x : Int} {r : List Int} (h : l.drop k = x :: r) : k < l.length ∧ l[k]? = some x ∧ l.drop (k + 1) = r := by
  have hk : k < l.length := by
    rcases Nat.lt_or_ge k l.length with h1 | h1
    · exact h1
    · rw [List.drop_eq_nil_of_le h1] at h; cases h
  rw [drop_cons' l k hk] at h
  injection h with h1 h2
  exact ⟨hk, by rw [List.getElem?_eq_getElem hk, h1], h2⟩
theorem lenQ_take {l : List Qd} {k : Nat} (h : k < l.length) : lenQ (l.take (k + 1)) = lenQ (l.take k) + (l[k].c - l[k].b) := by
  rw [List.take_succ_eq_append_getElem h, lenQ_append]
  simp [lenQ]
theorem lnSum_take {l : List Rl} {k : Nat} (h : k < l.length) : lnSum (l.take (k + 1)) = lnSum (l.take k) + l[k].ln := by
  unfold lnSum
  rw [List.take_succ_eq_append_getElem h, List.map_append, List.sum_append]
  simp
theorem lenQ_bd {l : List Qd} (h : ∀ q ∈ l, 0 ≤ q.c - q.b ∧ q.c - q.b ≤ 1048576) : 0 ≤ lenQ l ∧ lenQ l ≤ 1048576 * l.length := by
  induction l with
  | nil => simp [lenQ]
  | cons q l ih =>
    have h1 := h q (List.mem_cons_self ..)
    have h2 := ih (fun x hx => h x (List.mem_cons_of_mem _ hx))
    have e : lenQ (q :: l) = (q.c - q.b) + lenQ l := by simp [lenQ]
    rw [e, List.length_cons]
    omega
theorem lnSum_bd {l : List Rl} (h : ∀ r ∈ l, 1 ≤ r.ln ∧ r.ln ≤ 1048576) : 0 ≤ lnSum l ∧ lnSum l ≤ 1048576 * l.length := by
  induction l with
  | nil => simp [lnSum]
  | cons q l ih =>
    have h1 := h q (List.mem_cons_self ..)
    have h2 := ih (fun x hx => h x (List.mem_cons_of_mem _ hx))
    have e : lnSum (q :: l) = q.ln + lnSum l := by simp [lnSum]
    rw [e, List.length_cons]
    omega

end Go.Proofs.Ytdhakoecjmaebaa
