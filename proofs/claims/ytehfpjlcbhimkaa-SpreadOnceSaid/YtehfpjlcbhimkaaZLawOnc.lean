/-
  SpreadOnce, walked.
-/
import Derived.Test.YtehfpjlcbhimkaaZLaidB
namespace Go.Proofs.Ytehfpjlcbhimkaa
open Go.RowKit
set_option linter.unusedSimpArgs false
set_option linter.unusedVariables false

@[go_sem] theorem build_part012 (a b c : Int) (w : World) : (Instr.build 50 #[(0, .int .i64 a), (1, .int .i64 b), (2, .int .i64 c)]).run Try.prog w = .ok (.agg #[.int .i64 a, .int .i64 b, .int .i64 c, .int .i64 0]) w := run_build w 50 _ _ (by kernel_rfl)
theorem layR_len {len : Int} {polys : List (List Pt)} : ∀ {l : List Qd} {at_ : Int} {x : List Qd × List Qd}, layR len polys l at_ = some x → x.1.length ≤ l.length ∧ x.2.length ≤ l.length := by
  intro l
  induction l with
  | nil => intro at_ x h; cases h
  | cons r l ih =>
    intro at_ x h
    rw [layR] at h
    split at h
    · cases h; simp
    · split at h
      · rw [Option.map_eq_some_iff] at h
        obtain ⟨y, hy, rfl⟩ := h
        have := ih hy
        simp only [List.length_cons]
        omega
      · have := ih h
        simp only [List.length_cons]
        omega
theorem pliesN_len {len : Int} {polys : List (List Pt)} {k : Int} : ∀ {n : Nat} {left : List Qd} {ys : List Pl}, pliesN len polys k n left = some ys → ∀ y ∈ ys, y.2.length ≤ left.length := by
  intro n
  induction n with
  | zero => intro left ys h y hy; cases h; cases hy
  | succ n ih =>
    intro left ys h y hy
    rw [pliesN, Option.bind_eq_some_iff] at h
    obtain ⟨x, hx, h⟩ := h
    rw [Option.map_eq_some_iff] at h
    obtain ⟨r, hr, rfl⟩ := h
    have h1 := layR_len hx
    rcases List.mem_cons.1 hy with rfl | hy
    · exact h1.1
    · have := ih hr y hy; omega
theorem remGo_len {lot wd : Int} : ∀ {rs : List Rl} {ts : List Int} {i : Nat}, (remGo lot wd rs ts i).length ≤ rs.length := by
  intro rs
  induction rs with
  | nil => intro ts i; simp [remGo]
  | cons r rs ih =>
    intro ts i
    cases ts with
    | nil => simp [remGo]
    | cons t ts =>
      have := ih (ts := ts) (i := i + 1)
      rw [remGo]
      split
      · simp only [List.length_cons]; omega
      · simp only [List.length_cons]; omega
theorem lotsGo_len {len wd : Int} {polys : List (List Pt)} {rs : List Rl} {lots : List Int} : ∀ {pl : List Int} {j : Nat} {ys : List Pl}, lotsGo len wd polys rs lots pl j = some ys → ∀ y ∈ ys, y.2.length ≤ rs.length := by
  intro pl
  induction pl with
  | nil => intro j ys h y hy; cases h; cases hy
  | cons n pl ih =>
    intro j ys h y hy
    rw [lotsGo, Option.bind_eq_some_iff] at h
    obtain ⟨x, hx, h⟩ := h
    rw [Option.map_eq_some_iff] at h
    obtain ⟨r, hr, rfl⟩ := h
    rcases List.mem_append.1 hy with hy | hy
    · exact Nat.le_trans (pliesN_len hx y hy) remGo_len
    · exact ih hr y hy
theorem restGo_len' {i lot ln : Int} : ∀ {zs : List Pt} {f : Int}, (restGo i lot ln f zs).length ≤ zs.length + 1 := by
  intro zs
  induction zs with
  | nil => intro f; rw [restGo]; split <;> simp
  | cons z zs ih =>
    intro f
    have := ih (f := z.y)
    rw [restGo, List.length_append, List.length_cons]
    split <;> simp <;> omega
theorem restsFrom_len' {parts : List Qd} : ∀ {rs : List Rl} {ts : List Int} {i : Nat}, (restsFrom parts rs ts i).length ≤ rs.length * (parts.length + 1) := by
  intro rs
  induction rs with
  | nil => intro ts i; cases ts <;> simp [restsFrom]
  | cons r rs ih =>
    intro ts i
    cases ts with
    | nil => simp [restsFrom]
    | cons t ts =>
      have h1 := ih (ts := ts) (i := i + 1)
      have h2 := restGo_len' (i := (i : Int)) (lot := t) (ln := r.ln) (zs := sortZ (zonesOf (i : Int) parts)) (f := 0)
      have h3 : (sortZ (zonesOf (i : Int) parts)).length ≤ parts.length := by rw [(sortZ_perm _).length_eq]; exact zones_len _ _
      rw [restsFrom, List.length_append, List.length_cons, Nat.succ_mul]
      omega
/-- What a lay says of its plies, its parts and what is left. -/
structure OnceOk (rs : List Rl) (lots plies : List Int) (ys : List Py) (xs : List Qd) : Prop where
  lot : ys.map (fun y => y.lot) = expandL plies 0
  ln : lots.length = rs.length
  r20 : rs.length ≤ 20
  rl : ∀ r ∈ rs, 1 ≤ r.ln ∧ r.ln ≤ 1048576
  part : ∀ y ∈ ys, ∀ q ∈ y.parts, 0 ≤ q.a ∧ q.a < (rs.length : Int) ∧ gL lots q.a.toNat = y.lot ∧ 0 ≤ q.b ∧ q.b < q.c ∧ q.c ≤ (grl rs q.a.toNat).ln ∧ q.c ≤ 1048576
  rest : ∀ q ∈ xs, 0 ≤ q.a ∧ q.a < (rs.length : Int) ∧ q.b = gL lots q.a.toNat ∧ 0 ≤ q.c ∧ q.c < q.d ∧ q.d ≤ (grl rs q.a.toNat).ln ∧ q.d ≤ 1048576
  few : ∀ y ∈ ys, y.parts.length ≤ 20
  all : (allP ys).length ≤ 800
  xsl : xs.length ≤ 17000
  two : NoTwice (allP ys ++ xs.map restPart)
  sum : lenQ (allP ys ++ xs.map restPart) = lnSum rs
theorem once_of {len wd : Int} {polys : List (List Pt)} {rs : List Rl} {lots plies : List Int} {ys : List Py} (h : LaidOk len wd polys rs lots plies (ys.map Py.pl)) (h2 : lotsGo len wd polys rs lots plies 0 = some (ys.map Py.pl)) : OnceOk rs lots plies ys (restsFrom (allQ (ys.map Py.pl)) rs lots 0) := by
  obtain ⟨r1, r2, r3⟩ := chkRolls_zero h.rolls
  have hrl : ∀ r ∈ rs, 1 ≤ r.ln ∧ r.ln ≤ 1048576 := fun r hr => (roll_ok (r2 r hr)).2.2.2.1
  have hcl : ∀ p ∈ allQ (ys.map Py.pl), clothB p rs = true := by
    intro p hp
    obtain ⟨y, hy, hp⟩ := List.mem_flatMap.1 hp
    exact ((h.good y hy).2 p hp).1
  obtain ⟨o1, o2, o3⟩ := once_all r3 hcl h.two (fun r hr => by have := hrl r hr; omega)
  have hg : ∀ a : Int, 0 ≤ a → a < (rs.length : Int) → (grl rs a.toNat).ln ≤ 1048576 := fun a h0 h1 => by
    have hlt : a.toNat < rs.length := by omega
    rw [grl_eq hlt]
    exact (hrl _ (List.getElem_mem hlt)).2
  rw [allP_pl] at o2 o3
  have hfew : ∀ y ∈ ys, y.parts.length ≤ 20 := fun y hy => by
    have := lotsGo_len h2 (Py.pl y) (List.mem_map_of_mem hy)
    exact Nat.le_trans this r1
  have hall : (allP ys).length ≤ 800 := by
    have h3 := allP_len hfew
    have h4 := h.num
    rw [List.length_map] at h4
    exact Nat.le_trans h3 (Nat.mul_le_mul_right 20 h4)
  refine ⟨?_, r3, r1, hrl, fun y hy q hq => ?_, fun q hq => ?_, hfew, hall, ?_, by rw [allP_pl]; exact o2, by rw [allP_pl]; exact o3⟩
  · have := lotsGo_lots h2
    rw [List.map_map] at this
    exact this
  · obtain ⟨g1, g2, _⟩ := (h.good (Py.pl y) (List.mem_map_of_mem hy)).2 q hq
    obtain ⟨c1, c2, c3, c4, c5⟩ := clothB_in g1
    have := hg q.a c1 c2
    exact ⟨c1, c2, g2, c3, c4, c5, by omega⟩
  · obtain ⟨c1, c2, c3, c4, c5, c6⟩ := o1 q hq
    have := hg q.a c1 c2
    exact ⟨c1, c2, c3, c4, c5, c6, by omega⟩
  · rw [allP_pl]
    exact Nat.le_trans restsFrom_len' (Nat.le_trans (Nat.mul_le_mul r1 (show (allP ys).length + 1 ≤ 801 by omega)) (by decide))
theorem expand_step {plies : List Int} {j : Nat} (h : j < plies.length) : expandL (plies.drop j) j = List.replicate (plies[j]).toNat (j : Int) ++ expandL (plies.drop (j + 1)) (j + 1) := by rw [drop_cons' plies j h]; rfl
theorem drop_head {l : List Int} {k : Nat} {x : Int} {r : List Int} (h : l.drop k = x :: r) : k < l.length ∧ l[k]? = some x ∧ l.drop (k + 1) = r := by
  have hk : k < l.length := by
    rcases Nat.lt_or_ge k l.length with h1 | h1
    · exact h1
    · rw [List.drop_eq_nil_of_le h1] at h; cases h
  rw [drop_cons' l k hk] at h
  injection h with h1 h2
  exact ⟨hk, by rw [List.getElem?_eq_getElem hk, h1], h2⟩
theorem lenQ_take {l : List Qd} {k : Nat} (h : k < l.length) : lenQ (l.take (k + 1)) = lenQ (l.take k) + (l[k].c - l[k].b) := by
  rw [List.take_succ_eq_append_getElem h, lenQ_append]
  simp [lenQ]
theorem lnSum_take {l : List Rl} {k : Nat} (h : k < l.length) : lnSum (l.take (k + 1)) = lnSum (l.take k) + l[k].ln := by
  unfold lnSum
  rw [List.take_succ_eq_append_getElem h, List.map_append, List.sum_append]
  simp
theorem lenQ_bd {l : List Qd} (h : ∀ q ∈ l, 0 ≤ q.c - q.b ∧ q.c - q.b ≤ 1048576) : 0 ≤ lenQ l ∧ lenQ l ≤ 1048576 * l.length := by
  induction l with
  | nil => simp [lenQ]
  | cons q l ih =>
    have h1 := h q (List.mem_cons_self ..)
    have h2 := ih (fun x hx => h x (List.mem_cons_of_mem _ hx))
    have e : lenQ (q :: l) = (q.c - q.b) + lenQ l := by simp [lenQ]
    rw [e, List.length_cons]
    omega
theorem lnSum_bd {l : List Rl} (h : ∀ r ∈ l, 1 ≤ r.ln ∧ r.ln ≤ 1048576) : 0 ≤ lnSum l ∧ lnSum l ≤ 1048576 * l.length := by
  induction l with
  | nil => simp [lnSum]
  | cons q l ih =>
    have h1 := h q (List.mem_cons_self ..)
    have h2 := ih (fun x hx => h x (List.mem_cons_of_mem _ hx))
    have e : lnSum (q :: l) = q.ln + lnSum l := by simp [lnSum]
    rw [e, List.length_cons]
    omega

set_option maxHeartbeats 8000000 in
set_option maxRecDepth 100000 in
theorem law38_SpreadOnce (hex : ∀ W, Calls Try.prog 14 #[] W (Ret (.bool true) W)) (c : C8) (w : World) (hc : C8Ok w c) :
    Calls Try.prog 4 #[c.agg] w (Ret (.bool true) w) := by
  have HX := Lib.hid hex
  by_cases hok : few8 c = true ∧ (spR c).2.2 = 0
  · obtain ⟨hfew, hz⟩ := hok
    obtain ⟨a1, a2, a3, a4, a5, a6, a7⟩ := few8_all hfew
    have HL2 := Lib.hid (fun W (hW : Later w W) => law38_laid_yes c W (hc.later hW) hfew hz)
    obtain ⟨hLk, hLg, hrq⟩ := laid_ok hz
    have Hon := Lib.hid (show ∀ ys : List Py, ys.map Py.pl = (spR c).1 → OnceOk c.rs c.lots c.plies ys (spR c).2.1 from fun ys h => by
      have := once_of (ys := ys) (by rw [h]; exact hLk) (by rw [h]; exact hLg)
      rw [h, ← hrq] at this
      exact this)
    have HC := Lib.hid (show ∀ (ys : List Py) (S1 S2 P : Option Addr) (d1 d2 pc : Nat) (W : World), Later w W → ys.map Py.pl = (spR c).1 → Plys W P ys → ys.length ≤ 40 → (∀ y ∈ ys, y.parts.length ≤ 1000) →
        Calls Try.prog 21 #[.agg #[.int .i64 c.len, .int .i64 c.wd, .int .i64 c.rx, .int .i64 c.ry, .slice S1 c.sz.length d1, .slice S2 c.pl.length d2, .slice P ys.length pc], .slice c.qa c.ps.length c.qc, .slice c.ra c.rs.length c.rc, .slice c.la c.lots.length c.lc] W (Ret (.int .i64 0) W) from fun ys S1 S2 P d1 d2 pc W hW h hP h40 hp => by
      have := spread_Check c.qa c.ra c.la S1 S2 P c.qc c.rc c.lc c.sz.length d1 c.pl.length d2 pc c.len c.wd c.rx c.ry c.ps c.rs c.lots ys W (hc.ps.later hW) (fun p hp => by have := a7 p hp; omega) (hc.rs.later hW) (by omega) (hc.lots.later hW) (by omega) hP (by omega) hp
      rw [h, hLk.check] at this
      exact this)
    unfold C8.agg LaidYes at HL2
    unfold C8.agg
    have hrs := hc.rs
    have hlots := hc.lots
    have hplies := hc.plies
    clear hfew hz hLk hLg hrq a5 a6 a7
    obtain ⟨len, wd, rx, ry, s1, c1, sz, s2, c2, pl, qa, qc, ps, ra, rc, rs, la, lc, lots, aa, ac, plies⟩ := c
    simp only [] at HL2 Hon HC hrs hlots hplies a1 a2 a3 a4 ⊢
    go_enter Try.func4, Try.ntmps4
    go_upto_region 6 with (first | (go_at_call 20; (with_reducible refine (HL2.out _ (by repeat' (with_reducible first | exact Later.refl _ | assumption | refine Later.drew ?_ | refine Later.drewN ?_ _ | refine Later.alloc ?_ _ | refine Later.put ?_ (by omega) _ | refine Later.trans ?_ (by assumption)))).mono ?_); rintro e w2 ⟨S1, d1, S2, d2, P, pc, X, xc, ys, rfl, hys, h40, hpc, hpm, hxc, hxm, hP, hX, hb2⟩))
    have hOn := Hon.out ys hys
    have HC2 := Lib.hid (fun W (hW : Later w W) (hP : Plys W P ys) (hp : ∀ y ∈ ys, y.parts.length ≤ 1000) => HC.out ys S1 S2 P d1 d2 pc W hW hys hP h40 hp)
    clear hys HL2 Hon HC hc
    generalize (spR ⟨len, wd, rx, ry, s1, c1, sz, s2, c2, pl, qa, qc, ps, ra, rc, rs, la, lc, lots, aa, ac, plies⟩).2.1 = xs at *
    obtain ⟨olot, oln, or20, orl, opart, orest, ofew, oall, oxsl, otwo, osum⟩ := hOn
    refine name_world (fun W3 hW3 => ?_)
    have hl3 : Later w2 W3 := by rw [hW3]; exact (by repeat' (with_reducible first | exact Later.refl _ | assumption | refine Later.drew ?_ | refine Later.drewN ?_ _ | refine Later.alloc ?_ _ | refine Later.put ?_ (by omega) _ | refine Later.trans ?_ (by assumption)))
    have hlw : Later w W3 := by
      have : Later w w2 := (by repeat' (with_reducible first | exact Later.refl _ | assumption | refine Later.drew ?_ | refine Later.drewN ?_ _ | refine Later.alloc ?_ _ | refine Later.put ?_ (by omega) _ | refine Later.trans ?_ (by assumption)))
      exact this.trans hl3
    have D3 : Blk W3 w2.heap.size 36 #[.int .i64 len, .int .i64 wd, .int .i64 rx, .int .i64 ry, .slice S1 sz.length d1, .slice S2 pl.length d2, .slice P ys.length pc] := by rw [hW3]; exact (by repeat' (with_reducible first | assumption | (refine Blk.newAt ?_; simp; done) | refine Blk.alloc ?_ _ | refine Blk.drew ?_ | refine Blk.drewN ?_ _ | refine Blk.later ?_ (by assumption)))
    have D1 : Blk W3 w.heap.size 31 #[.int .i64 len, .int .i64 wd, .int .i64 rx, .int .i64 ry, .slice s1 sz.length c1, .slice s2 pl.length c2, .slice qa ps.length qc, .slice ra rs.length rc, .slice la lots.length lc, .slice aa plies.length ac] := Blk.later (Blk.later (by repeat' (with_reducible first | assumption | (refine Blk.newAt ?_; simp; done) | refine Blk.alloc ?_ _ | refine Blk.drew ?_ | refine Blk.drewN ?_ _ | refine Blk.later ?_ (by assumption))) hb2) hl3
    have hP3 := Plys.later hP hl3
    have hX3 := hX.later hl3
    clear hW3 hP hX hb2
    have Hal := Lib.hid (show (allP ys).length ≤ 50000 by omega)
    have Holot := Lib.hid olot
    have Holn := Lib.hid oln
    have Hotwo := Lib.hid otwo
    have Hosum := Lib.hid osum
    clear olot oln otwo osum
    go_loopw [6, 7] (fun kv jv wr => ∃ j k : Nat, j ≤ plies.length ∧ jv = .int .i64 j ∧ kv = .int .i64 k ∧ k ≤ ys.length ∧ (ys.map fun y => y.lot).drop k = expandL (plies.drop j) j ∧ Later W3 wr) (fun _ jv _ => plies.length - (intOf jv).toNat)
    case atStart => exact ⟨0, 0, by omega, rfl, rfl, by omega, by rw [List.drop_zero, List.drop_zero]; exact Holot.out, Later.refl _⟩
    case round =>
      obtain ⟨j, k, hj, rfl, rfl, hk, he, hb⟩ := hrel
      have He := Lib.hid he
      clear he
      have D1r := D1.later hb
      have D3r := D3.later hb
      have k0 : wr.cell? ⟨w.heap.size, 0, none⟩ = some (.int .i64 len) := D1r.cell 0
      have k6 : wr.cell? ⟨w.heap.size, 6, none⟩ = some (.slice _ ps.length qc) := D1r.cell 6
      have k7 : wr.cell? ⟨w.heap.size, 7, none⟩ = some (.slice _ rs.length rc) := D1r.cell 7
      have k8 : wr.cell? ⟨w.heap.size, 8, none⟩ = some (.slice _ lots.length lc) := D1r.cell 8
      have k9 : wr.cell? ⟨w.heap.size, 9, none⟩ = some (.slice _ plies.length ac) := D1r.cell 9
      have zk := D1r.lt
      have l6 : wr.cell? ⟨w2.heap.size, 6, none⟩ = some (.slice _ ys.length pc) := D3r.cell 6
      have zl := D3r.lt
      by_cases hlt : j < plies.length
      · obtain ⟨ba, oa, rfl, e1⟩ := (hplies.later (hlw.trans hb)).at_ hlt
        have za := World.block_lt_of_cell? _ _ e1
        have Hst := Lib.hid (He.out.trans (expand_step hlt))
        have hj0 : (0 : Int) ≤ (j : Int) := by omega
        have hj1 : (j : Int) < (plies.length : Int) := by omega
        have hn40 : plies[j] ≤ 40 := by
          have := congrArg List.length Hst.out
          rw [List.length_append, List.length_replicate, List.length_drop, List.length_map] at this
          omega
        generalize plies[j] = n at *
        go_upto_region 9 with fail
        have hbw := hb
        clear hb
        obtain ⟨wi, hwi⟩ : ∃ wi : World, wi = wr := ⟨_, rfl⟩
        rw [← hwi] at hbw D1r D3r k0 k6 k7 k8 k9 zk l6 zl e1 za ⊢
        clear hwi
        go_loopw [6, 8] (fun kv mv wr => ∃ m k : Nat, (m : Int) ≤ max n 0 ∧ mv = .int .i64 m ∧ kv = .int .i64 k ∧ k ≤ ys.length ∧ (ys.map fun y => y.lot).drop k = List.replicate (n.toNat - m) (j : Int) ++ expandL (plies.drop (j + 1)) (j + 1) ∧ Later wi wr) (fun _ mv _ => n.toNat - (intOf mv).toNat)
        case atStart => exact ⟨0, k, by omega, rfl, rfl, hk, by rw [Nat.sub_zero]; exact Hst.out, Later.refl _⟩
        case round =>
          obtain ⟨m, k, hm, rfl, rfl, hk, he, hbm⟩ := hrel
          have He2 := Lib.hid he
          clear he
          have e1' := hbm.cell e1
          have za' := World.block_lt_of_cell? _ _ e1'
          have D1m := D1r.later hbm
          have D3m := D3r.later hbm
          clear k0 k6 k7 k8 k9 zk l6 zl
          have k0 : wr.cell? ⟨w.heap.size, 0, none⟩ = some (.int .i64 len) := D1m.cell 0
          have k6 : wr.cell? ⟨w.heap.size, 6, none⟩ = some (.slice _ ps.length qc) := D1m.cell 6
          have k7 : wr.cell? ⟨w.heap.size, 7, none⟩ = some (.slice _ rs.length rc) := D1m.cell 7
          have k8 : wr.cell? ⟨w.heap.size, 8, none⟩ = some (.slice _ lots.length lc) := D1m.cell 8
          have k9 : wr.cell? ⟨w.heap.size, 9, none⟩ = some (.slice _ plies.length ac) := D1m.cell 9
          have zk := D1m.lt
          have l6 : wr.cell? ⟨w2.heap.size, 6, none⟩ = some (.slice _ ys.length pc) := D3m.cell 6
          have zl := D3m.lt
          by_cases hmn : (m : Int) < n
          · have hd := He2.out
            rw [show n.toNat - m = (n.toNat - (m + 1)) + 1 by omega, List.replicate_succ, List.cons_append] at hd
            obtain ⟨h1, h2, h3⟩ := drop_head hd
            rw [List.length_map] at h1
            rw [List.getElem?_map, List.getElem?_eq_getElem h1] at h2
            have hlot : (ys[k]).lot = (j : Int) := by simpa using h2
            have H3 := Lib.hid h3
            clear hd h2 h3
            obtain ⟨bp, op, rfl, p1, p2, _⟩ := (Plys.later hP3 (hbw.trans hbm)).at_ h1
            have zp := World.block_lt_of_cell? _ _ p1
            rw [hlot] at p1
            have dm : decide ((m : Int) < n) = true := by simpa using hmn
            have hk0 : (0 : Int) ≤ (k : Int) := by omega
            have hk1 : (k : Int) < (ys.length : Int) := by omega
            have dk : decide ((ys.length : Int) ≤ (k : Int)) = false := by simp; omega
            have dk' : decide ((k : Int) ≥ (ys.length : Int)) = false := by simp; omega
            clear hlot
            have Hm1 := Lib.hid (show ((m + 1 : Nat) : Int) ≤ max n 0 by omega)
            have Hme := Lib.hid (show n.toNat - (m + 1) < n.toNat - m by omega)
            go_wp2
            go_roundw
            case rel => exact ⟨m + 1, k + 1, Hm1.out, by go_num, by go_num, by omega, H3.out, hbm.trans (by repeat' (with_reducible first | exact Later.refl _ | assumption | refine Later.drew ?_ | refine Later.drewN ?_ _ | refine Later.alloc ?_ _ | refine Later.put ?_ (by omega) _ | refine Later.trans ?_ (by assumption)))⟩
            case measure => simp [intOf]; have := Hme.out; omega
          · have dm : decide ((m : Int) < n) = false := by simpa using hmn
            have HR := Lib.hid (show (ys.map fun y => y.lot).drop k = expandL (plies.drop (j + 1)) (j + 1) by rw [He2.out, show n.toNat - m = 0 by omega]; rfl)
            go_wp2
            go_roundw
            case rel => exact ⟨j + 1, k, by omega, by go_num, by rfl, hk, HR.out, hbw.trans (hbm.trans (by repeat' (with_reducible first | exact Later.refl _ | assumption | refine Later.drew ?_ | refine Later.drewN ?_ _ | refine Later.alloc ?_ _ | refine Later.put ?_ (by omega) _ | refine Later.trans ?_ (by assumption))))⟩
            case measure => simp [intOf]; omega
      · have hke : k = ys.length := by
          have := He.out
          rw [List.drop_eq_nil_of_le (show plies.length ≤ j by omega)] at this
          have := congrArg List.length this
          simp [expandL] at this
          omega
        have Hke := Lib.hid hke
        clear hke He
        have hlP := hlw.trans hb
        clear D1r D3r hk hplies
        have hb0 := hb
        clear hb
        go_upto_region 16 with fail
        clear hlt hj
        obtain ⟨W4, hW4⟩ : ∃ wi : World, wi = wr := ⟨_, rfl⟩
        rw [← hW4] at hb0 hlP k0 k6 k7 k8 k9 zk l6 zl ⊢
        clear hW4
        have D14 := D1.later hb0
        have D34 := D3.later hb0
        have hP4 := Plys.later hP3 hb0
        have hX4 := hX3.later hb0
        clear D1 D3 hP3 hX3 hb0 hlw hl3
        go_loopw [9, 10] (fun v iv wr => ∃ (i : Nat) (acc : List Qd), i ≤ ys.length ∧ iv = .int .i64 i ∧ acc = allP (ys.take i) ∧ OwnR wr W4.heap.size 50 4 qd4 v acc ∧ Later W4 wr) (fun _ iv _ => ys.length - (intOf iv).toNat)
        case atStart => exact ⟨0, [], by omega, rfl, rfl, World.ownsRow_nil _ _ _ _, Later.refl _⟩
        case round =>
          obtain ⟨i, acc, hi, rfl, he, ho, hb⟩ := hrel
          have He2 := Lib.hid he
          have Ho := Lib.hid ho
          clear he ho
          have D1r := D14.later hb
          have D3r := D34.later hb
          clear k0 k6 k7 k8 k9 zk l6 zl
          have k0 : wr.cell? ⟨w.heap.size, 0, none⟩ = some (.int .i64 len) := D1r.cell 0
          have k6 : wr.cell? ⟨w.heap.size, 6, none⟩ = some (.slice _ ps.length qc) := D1r.cell 6
          have k7 : wr.cell? ⟨w.heap.size, 7, none⟩ = some (.slice _ rs.length rc) := D1r.cell 7
          have k8 : wr.cell? ⟨w.heap.size, 8, none⟩ = some (.slice _ lots.length lc) := D1r.cell 8
          have k9 : wr.cell? ⟨w.heap.size, 9, none⟩ = some (.slice _ plies.length ac) := D1r.cell 9
          have zk := D1r.lt
          have l6 : wr.cell? ⟨w2.heap.size, 6, none⟩ = some (.slice _ ys.length pc) := D3r.cell 6
          have zl := D3r.lt
          by_cases hli : i < ys.length
          · obtain ⟨bp, op, rfl, p1w, p2w, hyk⟩ := hP4.at_ hli
            have p1 := hb.cell p1w
            have p2 := hb.cell p2w
            have zp := World.block_lt_of_cell? _ _ p1
            have Htk := Lib.hid (allP_take hli)
            have hpt := opart _ (List.getElem_mem hli)
            have Hlen := Lib.hid (show acc.length + ys[i].parts.length ≤ 50000 by
              have h1 := allP_take hli
              have h3 : allP ys = allP (ys.take (i + 1)) ++ allP (ys.drop (i + 1)) := by
                unfold allP
                rw [← List.flatMap_append, List.take_append_drop]
              have h4 : (allP ys).length ≤ 50000 := Hal.out
              rw [h3, List.length_append, h1, List.length_append] at h4
              rw [He2.out]
              omega)
            have hi0 : (0 : Int) ≤ (i : Int) := by omega
            have hi1 : (i : Int) < (ys.length : Int) := by omega
            generalize ys[i] = y at *
            obtain ⟨lot, pa, pc', parts⟩ := y
            simp only [] at p1w p2w p1 p2 hyk hpt Htk Hlen
            have hQ4 : Qds W4 pa parts := hyk.2.2.1
            have hpl1 := hyk.1
            have hpl2 : pc' ≤ 9223372036854775807 := by have := hyk.2.1; unfold maxLen at this; omega
            have Hpt := Lib.hid hpt
            clear hyk hpt
            go_upto_region 19 with fail
            obtain ⟨W5, hW5⟩ : ∃ wi : World, wi = wr := ⟨_, rfl⟩
            rw [← hW5] at Ho hb D1r D3r k0 k6 k7 k8 k9 zk l6 zl p1 p2 zp ⊢
            clear hW5
            have hlb := hb
            clear hb
            go_loopw [9, 11] (fun v jv wr => ∃ (j : Nat) (ac2 : List Qd), j ≤ parts.length ∧ jv = .int .i64 j ∧ ac2 = acc ++ parts.take j ∧ OwnR wr W4.heap.size 50 4 qd4 v ac2 ∧ Later W4 wr) (fun _ jv _ => parts.length - (intOf jv).toNat)
            case atStart => exact ⟨0, acc, by omega, rfl, by simp, Ho.out, hlb⟩
            case round =>
              obtain ⟨j, ac2, hj, rfl, he3, ho3, hb3⟩ := hrel
              have He3 := Lib.hid he3
              have Ho3 := Lib.hid ho3
              have Hl3 := Lib.hid (show ac2.length ≤ 50000 by rw [he3]; have := Hlen.out; simp; omega)
              clear he3 ho3
              have D1q := D14.later hb3
              have D3q := D34.later hb3
              clear k0 k6 k7 k8 k9 zk l6 zl p1 p2 zp
              have k0 : wr.cell? ⟨w.heap.size, 0, none⟩ = some (.int .i64 len) := D1q.cell 0
              have k6 : wr.cell? ⟨w.heap.size, 6, none⟩ = some (.slice _ ps.length qc) := D1q.cell 6
              have k7 : wr.cell? ⟨w.heap.size, 7, none⟩ = some (.slice _ rs.length rc) := D1q.cell 7
              have k8 : wr.cell? ⟨w.heap.size, 8, none⟩ = some (.slice _ lots.length lc) := D1q.cell 8
              have k9 : wr.cell? ⟨w.heap.size, 9, none⟩ = some (.slice _ plies.length ac) := D1q.cell 9
              have zk := D1q.lt
              have l6 : wr.cell? ⟨w2.heap.size, 6, none⟩ = some (.slice _ ys.length pc) := D3q.cell 6
              have zl := D3q.lt
              have p1 := hb3.cell p1w
              have p2 := hb3.cell p2w
              have zp := World.block_lt_of_cell? _ _ p1
              by_cases hjl : j < parts.length
              · as_aux_lemma =>
                obtain ⟨b, o, rfl, hx⟩ := (hQ4.later hb3) (by omega)
                obtain ⟨x0, x1, x2, x3⟩ := hx.get hjl
                have zb := World.block_lt_of_cell? _ _ x0
                have Htq := Lib.hid (show parts.take (j + 1) = parts.take j ++ [parts[j]] from List.take_succ_eq_append_getElem hjl)
                obtain ⟨c1_, c2_, c3_, c4_, c5_, c6_, c7_⟩ := Hpt.out _ (List.getElem_mem hjl)
                have hj0 : (0 : Int) ≤ (j : Int) := by omega
                have hj1 : (j : Int) < (parts.length : Int) := by omega
                generalize parts[j] = q at *
                obtain ⟨qa_, qb, qc_, qd⟩ := q
                simp only [] at x0 x1 x2 x3 c1_ c2_ c3_ c4_ c5_ c6_ c7_
                obtain ⟨n, rfl⟩ : ∃ n : Nat, qa_ = (n : Int) := ⟨qa_.toNat, by omega⟩
                have hn : n < rs.length := by omega
                have hn2 : n < lots.length := by rw [Holn.out]; exact hn
                rw [Int.toNat_natCast, gL_eq hn2] at c3_
                rw [Int.toNat_natCast, grl_eq hn] at c6_
                go_upto_region 22 with fail
                refine name_world (fun W6 hW6 => ?_)
                have hl6' : Later wr W6 := by rw [hW6]; exact (by repeat' (with_reducible first | exact Later.refl _ | assumption | refine Later.drew ?_ | refine Later.drewN ?_ _ | refine Later.alloc ?_ _ | refine Later.put ?_ (by omega) _ | refine Later.trans ?_ (by assumption)))
                have D12 : Blk W6 wr.heap.size 50 #[.int .i64 (n : Int), .int .i64 qb, .int .i64 qc_, .int .i64 qd] := by rw [hW6]; exact (by repeat' (with_reducible first | assumption | (refine Blk.newAt ?_; simp; done) | refine Blk.alloc ?_ _ | refine Blk.drew ?_ | refine Blk.drewN ?_ _ | refine Blk.later ?_ (by assumption)))
                clear hW6
                have hb6 := hb3.trans hl6'
                have D1s := D14.later hb6
                have D3s := D34.later hb6
                clear k0 k6 k7 k8 k9 zk l6 zl p1 p2 zp x0 x1 x2 x3 zb
                have k0 : W6.cell? ⟨w.heap.size, 0, none⟩ = some (.int .i64 len) := D1s.cell 0
                have k6 : W6.cell? ⟨w.heap.size, 6, none⟩ = some (.slice _ ps.length qc) := D1s.cell 6
                have k7 : W6.cell? ⟨w.heap.size, 7, none⟩ = some (.slice _ rs.length rc) := D1s.cell 7
                have k8 : W6.cell? ⟨w.heap.size, 8, none⟩ = some (.slice _ lots.length lc) := D1s.cell 8
                have k9 : W6.cell? ⟨w.heap.size, 9, none⟩ = some (.slice _ plies.length ac) := D1s.cell 9
                have zk := D1s.lt
                have l6 : W6.cell? ⟨w2.heap.size, 6, none⟩ = some (.slice _ ys.length pc) := D3s.cell 6
                have zl := D3s.lt
                have p1 := hb6.cell p1w
                have zp := World.block_lt_of_cell? _ _ p1
                obtain ⟨bl, ol, rfl, y0⟩ := (hlots.later (hlP.trans hb6)).at_ hn2
                obtain ⟨br, or_, rfl, _, _, z2, _⟩ := (hrs.later (hlP.trans hb6)).at_ hn
                have zl_ := World.block_lt_of_cell? _ _ y0
                have zr_ := World.block_lt_of_cell? _ _ z2
                rw [c3_] at y0
                generalize (rs[n]).ln = ln at *
                have s0 : W6.cell? ⟨wr.heap.size, 0, none⟩ = some (.int .i64 (n : Int)) := D12.cell 0
                have s1_ : W6.cell? ⟨wr.heap.size, 1, none⟩ = some (.int .i64 qb) := D12.cell 1
                have s2_ : W6.cell? ⟨wr.heap.size, 2, none⟩ = some (.int .i64 qc_) := D12.cell 2
                have s3_ : W6.cell? ⟨wr.heap.size, 3, none⟩ = some (.int .i64 qd) := D12.cell 3
                have zs := D12.lt
                have hn0 : (0 : Int) ≤ (n : Int) := by omega
                have hn1 : (n : Int) < (rs.length : Int) := by omega
                have hn3 : (n : Int) < (lots.length : Int) := by omega
                have f1 : decide ((n : Int) < 0) = false := by simp
                have f2 : decide ((rs.length : Int) ≤ (n : Int)) = false := by simp; omega
                have f3 : decide ((lots.length : Int) ≤ (n : Int)) = false := by simp; omega
                have f2' : decide (rs.length ≤ n) = false := by simp; omega
                have f3' : decide (lots.length ≤ n) = false := by simp; omega
                have f4 : decide (qb < 0) = false := by simp; omega
                have f5 : decide (qc_ ≤ qb) = false := by simp; omega
                have f6 : decide (ln < qc_) = false := by simp; omega
                clear c3_
                go_quiet (fail)
                go_upto_region 24 with fail
                refine name_world (fun W7 hW7 => ?_)
                have hl7 : Later W6 W7 := by rw [hW7]; exact (by repeat' (with_reducible first | exact Later.refl _ | assumption | refine Later.drew ?_ | refine Later.drewN ?_ _ | refine Later.alloc ?_ _ | refine Later.put ?_ (by omega) _ | refine Later.trans ?_ (by assumption)))
                clear hW7
                have D12' := D12.later hl7
                have hb7 := hb6.trans hl7
                have Ho7 := Lib.hid (Ho3.out.later (hl6'.trans hl7))
                clear k0 k6 k7 k8 k9 zk l6 zl p1 zp y0 z2 zl_ zr_ s0 s1_ s2_ s3_ zs f1 f2 f3 f2' f3' f4 f5 f6
                have s0 : W7.cell? ⟨wr.heap.size, 0, none⟩ = some (.int .i64 (n : Int)) := D12'.cell 0
                have s1_ : W7.cell? ⟨wr.heap.size, 1, none⟩ = some (.int .i64 qb) := D12'.cell 1
                have s2_ : W7.cell? ⟨wr.heap.size, 2, none⟩ = some (.int .i64 qc_) := D12'.cell 2
                have s3_ : W7.cell? ⟨wr.heap.size, 3, none⟩ = some (.int .i64 qd) := D12'.cell 3
                have zs := D12'.lt
                have HS := Lib.hid (SrcAt.blk (Blk.new W7 50 #[.int .i64 (n : Int), .int .i64 qb, .int .i64 qc_, .int .i64 qd]))
                go_wp2_with (at_builtin; refine wpList_append_rec slt_part qd4_len qd4_one rfl (.tmp 146) (.tmp 148) rfl (base := W4.heap.size) (l := ac2) rfl (OwnR.alloc Ho7.out _) (A := some ⟨W7.heap.size, 0, none⟩) (c := 1) [⟨(n : Int), qb, qc_, qd⟩] rfl (by intro h; cases h) HS.out (by have := Hl3.out; simp; omega) (by have := hb7.size; simp; omega) ?_; intro A3 c3' w3 ho4 hg3)
                have hl3 : Later W4 w3 := Later.grown (hb7.alloc _) hg3 (fun g hg => (World.ownsRow.lt Ho7.out g hg).1)
                have Ho4 := Lib.hid ho4
                clear hg3 ho4
                simp only [List.length_append, List.length_singleton] at Ho4
                go_roundw
                case rel => exact ⟨j + 1, ac2 ++ [⟨(n : Int), qb, qc_, qd⟩], by omega, by go_num, by rw [Htq.out, ← List.append_assoc, He3.out], Ho4.out, hl3⟩
                case measure => simp [intOf]; omega
              · have HR := Lib.hid (show ac2 = allP (ys.take (i + 1)) by rw [Htk.out, ← He2.out, He3.out, List.take_of_length_le (by omega)])
                go_wp2
                go_roundw
                case rel => exact ⟨i + 1, ac2, by omega, by go_num, HR.out, Ho3.out.later (by repeat' (with_reducible first | exact Later.refl _ | assumption | refine Later.drew ?_ | refine Later.drewN ?_ _ | refine Later.alloc ?_ _ | refine Later.put ?_ (by omega) _ | refine Later.trans ?_ (by assumption))), hb3.trans (by repeat' (with_reducible first | exact Later.refl _ | assumption | refine Later.drew ?_ | refine Later.drewN ?_ _ | refine Later.alloc ?_ _ | refine Later.put ?_ (by omega) _ | refine Later.trans ?_ (by assumption)))⟩
                case measure => simp [intOf]; omega
          · have H0 := Lib.hid (show acc = allP ys by rw [He2.out, List.take_of_length_le (by omega)])
            obtain ⟨A6, c6, e6, m1, m2, m3⟩ := Ho.out.qds
            subst e6
            go_upto_region 26 with fail
            obtain ⟨W5, hW5⟩ : ∃ wi : World, wi = wr := ⟨_, rfl⟩
            rw [← hW5] at Ho hb D1r D3r k0 k6 k7 k8 k9 zk l6 zl ⊢
            clear hW5 m1 m2 m3 hli
            have hlb := hb
            clear hb
            go_loopw [9, 13] (fun v jv wr => ∃ (m : Nat) (ac2 : List Qd), m ≤ xs.length ∧ jv = .int .i64 m ∧ ac2 = allP ys ++ (xs.take m).map restPart ∧ OwnR wr W4.heap.size 50 4 qd4 v ac2 ∧ Later W4 wr) (fun _ jv _ => xs.length - (intOf jv).toNat)
            case atStart => exact ⟨0, acc, by omega, rfl, by rw [H0.out]; simp, Ho.out, hlb⟩
            case round =>
              obtain ⟨m, ac2, hm, rfl, he3, ho3, hb3⟩ := hrel
              have He3 := Lib.hid he3
              have Ho3 := Lib.hid ho3
              have Hl3 := Lib.hid (show ac2.length ≤ 50000 by rw [he3]; simp; omega)
              clear he3 ho3
              have D1q := D14.later hb3
              have D3q := D34.later hb3
              clear k0 k6 k7 k8 k9 zk l6 zl
              have k0 : wr.cell? ⟨w.heap.size, 0, none⟩ = some (.int .i64 len) := D1q.cell 0
              have k6 : wr.cell? ⟨w.heap.size, 6, none⟩ = some (.slice _ ps.length qc) := D1q.cell 6
              have k7 : wr.cell? ⟨w.heap.size, 7, none⟩ = some (.slice _ rs.length rc) := D1q.cell 7
              have k8 : wr.cell? ⟨w.heap.size, 8, none⟩ = some (.slice _ lots.length lc) := D1q.cell 8
              have k9 : wr.cell? ⟨w.heap.size, 9, none⟩ = some (.slice _ plies.length ac) := D1q.cell 9
              have zk := D1q.lt
              have l6 : wr.cell? ⟨w2.heap.size, 6, none⟩ = some (.slice _ ys.length pc) := D3q.cell 6
              have zl := D3q.lt
              by_cases hml : m < xs.length
              · as_aux_lemma =>
                obtain ⟨b, o, rfl, hx⟩ := (hX4.later hb3) (by omega)
                obtain ⟨x0, x1, x2, x3⟩ := hx.get hml
                have zb := World.block_lt_of_cell? _ _ x0
                have Htq := Lib.hid (show xs.take (m + 1) = xs.take m ++ [xs[m]] from List.take_succ_eq_append_getElem hml)
                obtain ⟨c1_, c2_, c3_, c4_, c5_, c6_, c7_⟩ := orest _ (List.getElem_mem hml)
                have hm0 : (0 : Int) ≤ (m : Int) := by omega
                have hm1 : (m : Int) < (xs.length : Int) := by omega
                generalize xs[m] = q at *
                obtain ⟨qa_, qb, qc_, qd⟩ := q
                simp only [] at x0 x1 x2 x3 c1_ c2_ c3_ c4_ c5_ c6_ c7_
                obtain ⟨n, rfl⟩ : ∃ n : Nat, qa_ = (n : Int) := ⟨qa_.toNat, by omega⟩
                have hn : n < rs.length := by omega
                have hn2 : n < lots.length := by rw [Holn.out]; exact hn
                rw [Int.toNat_natCast, gL_eq hn2] at c3_
                rw [Int.toNat_natCast, grl_eq hn] at c6_
                have C3 := Lib.hid c3_
                clear c3_
                go_upto_region 29 with fail
                refine name_world (fun W6 hW6 => ?_)
                have hl6' : Later wr W6 := by rw [hW6]; exact (by repeat' (with_reducible first | exact Later.refl _ | assumption | refine Later.drew ?_ | refine Later.drewN ?_ _ | refine Later.alloc ?_ _ | refine Later.put ?_ (by omega) _ | refine Later.trans ?_ (by assumption)))
                have D12 : Blk W6 wr.heap.size 57 #[.int .i64 (n : Int), .int .i64 qb, .int .i64 qc_, .int .i64 qd] := by rw [hW6]; exact (by repeat' (with_reducible first | assumption | (refine Blk.newAt ?_; simp; done) | refine Blk.alloc ?_ _ | refine Blk.drew ?_ | refine Blk.drewN ?_ _ | refine Blk.later ?_ (by assumption)))
                clear hW6
                have hb6 := hb3.trans hl6'
                have D1s := D14.later hb6
                clear k0 k6 k7 k8 k9 zk l6 zl x0 x1 x2 x3 zb
                have k0 : W6.cell? ⟨w.heap.size, 0, none⟩ = some (.int .i64 len) := D1s.cell 0
                have k6 : W6.cell? ⟨w.heap.size, 6, none⟩ = some (.slice _ ps.length qc) := D1s.cell 6
                have k7 : W6.cell? ⟨w.heap.size, 7, none⟩ = some (.slice _ rs.length rc) := D1s.cell 7
                have k8 : W6.cell? ⟨w.heap.size, 8, none⟩ = some (.slice _ lots.length lc) := D1s.cell 8
                have k9 : W6.cell? ⟨w.heap.size, 9, none⟩ = some (.slice _ plies.length ac) := D1s.cell 9
                have zk := D1s.lt
                obtain ⟨bl, ol, rfl, y0⟩ := (hlots.later (hlP.trans hb6)).at_ hn2
                obtain ⟨br, or_, rfl, _, _, z2, _⟩ := (hrs.later (hlP.trans hb6)).at_ hn
                have zl_ := World.block_lt_of_cell? _ _ y0
                have zr_ := World.block_lt_of_cell? _ _ z2
                rw [← C3.out] at y0
                generalize (rs[n]).ln = ln at *
                have s0 : W6.cell? ⟨wr.heap.size, 0, none⟩ = some (.int .i64 (n : Int)) := D12.cell 0
                have s1_ : W6.cell? ⟨wr.heap.size, 1, none⟩ = some (.int .i64 qb) := D12.cell 1
                have s2_ : W6.cell? ⟨wr.heap.size, 2, none⟩ = some (.int .i64 qc_) := D12.cell 2
                have s3_ : W6.cell? ⟨wr.heap.size, 3, none⟩ = some (.int .i64 qd) := D12.cell 3
                have zs := D12.lt
                have hn0 : (0 : Int) ≤ (n : Int) := by omega
                have hn1 : (n : Int) < (rs.length : Int) := by omega
                have hn3 : (n : Int) < (lots.length : Int) := by omega
                have f1 : decide ((n : Int) < 0) = false := by simp
                have f2 : decide ((rs.length : Int) ≤ (n : Int)) = false := by simp; omega
                have f3 : decide ((lots.length : Int) ≤ (n : Int)) = false := by simp; omega
                have f2' : decide (rs.length ≤ n) = false := by simp; omega
                have f3' : decide (lots.length ≤ n) = false := by simp; omega
                have f4 : decide (qc_ < 0) = false := by simp; omega
                have f5 : decide (qd ≤ qc_) = false := by simp; omega
                have f6 : decide (ln < qd) = false := by simp; omega
                go_quiet (fail)
                go_upto_region 31 with fail
                refine name_world (fun W7 hW7 => ?_)
                have hl7 : Later W6 W7 := by rw [hW7]; exact (by repeat' (with_reducible first | exact Later.refl _ | assumption | refine Later.drew ?_ | refine Later.drewN ?_ _ | refine Later.alloc ?_ _ | refine Later.put ?_ (by omega) _ | refine Later.trans ?_ (by assumption)))
                clear hW7
                have D12' := D12.later hl7
                have hb7 := hb6.trans hl7
                have Ho7 := Lib.hid (Ho3.out.later (hl6'.trans hl7))
                clear k0 k6 k7 k8 k9 zk y0 z2 zl_ zr_ s0 s1_ s2_ s3_ zs f1 f2 f3 f2' f3' f4 f5 f6
                have s0 : W7.cell? ⟨wr.heap.size, 0, none⟩ = some (.int .i64 (n : Int)) := D12'.cell 0
                have s2_ : W7.cell? ⟨wr.heap.size, 2, none⟩ = some (.int .i64 qc_) := D12'.cell 2
                have s3_ : W7.cell? ⟨wr.heap.size, 3, none⟩ = some (.int .i64 qd) := D12'.cell 3
                have zs := D12'.lt
                have HS := Lib.hid (SrcAt.blk (Blk.new W7 50 #[.int .i64 (n : Int), .int .i64 qc_, .int .i64 qd, .int .i64 0]))
                go_wp2_with (at_builtin; refine wpList_append_rec slt_part qd4_len qd4_one rfl (.tmp 214) (.tmp 222) rfl (base := W4.heap.size) (l := ac2) rfl (OwnR.alloc Ho7.out _) (A := some ⟨W7.heap.size, 0, none⟩) (c := 1) [⟨(n : Int), qc_, qd, 0⟩] rfl (by intro h; cases h) HS.out (by have := Hl3.out; simp; omega) (by have := hb7.size; simp; omega) ?_; intro A3 c3' w3 ho4 hg3)
                have hl3 : Later W4 w3 := Later.grown (hb7.alloc _) hg3 (fun g hg => (World.ownsRow.lt Ho7.out g hg).1)
                have Ho4 := Lib.hid ho4
                clear hg3 ho4
                simp only [List.length_append, List.length_singleton] at Ho4
                go_roundw
                case rel => exact ⟨m + 1, ac2 ++ [⟨(n : Int), qc_, qd, 0⟩], by omega, by go_num, by rw [Htq.out, List.map_append, ← List.append_assoc, He3.out]; rfl, Ho4.out, hl3⟩
                case measure => simp [intOf]; omega
              · as_aux_lemma =>
                have hL : ac2 = allP ys ++ xs.map restPart := by rw [He3.out, List.take_of_length_le (by omega)]
                obtain ⟨A7, c7, e7, n1, n2, n3⟩ := Ho3.out.qds
                subst e7
                have hc7 : c7 ≤ 9223372036854775807 := by unfold maxLen at n2; omega
                rw [← hL] at Hotwo Hosum
                have hQb : ∀ q ∈ ac2, 0 ≤ q.b ∧ q.b < q.c ∧ q.c ≤ 1048576 := by
                  intro q hq
                  rw [hL] at hq
                  rcases List.mem_append.1 hq with hq | hq
                  · obtain ⟨y, hy, hq⟩ := List.mem_flatMap.1 hq
                    have := opart y hy q hq
                    omega
                  · obtain ⟨r, hr, rfl⟩ := List.mem_map.1 hq
                    have := orest r hr
                    show 0 ≤ r.c ∧ r.c < r.d ∧ r.d ≤ 1048576
                    omega
                have hl5 := Hl3.out
                have HQb := Lib.hid hQb
                clear hQb hL He3 Hl3 H0 He2
                go_upto_region 34 with fail
                obtain ⟨W8, hW8⟩ : ∃ wi : World, wi = wr := ⟨_, rfl⟩
                rw [← hW8] at hb3 D1q D3q k0 k6 k7 k8 k9 zk l6 zl n3 ⊢
                clear hW8 Ho3 hml hm
                have hlP8 := hlP.trans hb3
                go_loopw [15, 16] (fun sv iv wr => ∃ (i : Nat) (s : Int), i ≤ ac2.length ∧ iv = .int .i64 i ∧ sv = .int .i64 s ∧ s = lenQ (ac2.take i) ∧ Later W8 wr) (fun _ iv _ => ac2.length - (intOf iv).toNat)
                case atStart => exact ⟨0, 0, by omega, rfl, rfl, by simp [lenQ], Later.refl _⟩
                case round =>
                  obtain ⟨i, s, hi, rfl, rfl, hs, hb⟩ := hrel
                  have hsb := lenQ_bd (l := ac2.take i) (fun q hq => by have := HQb.out q (List.mem_of_mem_take hq); omega)
                  rw [← hs, List.length_take] at hsb
                  have hsb' : 0 ≤ s ∧ s ≤ 52428800000 := by omega
                  have Hs := Lib.hid hs
                  clear hs hsb
                  by_cases hli : i < ac2.length
                  · obtain ⟨b, o, rfl, hx⟩ := (n3.later hb) (by omega)
                    obtain ⟨x0, x1, x2, x3⟩ := hx.get hli
                    have zb := World.block_lt_of_cell? _ _ x0
                    have Hst := Lib.hid (lenQ_take hli)
                    have Hnc := Lib.hid (show ∀ j (hj : j < i), ¬ (ac2[i].a = (ac2[j]'(by omega)).a ∧ ac2[i].b < (ac2[j]'(by omega)).c ∧ (ac2[j]'(by omega)).b < ac2[i].c) from fun j hj h => (List.pairwise_iff_getElem.1 Hotwo.out) j i (by omega) hli hj ⟨h.1.symm, h.2.2, h.2.1⟩)
                    obtain ⟨b1, b2, b3⟩ := HQb.out _ (List.getElem_mem hli)
                    have hi0 : (0 : Int) ≤ (i : Int) := by omega
                    have hi1 : (i : Int) < (ac2.length : Int) := by omega
                    have Hgi := Lib.hid (rfl : ac2[i] = ac2[i])
                    generalize ac2[i] = q at *
                    obtain ⟨ia, ib, ic, id_⟩ := q
                    simp only [] at x0 x1 x2 x3 b1 b2 b3 Hst Hnc
                    have v1 : IntKind.i64.wrap (s + ic) = s + ic := IntWalk.i64_in _ (by omega)
                    have v2 : IntKind.i64.wrap (s + ic - ib) = s + ic - ib := IntWalk.i64_in _ (by omega)
                    have Hs2 := Lib.hid (show s + ic - ib = lenQ (ac2.take (i + 1)) by rw [Hst.out, ← Hs.out]; omega)
                    go_upto_region 36 with fail
                    go_quiet (fail)
                    go_upto_region 38 with fail
                    refine name_world (fun W9 hW9 => ?_)
                    have hl9 : Later wr W9 := by rw [hW9]; exact (by repeat' (with_reducible first | exact Later.refl _ | assumption | refine Later.drew ?_ | refine Later.drewN ?_ _ | refine Later.alloc ?_ _ | refine Later.put ?_ (by omega) _ | refine Later.trans ?_ (by assumption)))
                    have hb9 := hb.trans hl9
                    have x0 := hl9.cell x0
                    have x1 := hl9.cell x1
                    have x2 := hl9.cell x2
                    have zb := World.block_lt_of_cell? _ _ x0
                    clear hW9 x3 v1 v2
                    go_loopw [17] (fun jv wr => ∃ j : Nat, j ≤ i ∧ jv = .int .i64 j ∧ Later W9 wr) (fun jv _ => i - (intOf jv).toNat)
                    case atStart => exact ⟨0, by omega, rfl, Later.refl _⟩
                    case round =>
                      obtain ⟨j, hj, rfl, hbj⟩ := hrel
                      by_cases hji : j < i
                      · have hjl : j < ac2.length := by omega
                        obtain ⟨b', o', e', hx'⟩ := (n3.later (hb9.trans hbj)) (by omega)
                        cases e'
                        obtain ⟨y0, y1, y2, y3⟩ := hx'.get hjl
                        have hnc := Hnc.out j hji
                        have hj0 : (0 : Int) ≤ (j : Int) := by omega
                        have hj1 : (j : Int) < (ac2.length : Int) := by omega
                        have x0 := hbj.cell x0
                        have x1 := hbj.cell x1
                        have x2 := hbj.cell x2
                        have zb := World.block_lt_of_cell? _ _ x0
                        generalize ac2[j] = r at *
                        obtain ⟨ja, jb, jc, jd⟩ := r
                        simp only [] at y0 y1 y2 y3 hnc
                        by_cases h1 : ia = ja
                        · have e1 : (ia == ja) = true := by simpa using h1
                          by_cases h2 : ib < jc
                          · have e2 : decide (ib < jc) = true := by simpa using h2
                            have e3 : decide (jb < ic) = false := by simp; omega
                            clear h1 hnc
                            go_wp2
                            go_quiet (fail)
                            go_wp2
                            go_roundw
                            case rel => exact ⟨j + 1, by omega, by go_num, hbj.trans (by repeat' (with_reducible first | exact Later.refl _ | assumption | refine Later.drew ?_ | refine Later.drewN ?_ _ | refine Later.alloc ?_ _ | refine Later.put ?_ (by omega) _ | refine Later.trans ?_ (by assumption)))⟩
                            case measure => simp [intOf]; omega
                          · have e2 : decide (ib < jc) = false := by simpa using h2
                            clear h1 hnc
                            go_wp2
                            go_quiet (fail)
                            go_wp2
                            go_roundw
                            case rel => exact ⟨j + 1, by omega, by go_num, hbj.trans (by repeat' (with_reducible first | exact Later.refl _ | assumption | refine Later.drew ?_ | refine Later.drewN ?_ _ | refine Later.alloc ?_ _ | refine Later.put ?_ (by omega) _ | refine Later.trans ?_ (by assumption)))⟩
                            case measure => simp [intOf]; omega
                        · have e1 : (ia == ja) = false := by simpa using h1
                          clear h1 hnc
                          go_wp2
                          go_quiet (fail)
                          go_wp2
                          go_roundw
                          case rel => exact ⟨j + 1, by omega, by go_num, hbj.trans (by repeat' (with_reducible first | exact Later.refl _ | assumption | refine Later.drew ?_ | refine Later.drewN ?_ _ | refine Later.alloc ?_ _ | refine Later.put ?_ (by omega) _ | refine Later.trans ?_ (by assumption)))⟩
                          case measure => simp [intOf]; omega
                      · go_wp2
                        go_roundw
                        case rel => exact ⟨i + 1, s + ic - ib, by omega, by go_num, by rfl, Hs2.out, hb9.trans hbj⟩
                        case measure => simp [intOf]; omega
                  · have hsl : s = lnSum rs := by rw [Hs.out, List.take_of_length_le (by omega)]; exact Hosum.out
                    have Hsl := Lib.hid hsl
                    have D1t := D1q.later hb
                    have D3t := D3q.later hb
                    clear k0 k6 k7 k8 k9 zk l6 zl hsl
                    have k0 : wr.cell? ⟨w.heap.size, 0, none⟩ = some (.int .i64 len) := D1t.cell 0
                    have k6 : wr.cell? ⟨w.heap.size, 6, none⟩ = some (.slice _ ps.length qc) := D1t.cell 6
                    have k7 : wr.cell? ⟨w.heap.size, 7, none⟩ = some (.slice _ rs.length rc) := D1t.cell 7
                    have k8 : wr.cell? ⟨w.heap.size, 8, none⟩ = some (.slice _ lots.length lc) := D1t.cell 8
                    have k9 : wr.cell? ⟨w.heap.size, 9, none⟩ = some (.slice _ plies.length ac) := D1t.cell 9
                    have zk := D1t.lt
                    have l6 : wr.cell? ⟨w2.heap.size, 6, none⟩ = some (.slice _ ys.length pc) := D3t.cell 6
                    have zl := D3t.lt
                    go_upto_region 43 with fail
                    obtain ⟨W10, hW10⟩ : ∃ wi : World, wi = wr := ⟨_, rfl⟩
                    rw [← hW10] at hb D1t D3t k0 k6 k7 k8 k9 zk l6 zl ⊢
                    clear hW10 hli hi
                    have hb10 := hb
                    clear hb
                    go_loopw [15, 18] (fun sv iv wr => ∃ (m : Nat) (s : Int), m ≤ rs.length ∧ iv = .int .i64 m ∧ sv = .int .i64 s ∧ s = lnSum rs - lnSum (rs.take m) ∧ Later W10 wr) (fun _ iv _ => rs.length - (intOf iv).toNat)
                    case atStart => exact ⟨0, s, by omega, rfl, rfl, by rw [Hsl.out]; simp [lnSum], Later.refl _⟩
                    case round =>
                      obtain ⟨m, s', hm, rfl, rfl, hs', hbm⟩ := hrel
                      have Hs' := Lib.hid hs'
                      have hb1 := lnSum_bd (l := rs) orl
                      have hb2' := lnSum_bd (l := rs.take m) (fun r hr => orl r (List.mem_of_mem_take hr))
                      rw [List.length_take] at hb2'
                      have hsb2 : -20971520 ≤ s' ∧ s' ≤ 20971520 := by omega
                      clear hs' hb1 hb2'
                      have D1v := D1t.later hbm
                      have D3v := D3t.later hbm
                      clear k0 k6 k7 k8 k9 zk l6 zl
                      have k0 : wr.cell? ⟨w.heap.size, 0, none⟩ = some (.int .i64 len) := D1v.cell 0
                      have k6 : wr.cell? ⟨w.heap.size, 6, none⟩ = some (.slice _ ps.length qc) := D1v.cell 6
                      have k7 : wr.cell? ⟨w.heap.size, 7, none⟩ = some (.slice _ rs.length rc) := D1v.cell 7
                      have k8 : wr.cell? ⟨w.heap.size, 8, none⟩ = some (.slice _ lots.length lc) := D1v.cell 8
                      have k9 : wr.cell? ⟨w.heap.size, 9, none⟩ = some (.slice _ plies.length ac) := D1v.cell 9
                      have zk := D1v.lt
                      have l6 : wr.cell? ⟨w2.heap.size, 6, none⟩ = some (.slice _ ys.length pc) := D3v.cell 6
                      have zl := D3v.lt
                      by_cases hml : m < rs.length
                      · obtain ⟨br, or_, rfl, _, _, z2, _⟩ := (hrs.later (hlP8.trans (hb10.trans hbm))).at_ hml
                        have zr_ := World.block_lt_of_cell? _ _ z2
                        have Hst := Lib.hid (lnSum_take hml)
                        have hr1 := orl _ (List.getElem_mem hml)
                        have hm0 : (0 : Int) ≤ (m : Int) := by omega
                        have hm1 : (m : Int) < (rs.length : Int) := by omega
                        generalize (rs[m]).ln = ln at *
                        have HR := Lib.hid (show s' - ln = lnSum rs - lnSum (rs.take (m + 1)) by rw [Hst.out, Hs'.out]; omega)
                        go_wp2
                        go_roundw
                        case rel => exact ⟨m + 1, s' - ln, by omega, by go_num, by rfl, HR.out, hbm.trans (by repeat' (with_reducible first | exact Later.refl _ | assumption | refine Later.drew ?_ | refine Later.drewN ?_ _ | refine Later.alloc ?_ _ | refine Later.put ?_ (by omega) _ | refine Later.trans ?_ (by assumption)))⟩
                        case measure => simp [intOf]; omega
                      · have h0 : s' = 0 := by rw [Hs'.out, List.take_of_length_le (by omega)]; omega
                        subst h0
                        have hkd : ((k : Int) == (ys.length : Int)) = true := by rw [Hke.out]; simp
                        have hlx := hlP8.trans (hb10.trans hbm)
                        have HC3 := Lib.hid (fun W (hW : Later wr W) => HC2.out W (hlx.trans hW) (Plys.later hP4 (hb3.trans (hb10.trans (hbm.trans hW)))) (fun y hy => by have := ofew y hy; omega))
                        have l0 : wr.cell? ⟨w2.heap.size, 0, none⟩ = some (.int .i64 len) := D3v.cell 0
                        have l1 : wr.cell? ⟨w2.heap.size, 1, none⟩ = some (.int .i64 wd) := D3v.cell 1
                        have l2 : wr.cell? ⟨w2.heap.size, 2, none⟩ = some (.int .i64 rx) := D3v.cell 2
                        have l3 : wr.cell? ⟨w2.heap.size, 3, none⟩ = some (.int .i64 ry) := D3v.cell 3
                        have l4 : wr.cell? ⟨w2.heap.size, 4, none⟩ = some (.slice S1 sz.length d1) := D3v.cell 4
                        have l5 : wr.cell? ⟨w2.heap.size, 5, none⟩ = some (.slice S2 pl.length d2) := D3v.cell 5
                        go_wp2_with (first | (go_at_call 21; (with_reducible refine (HC3.out _ (by repeat' (with_reducible first | exact Later.refl _ | assumption | refine Later.drew ?_ | refine Later.drewN ?_ _ | refine Later.alloc ?_ _ | refine Later.put ?_ (by omega) _ | refine Later.trans ?_ (by assumption)))).mono ?_); rintro e w20 ⟨rfl, hb20⟩) | (go_at_call 14; (with_reducible refine (HX.out _).mono ?_); rintro e w21 ⟨rfl, hb21⟩))
                        go_ret
                        exact ⟨rfl, hlx.trans (by repeat' (with_reducible first | exact Later.refl _ | assumption | refine Later.drew ?_ | refine Later.drewN ?_ _ | refine Later.alloc ?_ _ | refine Later.put ?_ (by omega) _ | refine Later.trans ?_ (by assumption)))⟩
  · have HL2 := Lib.hid (fun W (hW : Later w W) => law38_laid_no c W (hc.later hW) hok)
    unfold C8.agg at HL2 ⊢
    clear hok
    obtain ⟨len, wd, rx, ry, s1, c1, sz, s2, c2, pl, qa, qc, ps, ra, rc, rs, la, lc, lots, aa, ac, plies⟩ := c
    simp only [] at HL2 ⊢
    go_enter Try.func4, Try.ntmps4
    go_wp2_with (first | (go_at_call 20; (with_reducible refine (HL2.out _ (by repeat' (with_reducible first | exact Later.refl _ | assumption | refine Later.drew ?_ | refine Later.drewN ?_ _ | refine Later.alloc ?_ _ | refine Later.put ?_ (by omega) _ | refine Later.trans ?_ (by assumption)))).mono ?_); rintro e w2 ⟨rfl, hb2⟩) | (go_at_call 14; (with_reducible refine (HX.out _).mono ?_); rintro e w10 ⟨rfl, hb10⟩))
    go_ret
    exact ⟨rfl, (by repeat' (with_reducible first | exact Later.refl _ | assumption | refine Later.drew ?_ | refine Later.drewN ?_ _ | refine Later.alloc ?_ _ | refine Later.put ?_ (by omega) _ | refine Later.trans ?_ (by assumption)))⟩

end Go.Proofs.Ytehfpjlcbhimkaa
