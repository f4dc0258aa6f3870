/-
  Plain facts for the laws of spreading that need no reference: the lots of the plies, what is left of the rolls, joints, changed lays, less plies, more rolls, enough rolls.
-/
import Derived.Test.YtdhakoecjmaebaaSprQ
namespace Go.Proofs.Ytdhakoecjmaebaa
open Go.RowKit
set_option linter.unusedSimpArgs false
set_option linter.unusedVariables false

/- The lots of the plies. -/
def expandL : List Int → Nat → List Int
  | [], _ => []
  | n :: l, j => List.replicate n.toNat (j : Int) ++ expandL l (j + 1)
theorem pliesN_lots {len : Int} {polys : List (List Pt)} {k : Int} : ∀ {n : Nat} {left : List Qd} {ys : List Pl}, pliesN len polys k n left = some ys → ys.map (·.1) = List.replicate n k := by
  intro n
  induction n with
  | zero => intro left ys h; cases h; rfl
  | succ n ih =>
    intro left ys h
    rw [pliesN, Option.bind_eq_some_iff] at h
    obtain ⟨x, hx, h⟩ := h
    rw [Option.map_eq_some_iff] at h
    obtain ⟨r, hr, rfl⟩ := h
    rw [List.map_cons, ih hr]
    rfl
theorem lotsGo_lots {len wd : Int} {polys : List (List Pt)} {rs : List Rl} {lots : List Int} : ∀ {pl : List Int} {j : Nat} {ys : List Pl}, lotsGo len wd polys rs lots pl j = some ys → ys.map (·.1) = expandL pl j := by
  intro pl
  induction pl with
  | nil => intro j ys h; cases h; rfl
  | cons n pl ih =>
    intro j ys h
    rw [lotsGo, Option.bind_eq_some_iff] at h
    obtain ⟨x, hx, h⟩ := h
    rw [Option.map_eq_some_iff] at h
    obtain ⟨r, hr, rfl⟩ := h
    rw [List.map_append, pliesN_lots hx, ih hr]
    rfl

/- What is left of the rolls. -/
def lenQ (l : List Qd) : Int := (l.map fun q => q.c - q.b).sum
def lenR (l : List Qd) : Int := (l.map fun q => q.d - q.c).sum
def lenZ (l : List Pt) : Int := (l.map fun z => z.y - z.x).sum
theorem lenQ_append (a b : List Qd) : lenQ (a ++ b) = lenQ a + lenQ b := by simp [lenQ]
theorem lenR_append (a b : List Qd) : lenR (a ++ b) = lenR a + lenR b := by simp [lenR]
theorem lenZ_cons (z : Pt) (l : List Pt) : lenZ (z :: l) = (z.y - z.x) + lenZ l := by simp [lenZ]
theorem lenZ_perm {a b : List Pt} (h : a.Perm b) : lenZ a = lenZ b := by
  unfold lenZ
  induction h with
  | nil => rfl
  | cons x _ ih => simp [ih]
  | swap x y l => simp; omega
  | trans _ _ h1 h2 => rw [h1, h2]
theorem restGo_spec {i lot ln : Int} : ∀ {zs : List Pt} {f : Int}, f ≤ ln → Apt zs → (∀ z ∈ zs, f ≤ z.x ∧ z.x < z.y ∧ z.y ≤ ln) →
    (∀ q ∈ restGo i lot ln f zs, q.a = i ∧ q.b = lot ∧ f ≤ q.c ∧ q.c < q.d ∧ q.d ≤ ln ∧ ∀ z ∈ zs, ¬ (q.c < z.y ∧ z.x < q.d)) ∧ ((restGo i lot ln f zs).Pairwise fun p q => p.d ≤ q.c) ∧ lenR (restGo i lot ln f zs) + lenZ zs = ln - f := by
  intro zs
  induction zs with
  | nil =>
    intro f hf _ _
    rw [restGo]
    by_cases h : f < ln
    · rw [if_pos h]
      refine ⟨fun q hq => ?_, List.pairwise_singleton .., by simp [lenR, lenZ]⟩
      rw [List.mem_singleton.1 hq]
      refine ⟨rfl, rfl, Int.le_refl _, h, Int.le_refl _, fun z hz => by cases hz⟩
    · rw [if_neg h]
      exact ⟨fun q hq => (by cases hq), List.Pairwise.nil, by simp [lenR, lenZ]; omega⟩
  | cons z l ih =>
    intro f hf ha hz
    have h1 := hz z (List.mem_cons_self ..)
    have ha' := List.pairwise_cons.1 ha
    obtain ⟨k1, k2, k3⟩ := ih (f := z.y) h1.2.2 ha'.2 (fun y hy => by have := hz y (List.mem_cons_of_mem _ hy); have := ha'.1 y hy; omega)
    rw [restGo]
    have hrest : ∀ q ∈ restGo i lot ln z.y l, q.a = i ∧ q.b = lot ∧ f ≤ q.c ∧ q.c < q.d ∧ q.d ≤ ln ∧ ∀ y ∈ z :: l, ¬ (q.c < y.y ∧ y.x < q.d) := by
      intro q hq
      obtain ⟨m1, m2, m3, m4, m5, m6⟩ := k1 q hq
      refine ⟨m1, m2, by omega, m4, m5, fun y hy => ?_⟩
      rcases List.mem_cons.1 hy with rfl | hy
      · omega
      · exact m6 y hy
    by_cases h : f < z.x
    · rw [if_pos h]
      refine ⟨fun q hq => ?_, ?_, ?_⟩
      · rcases List.mem_append.1 hq with hq | hq
        · rw [List.mem_singleton.1 hq]
          refine ⟨rfl, rfl, Int.le_refl _, h, by show z.x ≤ ln; omega, fun y hy => ?_⟩
          show ¬ (f < y.y ∧ y.x < z.x)
          rcases List.mem_cons.1 hy with rfl | hy
          · omega
          · have := ha'.1 y hy; omega
        · exact hrest q hq
      · rw [List.singleton_append, List.pairwise_cons]
        refine ⟨fun q hq => ?_, k2⟩
        have := (k1 q hq).2.2.1
        show z.x ≤ q.c
        omega
      · rw [lenR_append, lenZ_cons]
        have : lenR [(⟨i, lot, f, z.x⟩ : Qd)] = z.x - f := by simp [lenR]
        omega
    · rw [if_neg h, List.nil_append]
      refine ⟨hrest, k2, ?_⟩
      rw [lenZ_cons]
      omega
def zTot (parts : List Qd) : List Rl → Nat → Int
  | [], _ => 0
  | _ :: rs, i => lenZ (zonesOf i parts) + zTot parts rs (i + 1)
def lnSum (rs : List Rl) : Int := (rs.map (·.ln)).sum
theorem restsFrom_spec {parts : List Qd} : ∀ {rs : List Rl} {ts : List Int} {i : Nat}, ts.length = rs.length →
    (∀ j (hj : j < rs.length), 0 ≤ rs[j].ln ∧ Disj (zonesOf ((i + j : Nat) : Int) parts) ∧ ∀ z ∈ zonesOf ((i + j : Nat) : Int) parts, 0 ≤ z.x ∧ z.x < z.y ∧ z.y ≤ (rs[j]).ln) →
    (∀ q ∈ restsFrom parts rs ts i, ∃ j, ∃ (hj : j < rs.length) (hj' : j < ts.length), q.a = ((i + j : Nat) : Int) ∧ q.b = ts[j] ∧ 0 ≤ q.c ∧ q.c < q.d ∧ q.d ≤ rs[j].ln ∧ ∀ z ∈ zonesOf q.a parts, ¬ (q.c < z.y ∧ z.x < q.d)) ∧
    ((restsFrom parts rs ts i).Pairwise fun p q => ¬ (p.a = q.a ∧ p.c < q.d ∧ q.c < p.d)) ∧ lenR (restsFrom parts rs ts i) + zTot parts rs i = lnSum rs := by
  intro rs
  induction rs with
  | nil =>
    intro ts i _ _
    have : restsFrom parts [] ts i = [] := by cases ts <;> rfl
    rw [this]
    exact ⟨fun q hq => (by cases hq), List.Pairwise.nil, rfl⟩
  | cons r rs ih =>
    intro ts i hl h
    cases ts with
    | nil => simp at hl
    | cons t ts =>
      obtain ⟨a1, a2, a3⟩ := h 0 (by simp)
      simp only [Nat.add_zero, List.getElem_cons_zero] at a1 a2 a3
      have hperm := sortZ_perm (zonesOf (i : Int) parts)
      have hm : ∀ z ∈ sortZ (zonesOf (i : Int) parts), 0 ≤ z.x ∧ z.x < z.y ∧ z.y ≤ r.ln := fun z hz => a3 z (hperm.subset hz)
      have hap : Apt (sortZ (zonesOf (i : Int) parts)) := (apt_disj (fun z hz => (hm z hz).2.1) (sortZ_sorted _)).1 (disj_perm hperm.symm a2)
      obtain ⟨k1, k2, k3⟩ := restGo_spec (i := (i : Int)) (lot := t) a1 hap hm
      obtain ⟨m1, m2, m3⟩ := ih (ts := ts) (i := i + 1) (by simpa using hl) (fun j hj => by
        have := h (j + 1) (by simpa using hj)
        rw [show i + (j + 1) = i + 1 + j by omega] at this
        simpa using this)
      rw [restsFrom]
      have hA : ∀ q ∈ restGo (i : Int) t r.ln 0 (sortZ (zonesOf (i : Int) parts)), q.a = (i : Int) := fun q hq => (k1 q hq).1
      refine ⟨fun q hq => ?_, ?_, ?_⟩
      · rcases List.mem_append.1 hq with hq | hq
        · obtain ⟨c1, c2, c3, c4, c5, c6⟩ := k1 q hq
          exact ⟨0, by simp, by simp, by simpa using c1, by simpa using c2, c3, c4, by simpa using c5, fun z hz => c6 z (hperm.symm.subset (by rw [c1] at hz; exact hz))⟩
        · obtain ⟨j, hj, hj', c1, c2, c3, c4, c5, c6⟩ := m1 q hq
          exact ⟨j + 1, by simpa using hj, by simpa using hj', by rw [c1]; congr 1; omega, by simpa using c2, c3, c4, by simpa using c5, c6⟩
      · rw [List.pairwise_append]
        refine ⟨k2.imp fun hab k => by omega, m2, fun p hp q hq k => ?_⟩
        obtain ⟨j, _, _, c1, _⟩ := m1 q hq
        have := hA p hp
        omega
      · rw [lenR_append, zTot]
        have e1 : lnSum (r :: rs) = r.ln + lnSum rs := by simp [lnSum]
        have e2 := lenZ_perm hperm
        omega
theorem zTot_cons (p : Qd) (parts : List Qd) : ∀ (rs : List Rl) (i : Nat), zTot (p :: parts) rs i = (if (i : Int) ≤ p.a ∧ p.a < ((i + rs.length : Nat) : Int) then p.c - p.b else 0) + zTot parts rs i := by
  intro rs
  induction rs with
  | nil => intro i; rw [zTot, zTot, if_neg (by simp; try omega)]; rfl
  | cons r rs ih =>
    intro i
    rw [zTot, zTot, ih, zones_cons]
    by_cases h : p.a = (i : Int)
    · rw [if_pos h, if_neg (by simp; omega), if_pos (by simp; omega), List.singleton_append, lenZ_cons]
      simp only []
      omega
    · rw [if_neg h, List.nil_append]
      by_cases h2 : ((i + 1 : Nat) : Int) ≤ p.a ∧ p.a < ((i + 1 + rs.length : Nat) : Int)
      · rw [if_pos h2, if_pos (by simp; omega)]; omega
      · rw [if_neg h2, if_neg (by simp; omega)]; omega
theorem zTot_all {rs : List Rl} : ∀ {parts : List Qd}, (∀ p ∈ parts, 0 ≤ p.a ∧ p.a < (rs.length : Int)) → zTot parts rs 0 = lenQ parts := by
  intro parts
  induction parts with
  | nil =>
    intro _
    have : ∀ (rs : List Rl) (i : Nat), zTot [] rs i = 0 := by
      intro rs
      induction rs with
      | nil => intro i; rfl
      | cons r rs ih => intro i; rw [zTot, ih]; rfl
    rw [this]; rfl
  | cons p parts ih =>
    intro h
    have hp := h p (List.mem_cons_self ..)
    rw [zTot_cons, ih (fun q hq => h q (List.mem_cons_of_mem _ hq)), if_pos (by simp; omega)]
    simp [lenQ]
def restPart (q : Qd) : Qd := ⟨q.a, q.c, q.d, 0⟩
theorem lenQ_rest (l : List Qd) : lenQ (l.map restPart) = lenR l := by
  unfold lenQ lenR
  rw [List.map_map]
  rfl
/-- Parts and rests together are the rolls, no cloth twice. -/
theorem once_all {rs : List Rl} {lots : List Int} {parts : List Qd} (hl : lots.length = rs.length) (hp : ∀ p ∈ parts, clothB p rs = true) (h2 : NoTwice parts) (hln : ∀ r ∈ rs, 0 ≤ r.ln) :
    (∀ q ∈ restsFrom parts rs lots 0, 0 ≤ q.a ∧ q.a < (rs.length : Int) ∧ q.b = gL lots q.a.toNat ∧ 0 ≤ q.c ∧ q.c < q.d ∧ q.d ≤ (grl rs q.a.toNat).ln) ∧
    NoTwice (parts ++ (restsFrom parts rs lots 0).map restPart) ∧ lenQ (parts ++ (restsFrom parts rs lots 0).map restPart) = lnSum rs := by
  have hcl : ∀ p ∈ parts, 0 ≤ p.a ∧ p.a < (rs.length : Int) ∧ 0 ≤ p.b ∧ p.b < p.c ∧ p.c ≤ (grl rs p.a.toNat).ln := fun p hq => by
    have h := hp p hq
    unfold clothB at h
    simp only [Bool.and_eq_true, decide_eq_true_eq] at h
    exact ⟨h.1, h.2.1, h.2.2.1, h.2.2.2.1, h.2.2.2.2⟩
  obtain ⟨m1, m2, m3⟩ := restsFrom_spec (parts := parts) (rs := rs) (ts := lots) (i := 0) hl (fun j hj => by
    refine ⟨hln _ (List.getElem_mem hj), noTwice_disj h2 _, fun z hz => ?_⟩
    obtain ⟨q, hq, h3, rfl⟩ := zones_mem.1 hz
    have := hcl q hq
    rw [h3] at this
    simp only [Nat.zero_add, Int.toNat_natCast] at this
    rw [grl_eq hj] at this
    exact ⟨this.2.2.1, this.2.2.2.1, this.2.2.2.2⟩)
  refine ⟨fun q hq => ?_, ?_, ?_⟩
  · obtain ⟨j, hj, hj', c1, c2, c3, c4, c5, _⟩ := m1 q hq
    rw [Nat.zero_add] at c1
    have e : q.a.toNat = j := by omega
    rw [e, grl_eq hj, gL_eq hj']
    exact ⟨by omega, by omega, c2, c3, c4, c5⟩
  · unfold NoTwice
    rw [List.pairwise_append]
    refine ⟨h2, ?_, fun p hp' q hq k => ?_⟩
    · rw [List.pairwise_map]
      exact m2.imp fun hab k => hab ⟨k.1, k.2.1, k.2.2⟩
    · obtain ⟨r, hr, rfl⟩ := List.mem_map.1 hq
      obtain ⟨j, hj, hj', c1, c2, c3, c4, c5, c6⟩ := m1 r hr
      exact c6 ⟨p.b, p.c⟩ (zones_mem.2 ⟨p, hp', k.1, rfl⟩) ⟨k.2.2, k.2.1⟩
  · rw [lenQ_append, lenQ_rest]
    have := zTot_all (rs := rs) (parts := parts) (fun p hq => ⟨(hcl p hq).1, (hcl p hq).2.1⟩)
    omega

/- Joints. -/
theorem Spliced.joint {zs : List Pt} {len at_ : Int} {l : List Qd} (h : Spliced zs len at_ l) : (∀ a, l[0]? = some a → a.d = at_) ∧ (∀ j a b, l[j]? = some a → l[j + 1]? = some b → b.d = backR zs (endQ a) ∧ a.d < b.d ∧ endQ a < len) ∧ ∀ a, l[l.length - 1]? = some a → endQ a = len := by
  induction h with
  | last h1 h2 h3 =>
    refine ⟨fun a h => by cases h; exact h1, fun j a b h h' => ?_, fun a h => by cases h; exact h3⟩
    simp at h'
  | @more at_ at' p l h1 h2 h3 h4 h5 h6 ih =>
    obtain ⟨k1, k2, k3⟩ := ih
    refine ⟨fun a h => by cases h; exact h1, fun j a b ha hb => ?_, fun a ha => ?_⟩
    · cases j with
      | zero =>
        cases ha
        have := k1 b (by simpa using hb)
        exact ⟨by rw [this, h4], by omega, h3⟩
      | succ j => exact k2 j a b (by simpa using ha) (by simpa using hb)
    · obtain ⟨q, r, rfl, _⟩ := h6.ne
      refine k3 a ?_
      rw [← ha]
      simp

/- Changed lays. -/
theorem plysErr_set {len wd : Int} {polys : List (List Pt)} {rs : List Rl} {lots : List Int} {y' : Pl} {e : Int} (he : plyR len wd polys rs lots y' = e) (h0 : e ≠ 0) : ∀ {ys : List Pl} {i : Nat}, i < ys.length → (∀ y ∈ ys, plyR len wd polys rs lots y = 0) → plysErr len wd polys rs lots (ys.set i y') = e := by
  intro ys
  induction ys with
  | nil => intro i hi; simp at hi
  | cons y ys ih =>
    intro i hi h
    cases i with
    | zero => rw [List.set_cons_zero, plys_bad (by rw [he]; exact h0), he]
    | succ i =>
      rw [List.set_cons_succ, plys_good (h y (List.mem_cons_self ..))]
      exact ih (by simpa using hi) (fun z hz => h z (List.mem_cons_of_mem _ hz))
theorem scheck_set {len wd : Int} {polys : List (List Pt)} {rs : List Rl} {lots : List Int} {ys : List Pl} {y' : Pl} {e : Int} {i : Nat} (h : scheckR len wd polys rs lots ys = 0) (hi : i < ys.length) (he : plyR len wd polys rs lots y' = e) (h0 : e ≠ 0) : scheckR len wd polys rs lots (ys.set i y') = e := by
  unfold scheckR at h ⊢
  rw [List.length_set]
  split at h
  · rename_i h1; exact absurd h h1
  · rename_i h1
    rw [if_neg h1]
    split at h
    · cases h
    · rename_i h2
      rw [if_neg h2]
      split at h
      · rename_i h3; exact absurd h h3
      · rename_i h3
        have := plysErr_set he h0 hi (plys_all.1 (by simpa using h3))
        rw [this, if_pos h0]
theorem other_ply {len wd : Int} {polys : List (List Pt)} {rs : List Rl} {lots : List Int} {lot lot' : Int} {l : List Qd} (hn : 0 < l.length) (hne : lot' ≠ lot) (hle : ∀ p ∈ l, 0 ≤ p.d ∧ p.d ≤ len)
    (hp : ∀ p ∈ l, clothB p rs = true ∧ gL lots p.a.toNat = lot ∧ wd ≤ (grl rs p.a.toNat).wd) : plyR len wd polys rs lots (lot', l) = 16 := by
  cases l with
  | nil => simp at hn
  | cons p l =>
    obtain ⟨p1, p2, p3⟩ := hp p (List.mem_cons_self ..)
    have hd := hle p (List.mem_cons_self ..)
    have he : partErr len wd polys rs lots lot' none p = 16 := by
      unfold partErr
      rw [if_neg (by rw [p1]; simp; omega), if_pos (by rw [p2]; omega)]
    unfold plyR
    simp only []
    rw [plyGo, if_pos (by rw [he]; decide), he]
theorem short_ply {len wd : Int} {polys : List (List Pt)} {rs : List Rl} {lots : List Int} {lot : Int} (he : (extentsR len polys).2 = 0) : ∀ {l : List Qd} {at_ : Int} {prev : Option Qd} {j : Nat}, Spliced (extentsR len polys).1 len at_ l → 0 ≤ at_ → at_ ≤ len → j < l.length →
    (∀ p ∈ l, clothB p rs = true ∧ gL lots p.a.toNat = lot ∧ wd ≤ (grl rs p.a.toNat).wd) →
    (match prev with | none => at_ = 0 | some q => q.d < at_ ∧ at_ = backR (extentsR len polys).1 (endQ q) ∧ endQ q < len) → plyGo len wd polys rs lots lot prev (l.eraseIdx j) = 20 := by
  intro l
  induction l with
  | nil => intro at_ prev j h; cases h
  | cons p l ih =>
    intro at_ prev j hG h0 hle hj hp hprev
    obtain ⟨p1, p2, p3⟩ := hp p (List.mem_cons_self ..)
    have hd : p.d = at_ := by obtain ⟨_, _, e, h⟩ := hG.ne; cases e; exact h
    cases j with
    | zero =>
      rw [List.eraseIdx_cons_zero]
      cases hG with
      | last h1 h2 h3 =>
        cases prev with
        | none => rw [plyGo]
        | some q => simp only [] at hprev; rw [plyGo, if_pos (by omega)]
      | @more _ at' _ _ h1 h2 h3 h4 h5 h6 =>
        obtain ⟨q2, r2, rfl, hq2⟩ := h6.ne
        obtain ⟨s1, s2, s3⟩ := hp q2 (by simp)
        have hb := back_le (extentsR len polys).1 (endQ p)
        have hpe : partErr len wd polys rs lots lot prev q2 = 20 := by
          unfold partErr
          rw [if_neg (by rw [s1]; simp; omega), if_neg (by simpa using s2), if_neg (by omega)]
          cases prev with
          | none => simp only [] at hprev ⊢; rw [if_pos (by omega)]
          | some q =>
            simp only [] at hprev ⊢
            have hj : joinsB len polys q q2 = false := by
              unfold joinsB
              by_cases hc : q2.d ≤ q.d ∨ endQ q < q2.d
              · rw [if_pos hc]
              · rw [if_neg hc, backR_of he (by omega) (by omega)]
                simp
                omega
            rw [hj]; rfl
        cases prev <;> rw [plyGo, if_pos (by rw [hpe]; decide), hpe]
    | succ j =>
      rw [List.eraseIdx_cons_succ]
      have hpe : partErr len wd polys rs lots lot prev p = 0 := by
        unfold partErr
        rw [if_neg (by rw [p1]; simp; omega), if_neg (by simpa using p2), if_neg (by omega)]
        cases prev with
        | none => simp only [] at hprev ⊢; rw [if_neg (by omega)]
        | some q =>
          simp only [] at hprev ⊢
          have hb := back_le (extentsR len polys).1 (endQ q)
          have hj : joinsB len polys q p = true := by
            unfold joinsB
            rw [if_neg (by omega), backR_of he (by omega) (by omega)]
            simp
            omega
          rw [if_pos hj]
      have hgo : plyGo len wd polys rs lots lot prev (p :: l.eraseIdx j) = plyGo len wd polys rs lots lot (some p) (l.eraseIdx j) := by
        cases prev <;> rw [plyGo, if_neg (by simpa using hpe)]
      rw [hgo]
      cases hG with
      | last h1 h2 h3 => simp at hj
      | @more _ at' _ _ h1 h2 h3 h4 h5 h6 =>
        have hb := back_le (extentsR len polys).1 (endQ p)
        exact ih (at_ := at') (prev := some p) h6 (by omega) (by omega) (by simpa using hj) (fun q hq => hp q (List.mem_cons_of_mem _ hq)) ⟨by omega, h4, h3⟩
theorem double_lay {len wd : Int} {polys : List (List Pt)} {rs : List Rl} {lots : List Int} {ys : List Pl} {y : Pl} (h : scheckR len wd polys rs lots ys = 0) (hn : ys.length < 40) (hy : y ∈ ys) (hp : ∃ p ∈ y.2, p.b < p.c) : scheckR len wd polys rs lots (ys ++ [y]) = 14 := by
  unfold scheckR at h ⊢
  split at h
  · rename_i h1; exact absurd h h1
  · rename_i h1
    rw [if_neg h1]
    split at h
    · cases h
    · rename_i h2
      rw [if_neg (by simp; omega)]
      split at h
      · rename_i h3; exact absurd h h3
      · rename_i h3
        have h3' := plys_all.1 (by simpa using h3)
        have : plysErr len wd polys rs lots (ys ++ [y]) = 0 := plys_all.2 fun z hz => by
          rcases List.mem_append.1 hz with hz | hz
          · exact h3' z hz
          · rw [List.mem_singleton.1 hz]; exact h3' y hy
        rw [if_neg (by simpa using this), if_neg]
        intro hN
        unfold NoTwice allQ at hN
        rw [List.flatMap_append, List.pairwise_append] at hN
        obtain ⟨p, hp1, hp2⟩ := hp
        exact hN.2.2 p (List.mem_flatMap.2 ⟨y, hy, hp1⟩) p (by simpa using hp1) ⟨rfl, hp2, hp2⟩

/- Less plies. -/
theorem pliesN_pred {len : Int} {polys : List (List Pt)} {k : Int} : ∀ {n : Nat} {left : List Qd} {x : List Pl}, pliesN len polys k (n + 1) left = some x → pliesN len polys k n left = some x.dropLast := by
  intro n
  induction n with
  | zero =>
    intro left x h
    have := pliesN_lots h
    have hl : x.length = 1 := by have := congrArg List.length this; simpa using this
    match x, hl with
    | [y], _ => rfl
  | succ n ih =>
    intro left x h
    rw [pliesN, Option.bind_eq_some_iff] at h
    obtain ⟨a, ha, h⟩ := h
    rw [Option.map_eq_some_iff] at h
    obtain ⟨r, hr, rfl⟩ := h
    have hrl : r.length = n + 1 := by have := congrArg List.length (pliesN_lots hr); simpa using this
    rw [pliesN, Option.bind_eq_some_iff]
    refine ⟨a, ha, ?_⟩
    rw [ih hr]
    cases r with
    | nil => simp at hrl
    | cons b r => rfl
theorem lotsGo_zero {len wd : Int} {polys : List (List Pt)} {rs : List Rl} {lots : List Int} : ∀ {pl : List Int} {j : Nat}, (∀ n ∈ pl, n ≤ 0) → lotsGo len wd polys rs lots pl j = some [] := by
  intro pl
  induction pl with
  | nil => intro j _; rfl
  | cons n pl ih =>
    intro j h
    rw [lotsGo, show n.toNat = 0 by have := h n (List.mem_cons_self ..); omega, ih (fun m hm => h m (List.mem_cons_of_mem _ hm))]
    rfl
theorem lotsGo_less {len wd : Int} {polys : List (List Pt)} {rs : List Rl} {lots : List Int} : ∀ {pl : List Int} {j k : Nat} {ys : List Pl} (hk : k < pl.length), 0 < pl[k] → (∀ i (hi : i < pl.length), k < i → pl[i] ≤ 0) → lotsGo len wd polys rs lots pl j = some ys →
    0 < ys.length ∧ lotsGo len wd polys rs lots (pl.set k (pl[k] - 1)) j = some ys.dropLast := by
  intro pl
  induction pl with
  | nil => intro j k ys hk; simp at hk
  | cons n pl ih =>
    intro j k ys hk hpos hlast h
    rw [lotsGo, Option.bind_eq_some_iff] at h
    obtain ⟨x, hx, h⟩ := h
    rw [Option.map_eq_some_iff] at h
    obtain ⟨r, hr, rfl⟩ := h
    cases k with
    | zero =>
      simp only [List.getElem_cons_zero] at hpos ⊢
      have hz : lotsGo len wd polys rs lots pl (j + 1) = some [] := lotsGo_zero fun m hm => by
        obtain ⟨i, hi, rfl⟩ := List.getElem_of_mem hm
        have := hlast (i + 1) (by simpa using hi) (by omega)
        simpa using this
      rw [hz] at hr
      cases hr
      obtain ⟨m, hm⟩ : ∃ m, n.toNat = m + 1 := ⟨n.toNat - 1, by omega⟩
      rw [hm] at hx
      have hxl : x.length = m + 1 := by have := congrArg List.length (pliesN_lots hx); simpa using this
      rw [List.append_nil, List.set_cons_zero, lotsGo, show (n - 1).toNat = m by omega, pliesN_pred hx, hz]
      exact ⟨by omega, by simp⟩
    | succ k =>
      simp only [List.getElem_cons_succ] at hpos ⊢
      obtain ⟨k1, k2⟩ := ih (j := j + 1) (k := k) (by simpa using hk) hpos (fun i hi hki => by have := hlast (i + 1) (by simpa using hi) (by omega); simpa using this) hr
      refine ⟨by rw [List.length_append]; omega, ?_⟩
      rw [List.set_cons_succ, lotsGo, hx, k2]
      show some (x ++ r.dropLast) = some (x ++ r).dropLast
      rw [List.dropLast_append_of_ne_nil (by intro e; rw [e] at k1; simp at k1)]
theorem pliesGo_of : ∀ {pl : List Int} {s : Int}, (∀ n ∈ pl, 0 ≤ n) → s + pl.sum ≤ 40 → pliesGo s pl = 0 := by
  intro pl
  induction pl with
  | nil => intro s _ _; rfl
  | cons n pl ih =>
    intro s h hs
    have h0 := h n (List.mem_cons_self ..)
    have hpos : 0 ≤ pl.sum := by
      have : ∀ l : List Int, (∀ n ∈ l, 0 ≤ n) → 0 ≤ l.sum := by
        intro l
        induction l with
        | nil => intro _; simp
        | cons a l ih => intro h; have := h a (List.mem_cons_self ..); have := ih (fun n hn => h n (List.mem_cons_of_mem _ hn)); simp; omega
      exact this pl (fun m hm => h m (List.mem_cons_of_mem _ hm))
    rw [List.sum_cons] at hs
    rw [pliesGo, if_neg (by omega)]
    exact ih (fun m hm => h m (List.mem_cons_of_mem _ hm)) (by omega)
theorem sum_toNat : ∀ {pl : List Int}, (∀ n ∈ pl, 0 ≤ n) → (pl.map fun n => (n.toNat : Int)).sum = pl.sum := by
  intro pl
  induction pl with
  | nil => intro _; rfl
  | cons n pl ih =>
    intro h
    have := h n (List.mem_cons_self ..)
    rw [List.map_cons, List.sum_cons, List.sum_cons, ih (fun m hm => h m (List.mem_cons_of_mem _ hm))]
    omega
theorem sum_set : ∀ {pl : List Int} {k : Nat} (hk : k < pl.length) (v : Int), (pl.set k v).sum = pl.sum - pl[k] + v := by
  intro pl
  induction pl with
  | nil => intro k hk; simp at hk
  | cons n pl ih =>
    intro k hk v
    cases k with
    | zero => simp; omega
    | succ k => simp only [List.set_cons_succ, List.sum_cons, List.getElem_cons_succ]; rw [ih (by simpa using hk)]; omega
theorem spread_of {len wd : Int} {polys : List (List Pt)} {rs : List Rl} {lots plies : List Int} {ys : List Pl} (hc : chkClothR len wd polys rs lots.length = 0) (hp : chkPliesR lots plies = 0) (h : lotsGo len wd polys rs lots plies 0 = some ys) :
    spreadR len wd polys rs lots plies = (ys, restsFrom (allQ ys) rs lots 0, 0) := by
  have hk := lots_ok hc hp h
  unfold spreadR
  rw [if_neg (by simpa using hc), if_neg (by simpa using hp), h]
  simp only []
  rw [hk.rests]; rfl
theorem chkPlies_lots {lots plies : List Int} (h : chkPliesR lots plies = 0) : lotsBad lots = false ∧ pliesGo 0 plies = 0 := by
  unfold chkPliesR at h
  split at h
  · cases h
  · rename_i h1; exact ⟨by simpa using h1, h⟩
theorem spread_less {len wd : Int} {polys : List (List Pt)} {rs : List Rl} {lots plies : List Int} {k : Nat} (h : (spreadR len wd polys rs lots plies).2.2 = 0) (hk : k < plies.length) (hpos : 0 < plies[k]) (hlast : ∀ i (hi : i < plies.length), k < i → plies[i] ≤ 0) :
    0 < (spreadR len wd polys rs lots plies).1.length ∧ (spreadR len wd polys rs lots (plies.set k (plies[k] - 1))).2.2 = 0 ∧ (spreadR len wd polys rs lots (plies.set k (plies[k] - 1))).1 = (spreadR len wd polys rs lots plies).1.dropLast := by
  obtain ⟨h1, h2, ys, h3, h4, h5⟩ := spread_ok h
  obtain ⟨k1, k2⟩ := lotsGo_less hk hpos hlast h3
  obtain ⟨l1, l2⟩ := chkPlies_lots h2
  obtain ⟨s1, s2⟩ := plies_sum (by omega) (by omega) l2
  rw [sum_toNat s1] at s2
  have hcp : chkPliesR lots (plies.set k (plies[k] - 1)) = 0 := by
    unfold chkPliesR
    rw [l1, if_neg (by simp)]
    refine pliesGo_of (fun n hn => ?_) (by rw [sum_set hk]; omega)
    rcases List.mem_or_eq_of_mem_set hn with hn | rfl
    · exact s1 n hn
    · omega
  rw [h5, spread_of h1 hcp k2]
  exact ⟨k1, rfl, rfl⟩

/- One more roll. -/
theorem remGo_append {lot wd : Int} (e : List Rl) (t : List Int) : ∀ {rs : List Rl} {ts : List Int} {i : Nat}, ts.length = rs.length → remGo lot wd (rs ++ e) (ts ++ t) i = remGo lot wd rs ts i ++ remGo lot wd e t (i + rs.length) := by
  intro rs
  induction rs with
  | nil => intro ts i h; rw [List.eq_nil_of_length_eq_zero h]; rw [show remGo lot wd [] [] i = [] from rfl]; rfl
  | cons r rs ih =>
    intro ts i h
    cases ts with
    | nil => simp at h
    | cons u ts =>
      rw [List.cons_append, List.cons_append, remGo, remGo, ih (by simpa using h), List.length_cons, show i + 1 + rs.length = i + (rs.length + 1) by omega]
      split <;> simp
theorem layR_append {len : Int} {polys : List (List Pt)} (e : List Qd) : ∀ {l : List Qd} {at_ : Int} {x : List Qd × List Qd}, layR len polys l at_ = some x → layR len polys (l ++ e) at_ = some (x.1, x.2 ++ e) := by
  intro l
  induction l with
  | nil => intro at_ x h; cases h
  | cons r l ih =>
    intro at_ x h
    rw [List.cons_append, layR]
    rw [layR] at h
    split at h
    · rename_i h1
      rw [if_pos h1]
      cases h
      rfl
    · rename_i h1
      rw [if_neg h1]
      split at h
      · rename_i h2
        rw [if_pos h2]
        rw [Option.map_eq_some_iff] at h
        obtain ⟨y, hy, rfl⟩ := h
        rw [ih hy]
        rfl
      · rename_i h2
        rw [if_neg h2]
        exact ih h
theorem pliesN_append {len : Int} {polys : List (List Pt)} {k : Int} (e : List Qd) : ∀ {n : Nat} {l : List Qd} {ys : List Pl}, pliesN len polys k n l = some ys → pliesN len polys k n (l ++ e) = some ys := by
  intro n
  induction n with
  | zero => intro l ys h; exact h
  | succ n ih =>
    intro l ys h
    rw [pliesN, Option.bind_eq_some_iff] at h ⊢
    obtain ⟨x, hx, h⟩ := h
    rw [Option.map_eq_some_iff] at h
    obtain ⟨r, hr, rfl⟩ := h
    exact ⟨_, layR_append e hx, by rw [ih hr]; rfl⟩
theorem lotsGo_append {len wd : Int} {polys : List (List Pt)} {rs : List Rl} {lots : List Int} (hl : lots.length = rs.length) (e : List Rl) (t : List Int) : ∀ {pl : List Int} {j : Nat} {ys : List Pl}, lotsGo len wd polys rs lots pl j = some ys → lotsGo len wd polys (rs ++ e) (lots ++ t) pl j = some ys := by
  intro pl
  induction pl with
  | nil => intro j ys h; exact h
  | cons n pl ih =>
    intro j ys h
    rw [lotsGo, Option.bind_eq_some_iff] at h ⊢
    obtain ⟨x, hx, h⟩ := h
    rw [Option.map_eq_some_iff] at h
    obtain ⟨r, hr, rfl⟩ := h
    refine ⟨x, ?_, by rw [ih hr]; rfl⟩
    unfold remR
    rw [remGo_append e t hl]
    exact pliesN_append _ hx
theorem lotsBad_append : ∀ {a : List Int} {t : Int}, lotsBad a = false → 0 ≤ t → lotsBad (a ++ [t]) = false := by
  intro a
  induction a with
  | nil => intro t _ h; show lotsBad [t] = false; rw [lotsBad, if_neg (by omega)]; rfl
  | cons n a ih =>
    intro t h ht
    rw [lotsBad] at h
    rw [List.cons_append, lotsBad]
    split at h
    · cases h
    · rename_i h1; rw [if_neg h1]; exact ih h ht
theorem spread_more {len wd : Int} {polys : List (List Pt)} {rs : List Rl} {lots plies : List Int} {z : Rl} {t : Int} (h : (spreadR len wd polys rs lots plies).2.2 = 0) (hz : rollI z = 0) (ht : 0 ≤ t) (hn : rs.length ≤ 19) :
    (spreadR len wd polys (rs ++ [z]) (lots ++ [t]) plies).2.2 = 0 ∧ (spreadR len wd polys (rs ++ [z]) (lots ++ [t]) plies).1 = (spreadR len wd polys rs lots plies).1 := by
  obtain ⟨h1, h2, ys, h3, h4, h5⟩ := spread_ok h
  obtain ⟨c1, c2, c3, c4⟩ := cloth_zero h1
  obtain ⟨r1, r2, r3⟩ := chkRolls_zero c2
  obtain ⟨l1, l2⟩ := chkPlies_lots h2
  have hcr : chkRollsR (rs ++ [z]) (lots ++ [t]).length = 0 := by
    unfold chkRollsR
    have : rollsErr (rs ++ [z]) = 0 := rolls_all.2 fun r hr => by
      rcases List.mem_append.1 hr with hr | hr
      · exact r2 r hr
      · rw [List.mem_singleton.1 hr]; exact hz
    rw [if_neg (by simp; omega), if_neg (by simpa using this), if_neg (by simp; omega)]
  have hcc : chkClothR len wd polys (rs ++ [z]) (lots ++ [t]).length = 0 := by
    unfold chkClothR at h1 ⊢
    split at h1
    · rename_i k1; exact absurd h1 k1
    · rename_i k1
      rw [if_neg k1, if_neg (by simpa using hcr), if_neg (by omega)]
  have hcp : chkPliesR (lots ++ [t]) plies = 0 := by
    unfold chkPliesR
    rw [lotsBad_append l1 ht, if_neg (by simp)]
    exact l2
  rw [h5, spread_of hcc hcp (lotsGo_append r3 [z] [t] h3)]
  exact ⟨rfl, rfl⟩

/- Enough rolls. -/
def pot (len : Int) (l : List Qd) : Int := (l.map fun r => (r.d - r.c) / len).sum
theorem pot_cons (len : Int) (r : Qd) (l : List Qd) : pot len (r :: l) = (r.d - r.c) / len + pot len l := by simp [pot]
theorem lay_pot {len : Int} {polys : List (List Pt)} (hl : 1 ≤ len) : ∀ {l : List Qd} {at_ : Int}, (∀ r ∈ l, r.c ≤ r.d) → 0 ≤ at_ → 1 ≤ pot len l → ∃ x, layR len polys l at_ = some x ∧ pot len l - 1 ≤ pot len x.2 ∧ ∀ r ∈ x.2, r.c ≤ r.d := by
  intro l
  induction l with
  | nil => intro at_ _ _ h; simp [pot] at h
  | cons r l ih =>
    intro at_ hr h0 hp
    have hr0 := hr r (List.mem_cons_self ..)
    rw [pot_cons] at hp
    rw [layR]
    by_cases hs : len - at_ ≤ r.d - r.c
    · rw [if_pos hs]
      have hq : (r.d - r.c) / len - 1 ≤ (r.d - (r.c + (len - at_))) / len := by
        have : (r.d - r.c) / len - 1 = (r.d - r.c - len) / len := by
          have := Int.add_ediv_of_dvd_right (a := r.d - r.c) (b := -len) (c := len) (Int.dvd_neg.2 (Int.dvd_refl _))
          rw [show r.d - r.c - len = r.d - r.c + -len by omega, this, Int.neg_ediv_of_dvd (Int.dvd_refl _), Int.ediv_self (by omega)]
          omega
        rw [this]
        exact Int.ediv_le_ediv (by omega) (by omega)
      by_cases hat : r.c + (len - at_) ≤ r.d
      · refine ⟨_, rfl, ?_, fun s hs' => ?_⟩
        · show pot len (r :: l) - 1 ≤ pot len (⟨r.a, r.b, r.c + (len - at_), r.d⟩ :: l)
          rw [pot_cons, pot_cons]
          simp only []
          omega
        · rcases List.mem_cons.1 hs' with rfl | hs'
          · exact hat
          · exact hr s (List.mem_cons_of_mem _ hs')
      · omega
    · rw [if_neg hs]
      have hz : (r.d - r.c) / len = 0 := Int.ediv_eq_zero_of_lt (by omega) (by omega)
      by_cases hc : 0 < r.d - r.c ∧ (BestR len polys at_ (at_ + (r.d - r.c))).2 = 0
      · rw [if_pos hc]
        obtain ⟨z1, z2, z3, z4, z5, z6, z7⟩ := best_zero hc.2
        obtain ⟨x, hx, hx1, hx2⟩ := ih (at_ := (BestR len polys at_ (at_ + (r.d - r.c))).1.x) (fun s hs' => hr s (List.mem_cons_of_mem _ hs')) (by omega) (by omega)
        rw [hx]
        refine ⟨_, rfl, ?_, hx2⟩
        rw [pot_cons]
        simp only []
        omega
      · rw [if_neg hc]
        obtain ⟨x, hx, hx1, hx2⟩ := ih (at_ := at_) (fun s hs' => hr s (List.mem_cons_of_mem _ hs')) h0 (by omega)
        exact ⟨x, hx, by rw [pot_cons]; omega, hx2⟩
theorem pliesN_pot {len : Int} {polys : List (List Pt)} {k : Int} (hl : 1 ≤ len) : ∀ {n : Nat} {l : List Qd}, (∀ r ∈ l, r.c ≤ r.d) → (n : Int) ≤ pot len l → ∃ ys, pliesN len polys k n l = some ys := by
  intro n
  induction n with
  | zero => intro l _ _; exact ⟨[], rfl⟩
  | succ n ih =>
    intro l hr hn
    obtain ⟨x, hx, h1, h2⟩ := lay_pot (polys := polys) (at_ := 0) hl hr (by omega) (by omega)
    obtain ⟨ys, hys⟩ := ih h2 (by omega)
    exact ⟨_, by rw [pliesN, hx]; show (pliesN len polys k n x.2).map _ = _; rw [hys]; rfl⟩
/-- What the rolls of the lot 0 give, each cut up on its own. -/
def enoughN (len wd : Int) : List Rl → List Int → Int
  | r :: rs, t :: ts => (if t = 0 ∧ wd ≤ r.wd then r.ln / len else 0) + enoughN len wd rs ts
  | _, _ => 0
theorem enough_pot {len wd : Int} : ∀ {rs : List Rl} {ts : List Int} {i : Nat}, pot len (remGo 0 wd rs ts i) = enoughN len wd rs ts := by
  intro rs
  induction rs with
  | nil => intro ts i; cases ts <;> rfl
  | cons r rs ih =>
    intro ts i
    cases ts with
    | nil => rfl
    | cons t ts =>
      rw [remGo, enoughN]
      split
      · rw [pot_cons, ih]; simp
      · rw [ih]; simp
theorem spread_enough {len wd : Int} {polys : List (List Pt)} {rs : List Rl} {lots : List Int} {m : Int} (h : (spreadR len wd polys rs lots []).2.2 = 0) (h0 : 0 ≤ m) (h1 : m ≤ 40) (hm : m ≤ enoughN len wd rs lots) :
    (spreadR len wd polys rs lots [m]).2.2 = 0 ∧ ((spreadR len wd polys rs lots [m]).1.length : Int) = m := by
  obtain ⟨c1, c2, ys, _, h4, _⟩ := spread_ok h
  obtain ⟨l1, _⟩ := chkPlies_lots c2
  obtain ⟨e1, e2, e3, e4⟩ := cloth_zero c1
  obtain ⟨r1, r2, r3⟩ := chkRolls_zero e2
  have hcp : chkPliesR lots [m] = 0 := by
    unfold chkPliesR
    rw [l1, if_neg (by simp)]
    exact pliesGo_of (fun n hn => by rw [List.mem_singleton.1 hn]; exact h0) (by simp; omega)
  have hcd : ∀ r ∈ remR rs lots 0 wd, r.c ≤ r.d := fun r hr => by
    obtain ⟨j, r', t', k1, k2, k3, k4, rfl⟩ := remGo_mem hr
    have := (roll_ok (r2 r' (List.mem_of_getElem? k1))).2.2.2.1
    show 0 ≤ r'.ln
    omega
  obtain ⟨xs, hx⟩ := pliesN_pot (polys := polys) (k := ((0 : Nat) : Int)) (n := m.toNat) h4.len1.1 hcd (by unfold remR; rw [enough_pot]; omega)
  have hg : lotsGo len wd polys rs lots [m] 0 = some xs := by
    rw [lotsGo]
    rw [show ((0 : Nat) : Int) = 0 from rfl] at hx ⊢
    rw [hx]
    show (lotsGo len wd polys rs lots [] (0 + 1)).map _ = _
    simp [lotsGo]
  rw [spread_of c1 hcp hg]
  refine ⟨rfl, ?_⟩
  have := congrArg List.length (pliesN_lots hx)
  rw [List.length_map, List.length_replicate] at this
  show (xs.length : Int) = m
  omega

end Go.Proofs.Ytdhakoecjmaebaa
