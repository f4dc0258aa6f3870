/-
  Plain facts for the laws of spreading that need no reference: the lots of the plies, what is left of the rolls, joints, changed lays, less plies, more rolls, enough rolls.
-/
import Derived.Test.YtehfpjlcbhimkaaZSprQ
namespace Go.Proofs.Ytehfpjlcbhimkaa
open Go.RowKit
set_option linter.unusedSimpArgs false
set_option linter.unusedVariables false

/- The lots of the plies. -/
def expandL : List Int → Nat → List Int
  | [], _ => []
  | n :: l, j => List.replicate n.toNat (j : Int) ++ expandL l (j + 1)
theorem pliesN_lots {len : Int} {polys : List (List Pt)} {k : Int} : ∀ {n : Nat} {left : List Qd} {ys : List Pl}, pliesN len polys k n left = some ys → ys.map (·.1) = List.replicate n k := by
  intro n
  induction n with
  | zero => intro left ys h; cases h; rfl
  | succ n ih =>
    intro left ys h
    rw [pliesN, Option.bind_eq_some_iff] at h
    obtain ⟨x, hx, h⟩ := h
    rw [Option.map_eq_some_iff] at h
    obtain ⟨r, hr, rfl⟩ := h
    rw [List.map_cons, ih hr]
    rfl
theorem lotsGo_lots {len wd : Int} {polys : List (List Pt)} {rs : List Rl} {lots : List Int} : ∀ {pl : List Int} {j : Nat} {ys : List Pl}, lotsGo len wd polys rs lots pl j = some ys → ys.map (·.1) = expandL pl j := by
  intro pl
  induction pl with
  | nil => intro j ys h; cases h; rfl
  | cons n pl ih =>
    intro j ys h
    rw [lotsGo, Option.bind_eq_some_iff] at h
    obtain ⟨x, hx, h⟩ := h
    rw [Option.map_eq_some_iff] at h
    obtain ⟨r, hr, rfl⟩ := h
    rw [List.map_append, pliesN_lots hx, ih hr]
    rfl

/- What is left of the rolls. -/
def lenQ (l : List Qd) : Int := (l.map fun q => q.c - q.b).sum
def lenR (l : List Qd) : Int := (l.map fun q => q.d - q.c).sum
def lenZ (l : List Pt) : Int := (l.map fun z => z.y - z.x).sum
theorem lenQ_append (a b : List Qd) : lenQ (a ++ b) = lenQ a + lenQ b := by simp [lenQ]
theorem lenR_append (a b : List Qd) : lenR (a ++ b) = lenR a + lenR b := by simp [lenR]
theorem lenZ_cons (z : Pt) (l : List Pt) : lenZ (z :: l) = (z.y - z.x) + lenZ l := by simp [lenZ]
theorem lenZ_perm {a b : List Pt} (h : a.Perm b) : lenZ a = lenZ b := by
  unfold lenZ
  induction h with
  | nil => rfl
  | cons x _ ih => simp [ih]
  | swap x y l => simp; omega
  | trans _ _ h1 h2 => rw [h1, h2]
theorem restGo_spec {i lot ln : Int} : ∀ {zs : List Pt} {f : Int}, f ≤ ln → Apt zs → (∀ z ∈ zs, f ≤ z.x ∧ z.x < z.y ∧ z.y ≤ ln) →
    (∀ q ∈ restGo i lot ln f zs, q.a = i ∧ q.b = lot ∧ f ≤ q.c ∧ q.c < q.d ∧ q.d ≤ ln ∧ ∀ z ∈ zs, ¬ (q.c < z.y ∧ z.x < q.d)) ∧ ((restGo i lot ln f zs).Pairwise fun p q => p.d ≤ q.c) ∧ lenR (restGo i lot ln f zs) + lenZ zs = ln - f := by
  intro zs
  induction zs with
  | nil =>
    intro f hf _ _
    rw [restGo]
    by_cases h : f < ln
    · rw [if_pos h]
      refine ⟨fun q hq => ?_, List.pairwise_singleton .., by simp [lenR, lenZ]⟩
      rw [List.mem_singleton.1 hq]
      refine ⟨rfl, rfl, Int.le_refl _, h, Int.le_refl _, fun z hz => by cases hz⟩
    · rw [if_neg h]
      exact ⟨fun q hq => (by cases hq), List.Pairwise.nil, by simp [lenR, lenZ]; omega⟩
  | cons z l ih =>
    intro f hf ha hz
    have h1 := hz z (List.mem_cons_self ..)
    have ha' := List.pairwise_cons.1 ha
    obtain ⟨k1, k2, k3⟩ := ih (f := z.y) h1.2.2 ha'.2 (fun y hy => by have := hz y (List.mem_cons_of_mem _ hy); have := ha'.1 y hy; omega)
    rw [restGo]
    have hrest : ∀ q ∈ restGo i lot ln z.y l, q.a = i ∧ q.b = lot ∧ f ≤ q.c ∧ q.c < q.d ∧ q.d ≤ ln ∧ ∀ y ∈ z :: l, ¬ (q.c < y.y ∧ y.x < q.d) := by
      intro q hq
      obtain ⟨m1, m2, m3, m4, m5, m6⟩ := k1 q hq
      refine ⟨m1, m2, by omega, m4, m5, fun y hy => ?_⟩
      rcases List.mem_cons.1 hy with rfl | hy
      · omega
      · exact m6 y hy
    by_cases h : f < z.x
    · rw [if_pos h]
      refine ⟨fun q hq => ?_, ?_, ?_⟩
      · rcases List.mem_append.1 hq with hq | hq
        · rw [List.mem_singleton.1 hq]
          refine ⟨rfl, rfl, Int.le_refl _, h, by show z.x ≤ ln; omega, fun y hy => ?_⟩
          show ¬ (f < y.y ∧ y.x < z.x)
          rcases List.mem_cons.1 hy with rfl | hy
          · omega
          · have := ha'.1 y hy; omega
        · exact hrest q hq
      · rw [List.singleton_append, List.pairwise_cons]
        refine ⟨fun q hq => ?_, k2⟩
        have := (k1 q hq).2.2.1
        show z.x ≤ q.c
        omega
      · rw [lenR_append, lenZ_cons]
        have : lenR [(⟨i, lot, f, z.x⟩ : Qd)] = z.x - f := by simp [lenR]
        omega
    · rw [if_neg h, List.nil_append]
      refine ⟨hrest, k2, ?_⟩
      rw [lenZ_cons]
      omega
def zTot (parts : List Qd) : List Rl → Nat → Int
  | [], _ => 0
  | _ :: rs, i => lenZ (zonesOf i parts) + zTot parts rs (i + 1)
def lnSum (rs : List Rl) : Int := (rs.map (·.ln)).sum
theorem restsFrom_spec {parts : List Qd} : ∀ {rs : List Rl} {ts : List Int} {i : Nat}, ts.length = rs.length →
    (∀ j (hj : j < rs.length), 0 ≤ rs[j].ln ∧ Disj (zonesOf ((i + j : Nat) : Int) parts) ∧ ∀ z ∈ zonesOf ((i + j : Nat) : Int) parts, 0 ≤ z.x ∧ z.x < z.y ∧ z.y ≤ (rs[j]).ln) →
    (∀ q ∈ restsFrom parts rs ts i, ∃ j, ∃ (hj : j < rs.length) (hj' : j < ts.length), q.a = ((i + j : Nat) : Int) ∧ q.b = ts[j] ∧ 0 ≤ q.c ∧ q.c < q.d ∧ q.d ≤ rs[j].ln ∧ ∀ z ∈ zonesOf q.a parts, ¬ (q.c < z.y ∧ z.x < q.d)) ∧
    ((restsFrom parts rs ts i).Pairwise fun p q => ¬ (p.a = q.a ∧ p.c < q.d ∧ q.c < p.d)) ∧ lenR (restsFrom parts rs ts i) + zTot parts rs i = lnSum rs := by
  intro rs
  induction rs with
  | nil =>
    intro ts i _ _
    have : restsFrom parts [] ts i = [] := by cases ts <;> rfl
    rw [this]
    exact ⟨fun q hq => (by cases hq), List.Pairwise.nil, rfl⟩
  | cons r rs ih =>
    intro ts i hl h
    cases ts with
    | nil => simp at hl
    | cons t ts =>
      obtain ⟨a1, a2, a3⟩ := h 0 (by simp)
      simp only [Nat.add_zero, List.getElem_cons_zero] at a1 a2 a3
      have hperm := sortZ_perm (zonesOf (i : Int) parts)
      have hm : ∀ z ∈ sortZ (zonesOf (i : Int) parts), 0 ≤ z.x ∧ z.x < z.y ∧ z.y ≤ r.ln := fun z hz => a3 z (hperm.subset hz)
      have hap : Apt (sortZ (zonesOf (i : Int) parts)) := (apt_disj (fun z hz => (hm z hz).2.1) (sortZ_sorted _)).1 (disj_perm hperm.symm a2)
      obtain ⟨k1, k2, k3⟩ := restGo_spec (i := (i : Int)) (lot := t) a1 hap hm
      obtain ⟨m1, m2, m3⟩ := ih (ts := ts) (i := i + 1) (by simpa using hl) (fun j hj => by
        have := h (j + 1) (by simpa using hj)
        rw [show i + (j + 1) = i + 1 + j by omega] at this
        simpa using this)
      rw [restsFrom]
      have hA : ∀ q ∈ restGo (i : Int) t r.ln 0 (sortZ (zonesOf (i : Int) parts)), q.a = (i : Int) := fun q hq => (k1 q hq).1
      refine ⟨fun q hq => ?_, ?_, ?_⟩
      · rcases List.mem_append.1 hq with hq | hq
        · obtain ⟨c1, c2, c3, c4, c5, c6⟩ := k1 q hq
          exact ⟨0, by simp, by simp, by simpa using c1, by simpa using c2, c3, c4, by simpa using c5, fun z hz => c6 z (hperm.symm.subset (by rw [c1] at hz; exact hz))⟩
        · obtain ⟨j, hj, hj', c1, c2, c3, c4, c5, c6⟩ := m1 q hq
          exact ⟨j + 1, by simpa using hj, by simpa using hj', by rw [c1]; congr 1; omega, by simpa using c2, c3, c4, by simpa using c5, c6⟩
      · rw [List.pairwise_append]
        refine ⟨k2.imp fun hab k => by omega, m2, fun p hp q hq k => ?_⟩
        obtain ⟨j, _, _, c1, _⟩ := m1 q hq
        have := hA p hp
        omega
      · rw [lenR_append, zTot]
        have e1 : lnSum (r :: rs) = r.ln + lnSum rs := by simp [lnSum]
        have e2 := lenZ_perm hperm
        omega
theorem zTot_cons (p : Qd) (parts : List Qd) : ∀ (rs : List Rl) (i : Nat), zTot (p :: parts) rs i = (if (i : Int) ≤ p.a ∧ p.a < ((i + rs.length : Nat) : Int) then p.c - p.b else 0) + zTot parts rs i := by
  intro rs
  induction rs with
  | nil => intro i; rw [zTot, zTot, if_neg (by simp; try omega)]; rfl
  | cons r rs ih =>
    intro i
    rw [zTot, zTot, ih, zones_cons]
    by_cases h : p.a = (i : Int)
    · rw [if_pos h, if_neg (by simp; omega), if_pos (by simp; omega), List.singleton_append, lenZ_cons]
      simp only []
      omega
    · rw [if_neg h, List.nil_append]
      by_cases h2 : ((i + 1 : Nat) : Int) ≤ p.a ∧ p.a < ((i + 1 + rs.length : Nat) : Int)
      · rw [if_pos h2, if_pos (by simp; omega)]; omega
      · rw [if_neg h2, if_neg (by simp; omega)]; omega
theorem zTot_all {rs : List Rl} : ∀ {parts : List Qd}, (∀ p ∈ parts, 0 ≤ p.a ∧ p.a < (rs.length : Int)) → zTot parts rs 0 = lenQ parts := by
  intro parts
  induction parts with
  | nil =>
    intro _
    have : ∀ (rs : List Rl) (i : Nat), zTot [] rs i = 0 := by
      intro rs
      induction rs with
      | nil => intro i; rfl
      | cons r rs ih => intro i; rw [zTot, ih]; rfl
    rw [this]; rfl
  | cons p parts ih =>
    intro h
    have hp := h p (List.mem_cons_self ..)
    rw [zTot_cons, ih (fun q hq => h q (List.mem_cons_of_mem _ hq)), if_pos (by simp; omega)]
    simp [lenQ]
def restPart (q : Qd) : Qd := ⟨q.a, q.c, q.d, 0⟩
theorem lenQ_rest (l : List Qd) : lenQ (l.map restPart) = lenR l := by
  unfold lenQ lenR
  rw [List.map_map]
  rfl
/-- Parts and rests together are the rolls, no cloth twice. -/
theorem once_all {rs : List Rl} {lots : List Int} {parts : List Qd} (hl : lots.length = rs.length) (hp : ∀ p ∈ parts, clothB p rs = true) (h2 : NoTwice parts) (hln : ∀ r ∈ rs, 0 ≤ r.ln) :
    (∀ q ∈ restsFrom parts rs lots 0, 0 ≤ q.a ∧ q.a < (rs.length : Int) ∧ q.b = gL lots q.a.toNat ∧ 0 ≤ q.c ∧ q.c < q.d ∧ q.d ≤ (grl rs q.a.toNat).ln) ∧
    NoTwice (parts ++ (restsFrom parts rs lots 0).map restPart) ∧ lenQ (parts ++ (restsFrom parts rs lots 0).map restPart) = lnSum rs := by
  have hcl : ∀ p ∈ parts, 0 ≤ p.a ∧ p.a < (rs.length : Int) ∧ 0 ≤ p.b ∧ p.b < p.c ∧ p.c ≤ (grl rs p.a.toNat).ln := fun p hq => by
    have h := hp p hq
    unfold clothB at h
    simp only [Bool.and_eq_true, decide_eq_true_eq] at h
    exact ⟨h.1, h.2.1, h.2.2.1, h.2.2.2.1, h.2.2.2.2⟩
  obtain ⟨m1, m2, m3⟩ := restsFrom_spec (parts := parts) (rs := rs) (ts := lots) (i := 0) hl (fun j hj => by
    refine ⟨hln _ (List.getElem_mem hj), noTwice_disj h2 _, fun z hz => ?_⟩
    obtain ⟨q, hq, h3, rfl⟩ := zones_mem.1 hz
    have := hcl q hq
    rw [h3] at this
    simp only [Nat.zero_add, Int.toNat_natCast] at this
    rw [grl_eq hj] at this
    exact ⟨this.2.2.1, this.2.2.2.1, this.2.2.2.2⟩)
  refine ⟨fun q hq => ?_, ?_, ?_⟩
  · obtain ⟨j, hj, hj', c1, c2, c3, c4, c5, _⟩ := m1 q hq
    rw [Nat.zero_add] at c1
    have e : q.a.toNat = j := by omega
    rw [e, grl_eq hj, gL_eq hj']
    exact ⟨by omega, by omega, c2, c3, c4, c5⟩
  · unfold NoTwice
    rw [List.pairwise_append]
    refine ⟨h2, ?_, fun p hp' q hq k => ?_⟩
    · rw [List.pairwise_map]
      exact m2.imp fun hab k => hab ⟨k.1, k.2.1, k.2.2⟩
    · obtain ⟨r, hr, rfl⟩ := List.mem_map.1 hq
      obtain ⟨j, hj, hj', c1, c2, c3, c4, c5, c6⟩ := m1 r hr
      exact c6 ⟨p.b, p.c⟩ (zones_mem.2 ⟨p, hp', k.1, rfl⟩) ⟨k.2.2, k.2.1⟩
  · rw [lenQ_append, lenQ_rest]
    have := zTot_all (rs := rs) (parts := parts) (fun p hq => ⟨(hcl p hq).1, (hcl p hq).2.1⟩)
    omega

/- Joints. -/
/- Changed lays. -/
/- Less plies. -/
theorem sum_toNat : ∀ {pl : List Int}, (∀ n ∈ pl, 0 ≤ n) → (pl.map fun n => (n.toNat : Int)).sum = pl.sum := by
  intro pl
  induction pl with
  | nil => intro _; rfl
  | cons n pl ih =>
    intro h
    have := h n (List.mem_cons_self ..)
    rw [List.map_cons, List.sum_cons, List.sum_cons, ih (fun m hm => h m (List.mem_cons_of_mem _ hm))]
    omega
theorem spread_of {len wd : Int} {polys : List (List Pt)} {rs : List Rl} {lots plies : List Int} {ys : List Pl} (hc : chkClothR len wd polys rs lots.length = 0) (hp : chkPliesR lots plies = 0) (h : lotsGo len wd polys rs lots plies 0 = some ys) :
    spreadR len wd polys rs lots plies = (ys, restsFrom (allQ ys) rs lots 0, 0) := by
  have hk := lots_ok hc hp h
  unfold spreadR
  rw [if_neg (by simpa using hc), if_neg (by simpa using hp), h]
  simp only []
  rw [hk.rests]; rfl
theorem chkPlies_lots {lots plies : List Int} (h : chkPliesR lots plies = 0) : lotsBad lots = false ∧ pliesGo 0 plies = 0 := by
  unfold chkPliesR at h
  split at h
  · cases h
  · rename_i h1; exact ⟨by simpa using h1, h⟩
/- One more roll. -/
/- Enough rolls. -/
end Go.Proofs.Ytehfpjlcbhimkaa
