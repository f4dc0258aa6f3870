/-
  triangle.Split at every list of points.
-/
import Derived.Test.YtolddfapanabbaaSplit
import Derived.Test.YtolddfapanabbaaCornNe
namespace Go.Proofs.Ytolddfapanabbaa
open Go.RowKit
set_option linter.unusedSimpArgs false
set_option linter.unusedVariables false

/-- What triangle.Split returns: the triangles and the error. -/
def splitR (ps : List Pt) : List (List Pt) × Int :=
  if checkI ps = 0 then (match splitOf ps with | some ts => (ts, 0) | none => ([], 11)) else ([], checkI ps)
def SplitPost2 (r : List (List Pt) × Int) (w : World) (e : Ending) (w' : World) : Prop :=
  ∃ A c, e = .returned (.tuple #[.slice A r.1.length c, .int .i64 r.2]) ∧ r.1.length ≤ c ∧ Polys w' A r.1 ∧ Later w w'

set_option maxHeartbeats 1000000 in
theorem polygon_Normal_err (A : Option Addr) (c : Nat) (ps : List Pt) (w : World) (hn : ps.length ≤ 1099511627776) (hcap : ps.length ≤ c) (hp : Pts w A ps) (hok : checkI ps ≠ 0) :
    Calls Try.prog 78 #[.slice A ps.length c] w (Ret (.tuple #[.slice none 0 0, .int .i64 (checkI ps)]) w) := by
  have hC := polygon_Check A c ps w hn hcap hp
  generalize checkI ps = e0 at *
  have h0 : (e0 != 0) = true := by simpa using hok
  have HC := Lib.hid hC
  clear hC hok
  go_enter Try.func78, Try.ntmps78
  go_wp2_with (first | (go_at_call 46; refine HC.out.mono ?_; rintro e w1 ⟨rfl, hb1⟩))
  go_ret2
  exact ⟨rfl, hb1⟩

set_option maxHeartbeats 1000000 in
theorem triangle_Split_err (A : Option Addr) (c : Nat) (ps : List Pt) (w : World) (hn : ps.length ≤ 1099511627776) (hcap : ps.length ≤ c) (hp : Pts w A ps) (hok : checkI ps ≠ 0) :
    Calls Try.prog 47 #[.slice A ps.length c] w (Ret (.tuple #[.slice none 0 0, .int .i64 (checkI ps)]) w) := by
  have hC := polygon_Normal_err A c ps w hn hcap hp hok
  generalize checkI ps = e0 at *
  have h0 : (e0 != 0) = true := by simpa using hok
  have HC := Lib.hid hC
  clear hC hok
  go_enter Try.func47, Try.ntmps47
  go_wp2_with (first | (go_at_call 78; refine HC.out.mono ?_; rintro e w1 ⟨rfl, hb1⟩))
  go_ret2
  exact ⟨rfl, hb1⟩

theorem polys_nil (w : World) (A : Option Addr) : Polys w A [] := fun h => by simp at h

theorem triangle_Split (A : Option Addr) (c : Nat) (ps : List Pt) (w : World) (hn : ps.length ≤ 1099511627776) (hcap : ps.length ≤ c) (hp : Pts w A ps) :
    Calls Try.prog 47 #[.slice A ps.length c] w (SplitPost2 (splitR ps) w) := by
  unfold splitR
  by_cases hok : checkI ps = 0
  · rw [if_pos hok]
    have hne := corners_ne hok
    have hlen := normal_len ps
    have hle := corners_le ps
    have h40 := (simple_of_check hok).2.2
    refine (triangle_Split_ok A c ps w hcap hp hok hne (by omega) (by omega) (normal_in hok)).mono ?_
    intro e w' h
    cases hs : splitOf ps with
    | none =>
      rw [hs] at h
      exact ⟨none, 0, h.1, Nat.le_refl _, polys_nil _ _, h.2⟩
    | some ts =>
      rw [hs] at h
      exact h
  · rw [if_neg hok]
    refine (triangle_Split_err A c ps w hn hcap hp hok).mono ?_
    intro e w' h
    exact ⟨none, 0, h.1, Nat.le_refl _, polys_nil _ _, h.2⟩

theorem eraseIdx_all {Q : Pt → Prop} {l : List Pt} {i : Nat} (h : ∀ p ∈ l, Q p) : ∀ p ∈ l.eraseIdx i, Q p := fun p hp => h p (List.mem_of_mem_eraseIdx hp)
theorem splitGo_all {Q : Pt → Prop} (h0 : Q ⟨0, 0⟩) : ∀ f l acc ts, (∀ p ∈ l, Q p) → (∀ t ∈ acc, ∀ p ∈ t, Q p) → splitGo f l acc = some ts → ∀ t ∈ ts, ∀ p ∈ t, Q p := by
  have last : ∀ (l : List Pt) (acc ts : List (List Pt)), (∀ p ∈ l, Q p) → (∀ t ∈ acc, ∀ p ∈ t, Q p) → some (acc ++ [l]) = some ts → ∀ t ∈ ts, ∀ p ∈ t, Q p := by
    intro l acc ts hl ha he t ht
    cases he
    rcases List.mem_append.1 ht with ht | ht
    · exact ha t ht
    · rw [List.mem_singleton.1 ht]; exact hl
  intro f
  induction f with
  | zero => intro l acc ts hl ha he; exact last l acc ts hl ha he
  | succ f ih =>
    intro l acc ts hl ha he
    rw [splitGo] at he
    split at he
    · exact last l acc ts hl ha he
    · split at he
      · exact ih _ _ _ (eraseIdx_all hl) ha he
      · split at he
        · refine ih _ _ _ (eraseIdx_all hl) ?_ he
          intro t ht
          rcases List.mem_append.1 ht with ht | ht
          · exact ha t ht
          · rw [List.mem_singleton.1 ht]
            intro p hp
            simp only [triOf, List.mem_cons, List.not_mem_nil, or_false] at hp
            rcases hp with rfl | rfl | rfl <;> exact gp_all h0 hl _
        · cases he
theorem splitGo_len : ∀ f l acc ts, l.length ≤ 40 → (∀ t ∈ acc, t.length ≤ 40) → splitGo f l acc = some ts → ∀ t ∈ ts, t.length ≤ 40 := by
  have last : ∀ (l : List Pt) (acc ts : List (List Pt)), l.length ≤ 40 → (∀ t ∈ acc, t.length ≤ 40) → some (acc ++ [l]) = some ts → ∀ t ∈ ts, t.length ≤ 40 := by
    intro l acc ts hl ha he t ht
    cases he
    rcases List.mem_append.1 ht with ht | ht
    · exact ha t ht
    · rw [List.mem_singleton.1 ht]; exact hl
  have el : ∀ (l : List Pt) (i : Nat), l.length ≤ 40 → (l.eraseIdx i).length ≤ 40 := by
    intro l i h
    rw [List.length_eraseIdx]
    split <;> omega
  intro f
  induction f with
  | zero => intro l acc ts hl ha he; exact last l acc ts hl ha he
  | succ f ih =>
    intro l acc ts hl ha he
    rw [splitGo] at he
    split at he
    · exact last l acc ts hl ha he
    · split at he
      · exact ih _ _ _ (el _ _ hl) ha he
      · split at he
        · refine ih _ _ _ (el _ _ hl) ?_ he
          intro t ht
          rcases List.mem_append.1 ht with ht | ht
          · exact ha t ht
          · rw [List.mem_singleton.1 ht]; simp [triOf]
        · cases he
theorem splitR_sm (ps : List Pt) : ∀ t ∈ (splitR ps).1, AllSm t ∧ t.length ≤ 40 := by
  unfold splitR
  by_cases hok : checkI ps = 0
  · rw [if_pos hok]
    cases hs : splitOf ps with
    | none => intro t ht; cases ht
    | some ts =>
      intro t ht
      have hin : ∀ p ∈ normalOf ps, outP p = false := by
        intro p hp
        obtain ⟨k, hk, he⟩ := List.getElem_of_mem hp
        rw [← he, ← gp_eq hk]
        exact normal_in hok k
      have hlen := normal_len ps
      have hle := corners_le ps
      have h40 := (simple_of_check hok).2.2
      have h1 := splitGo_all (Q := fun p => outP p = false) rfl _ _ _ ts hin (by intro t ht; cases ht) hs t ht
      exact ⟨fun j => out_sm (gp_all (Q := fun p => outP p = false) rfl h1 j), splitGo_len _ _ _ ts (by omega) (by intro t ht; cases ht) hs t ht⟩
  · rw [if_neg hok]
    intro t ht; cases ht

end Go.Proofs.Ytolddfapanabbaa
