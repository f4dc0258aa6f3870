/-
  The walks of garmentlaw39.rect and garmentref39.Same.
-/
import Derived.Test.YtinjdlnikhcbfaaDTab
namespace Go.Proofs.Ytinjdlnikhcbfaa
open Go.RowKit
set_option linter.unusedSimpArgs false
set_option linter.unusedVariables false

set_option maxHeartbeats 1000000 in
theorem law39_rect (x y z v : Int) (w : World) : Calls Try.prog 68 #[.int .i64 x, .int .i64 y, .int .i64 z, .int .i64 v] w (RetPts (rectPts x y z v) w) := by
  go_enter Try.func68, Try.ntmps68
  go_wp2
  go_ret
  exact ⟨some ⟨w.heap.size, 0, none⟩, 4, rfl, Nat.le_refl _, by decide, fun _ => ⟨w.heap.size, 0, rfl, pts_four (Blk.new w _ _)⟩, (by repeat' (first | exact Later.refl _ | assumption | refine Later.drew ?_ | refine Later.drewN ?_ _ | refine Later.alloc ?_ _ | refine Later.put ?_ (by omega) _ | refine Later.trans ?_ (by assumption)))⟩

def sameRow : List Bool → List Bool → Nat → Nat → Bool
  | a, b, 0, k => true
  | a, b, f + 1, k => if a.getD k false != b.getD k false then false else sameRow a b f (k + 1)
/-- The tables are equal from row k on. -/
def sameGo (a b : List (List Bool)) : Nat → Nat → Bool
  | 0, _ => true
  | f + 1, k => if (a.getD k []).length ≠ (b.getD k []).length then false else if sameRow (a.getD k []) (b.getD k []) (a.getD k []).length 0 = false then false else sameGo a b f (k + 1)
def sameB (a b : List (List Bool)) : Bool := if a.length ≠ b.length then false else sameGo a b a.length 0

theorem Tab.at_ {w : World} {A : Option Addr} {l : List (List Bool)} (h : Tab w A l) {k : Nat} (hk : k < l.length) :
    ∃ b o A' c', A = some ⟨b, o, none⟩ ∧ w.cell? ⟨b, o + k, none⟩ = some (.slice A' (l.getD k []).length c') ∧ (l.getD k []).length ≤ c' ∧
      (0 < (l.getD k []).length → ∃ b' o', A' = some ⟨b', o', none⟩ ∧ ∀ i, i < (l.getD k []).length → w.cell? ⟨b', o' + i, none⟩ = some (.bool ((l.getD k []).getD i false))) := by
  obtain ⟨b, o, e, h1⟩ := h (by omega)
  obtain ⟨v, hv, A', c', rfl, h2, h3⟩ := h1 k _ (List.getElem?_eq_getElem hk)
  have hg : l.getD k [] = l[k] := by simp [hk]
  rw [hg]
  refine ⟨b, o, A', c', e, hv, h2, fun hn => ?_⟩
  obtain ⟨b', o', e', h4⟩ := h3 hn
  refine ⟨b', o', e', fun i hi => ?_⟩
  rw [h4 i _ (List.getElem?_eq_getElem hi)]
  simp [hi]

theorem same_len {a b : List (List Bool)} {k : Nat} (h : k < a.length) (h1 : (a.getD k []).length ≠ (b.getD k []).length) : sameGo a b (a.length - k) k = false := by
  obtain ⟨f, hf⟩ : ∃ f, a.length - k = f + 1 := ⟨a.length - k - 1, by omega⟩
  rw [hf, sameGo, if_pos h1]
theorem same_row {a b : List (List Bool)} {k : Nat} (h : k < a.length) (h1 : (a.getD k []).length = (b.getD k []).length) (h2 : sameRow (a.getD k []) (b.getD k []) (a.getD k []).length 0 = false) : sameGo a b (a.length - k) k = false := by
  obtain ⟨f, hf⟩ : ∃ f, a.length - k = f + 1 := ⟨a.length - k - 1, by omega⟩
  rw [hf, sameGo, if_neg (by simpa using h1), if_pos h2]
theorem same_step {a b : List (List Bool)} {k : Nat} (h : k < a.length) (h1 : (a.getD k []).length = (b.getD k []).length) (h2 : sameRow (a.getD k []) (b.getD k []) (a.getD k []).length 0 = true) : sameGo a b (a.length - k) k = sameGo a b (a.length - (k + 1)) (k + 1) := by
  obtain ⟨f, hf⟩ : ∃ f, a.length - k = f + 1 := ⟨a.length - k - 1, by omega⟩
  rw [hf, sameGo, if_neg (by simpa using h1), if_neg (by simp only [h2]; simp), show a.length - (k + 1) = f by omega]
theorem row_ne {a b : List Bool} {n k : Nat} (h : k < n) (h1 : (a.getD k false != b.getD k false) = true) : sameRow a b (n - k) k = false := by
  obtain ⟨f, hf⟩ : ∃ f, n - k = f + 1 := ⟨n - k - 1, by omega⟩
  rw [hf, sameRow, if_pos h1]
theorem row_eq {a b : List Bool} {n k : Nat} (h : k < n) (h1 : (a.getD k false != b.getD k false) = false) : sameRow a b (n - k) k = sameRow a b (n - (k + 1)) (k + 1) := by
  obtain ⟨f, hf⟩ : ∃ f, n - k = f + 1 := ⟨n - k - 1, by omega⟩
  rw [hf, sameRow, if_neg (by simp only [h1]; simp), show n - (k + 1) = f by omega]

set_option maxHeartbeats 2000000 in
theorem ref39_Same (A B : Option Addr) (ca cb : Nat) (a b : List (List Bool)) (w : World) (ha : Tab w A a) (hb : Tab w B b) (hna : a.length ≤ 65536) (hnb : b.length ≤ 65536) (hra : ∀ k, (a.getD k []).length ≤ 65536) :
    Calls Try.prog 70 #[.slice A a.length ca, .slice B b.length cb] w (Ret (.bool (sameB a b)) w) := by
  by_cases hl : a.length = b.length
  · have Hs := Lib.hid (show sameB a b = sameGo a b a.length 0 by rw [sameB, if_neg (by simpa using hl)])
    have hlb : b.length = a.length := hl.symm
    have Hl := Lib.hid hl
    rw [hlb]
    clear hl hlb hnb
    go_enter Try.func70, Try.ntmps70
    go_wp2
    go_loopw [4, 5] (fun _ iv wr => ∃ k : Nat, k ≤ a.length ∧ iv = .int .i64 k ∧ sameB a b = sameGo a b (a.length - k) k ∧ Later w wr) (fun _ iv _ => a.length - (intOf iv).toNat)
    case atStart => exact ⟨0, by omega, rfl, Hs.out, Later.refl _⟩
    case round =>
      obtain ⟨k, hk, rfl, he, hbw⟩ := hrel
      have He := Lib.hid he
      clear he
      by_cases hlt : k < a.length
      · obtain ⟨b1, o1, A1, c1, rfl, e1, f1, g1⟩ := (ha.later hbw).at_ hlt
        obtain ⟨b2, o2, A2, c2, rfl, e2, f2, g2⟩ := (hb.later hbw).at_ (by rw [← Hl.out]; exact hlt)
        have hz1 := World.block_lt_of_cell? _ _ e1
        have hz2 := World.block_lt_of_cell? _ _ e2
        have hk0 : (0 : Int) ≤ (k : Int) := by omega
        have hk1 : (k : Int) < (a.length : Int) := by omega
        have hr := hra k
        have HL := Lib.hid (same_len (b := b) hlt)
        have HR := Lib.hid (same_row (b := b) hlt)
        have HS := Lib.hid (same_step (b := b) hlt)
        generalize a.getD k [] = ra at *
        generalize b.getD k [] = rb at *
        by_cases hlr : ra.length = rb.length
        · have Hlr := Lib.hid hlr
          have hq : rb.length = ra.length := hlr.symm
          rw [hq] at e2 f2 g2
          clear hq hlr
          go_wp2
          go_quiet (fail)
          go_wp2
          refine name_world (fun W2 hW2 => ?_)
          have hl2 : Later wr W2 := by rw [hW2]; exact (by repeat' (first | exact Later.refl _ | assumption | refine Later.drew ?_ | refine Later.drewN ?_ _ | refine Later.alloc ?_ _ | refine Later.put ?_ (by omega) _ | refine Later.trans ?_ (by assumption)))
          clear hW2
          obtain ⟨wo, rfl⟩ : ∃ wo : World, wo = wr := ⟨_, rfl⟩
          go_loopw [4, 6] (fun _ iv wq => ∃ i : Nat, i ≤ ra.length ∧ iv = .int .i64 i ∧ sameRow ra rb ra.length 0 = sameRow ra rb (ra.length - i) i ∧ Later wo wq) (fun _ iv _ => ra.length - (intOf iv).toNat)
          case atStart => exact ⟨0, by omega, rfl, rfl, hl2⟩
          case round =>
            obtain ⟨i, hi, rfl, he, hb2⟩ := hrel
            have He2 := Lib.hid he
            clear he hl2
            have k1 := hb2.cell e1
            have k2 := hb2.cell e2
            have hz1 := World.block_lt_of_cell? _ _ k1
            have hz2 := World.block_lt_of_cell? _ _ k2
            by_cases hli : i < ra.length
            · obtain ⟨b3, o3, rfl, m1⟩ := g1 (by omega)
              obtain ⟨b4, o4, rfl, m2⟩ := g2 (by omega)
              have n1 := hb2.cell (m1 i hli)
              have n2 := hb2.cell (m2 i hli)
              have hz3 := World.block_lt_of_cell? _ _ n1
              have hz4 := World.block_lt_of_cell? _ _ n2
              have hi0 : (0 : Int) ≤ (i : Int) := by omega
              have hi1 : (i : Int) < (ra.length : Int) := by omega
              have HN := Lib.hid (row_ne (a := ra) (b := rb) hli)
              have HE := Lib.hid (row_eq (a := ra) (b := rb) hli)
              generalize ra.getD i false = x at *
              generalize rb.getD i false = y at *
              clear m1 m2
              cases x <;> cases y
              · go_wp2
                go_quiet (fail)
                go_wp2
                go_roundw
                case rel => exact ⟨i + 1, by omega, by go_num, by rw [He2.out]; exact HE.out rfl, (by repeat' (first | exact Later.refl _ | assumption | refine Later.drew ?_ | refine Later.drewN ?_ _ | refine Later.alloc ?_ _ | refine Later.put ?_ (by omega) _ | refine Later.trans ?_ (by assumption)))⟩
                case measure => simp [intOf]; omega
              · go_wp2
                go_quiet (fail)
                go_wp2
                go_ret
                exact ⟨ret_bool (by rw [He.out]; exact (HR.out Hlr.out (by rw [He2.out]; exact HN.out rfl)).symm), (by repeat' (first | exact Later.refl _ | assumption | refine Later.drew ?_ | refine Later.drewN ?_ _ | refine Later.alloc ?_ _ | refine Later.put ?_ (by omega) _ | refine Later.trans ?_ (by assumption)))⟩
              · go_wp2
                go_quiet (fail)
                go_wp2
                go_ret
                exact ⟨ret_bool (by rw [He.out]; exact (HR.out Hlr.out (by rw [He2.out]; exact HN.out rfl)).symm), (by repeat' (first | exact Later.refl _ | assumption | refine Later.drew ?_ | refine Later.drewN ?_ _ | refine Later.alloc ?_ _ | refine Later.put ?_ (by omega) _ | refine Later.trans ?_ (by assumption)))⟩
              · go_wp2
                go_quiet (fail)
                go_wp2
                go_roundw
                case rel => exact ⟨i + 1, by omega, by go_num, by rw [He2.out]; exact HE.out rfl, (by repeat' (first | exact Later.refl _ | assumption | refine Later.drew ?_ | refine Later.drewN ?_ _ | refine Later.alloc ?_ _ | refine Later.put ?_ (by omega) _ | refine Later.trans ?_ (by assumption)))⟩
                case measure => simp [intOf]; omega
            · go_wp2
              go_roundw
              case rel => exact ⟨k + 1, by omega, by go_num, by rw [He.out]; exact HS.out Hlr.out (by rw [He2.out, show ra.length - i = 0 by omega]; rfl), (by repeat' (first | exact Later.refl _ | assumption | refine Later.drew ?_ | refine Later.drewN ?_ _ | refine Later.alloc ?_ _ | refine Later.put ?_ (by omega) _ | refine Later.trans ?_ (by assumption)))⟩
              case measure => simp [intOf]; omega
        · have dl : ((ra.length : Int) != (rb.length : Int)) = true := by simp; omega
          have Hlr := Lib.hid hlr
          clear hlr
          go_wp2
          go_quiet (fail)
          go_wp2
          go_ret
          exact ⟨ret_bool (by rw [He.out]; exact (HL.out Hlr.out).symm), (by repeat' (first | exact Later.refl _ | assumption | refine Later.drew ?_ | refine Later.drewN ?_ _ | refine Later.alloc ?_ _ | refine Later.put ?_ (by omega) _ | refine Later.trans ?_ (by assumption)))⟩
      · go_wp2
        go_ret
        exact ⟨ret_bool (by rw [He.out, show a.length - k = 0 by omega]; rfl), (by repeat' (first | exact Later.refl _ | assumption | refine Later.drew ?_ | refine Later.drewN ?_ _ | refine Later.alloc ?_ _ | refine Later.put ?_ (by omega) _ | refine Later.trans ?_ (by assumption)))⟩
  · have Hs := Lib.hid (show sameB a b = false by rw [sameB, if_pos hl])
    have dl : ((a.length : Int) != (b.length : Int)) = true := by simp; omega
    have dl' : (a.length != b.length) = true := by simpa using hl
    clear hl
    go_enter Try.func70, Try.ntmps70
    go_wp2
    go_ret
    exact ⟨ret_bool (by rw [Hs.out]), (by repeat' (first | exact Later.refl _ | assumption | refine Later.drew ?_ | refine Later.drewN ?_ _ | refine Later.alloc ?_ _ | refine Later.put ?_ (by omega) _ | refine Later.trans ?_ (by assumption)))⟩

end Go.Proofs.Ytinjdlnikhcbfaa
