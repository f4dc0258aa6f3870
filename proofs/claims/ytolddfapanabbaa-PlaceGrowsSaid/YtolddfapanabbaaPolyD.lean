/-
  The walk of polygon.Box.
-/
import Derived.Test.YtolddfapanabbaaBlk
import Derived.BigRegion
namespace Go.Proofs.Ytolddfapanabbaa
open Go.RowKit
set_option linter.unusedSimpArgs false
set_option linter.unusedVariables false

def loP (a p : Pt) : Pt := ⟨min a.x p.x, min a.y p.y⟩
def hiP (a p : Pt) : Pt := ⟨max a.x p.x, max a.y p.y⟩
def loOf (ps : List Pt) : Pt := ps.foldl loP (gp ps 0)
def hiOf (ps : List Pt) : Pt := ps.foldl hiP (gp ps 0)

attribute [local go_sem] ite_min ite_max

theorem small_of_check {ps : List Pt} (h : checkI ps = 0) : AllSm ps := by
  unfold checkI at h
  split at h
  · cases h
  · split at h
    · cases h
    · split at h
      · cases h
      · rename_i h'
        exact small_of (by simpa using h')
theorem sm_fold_lo {l : List Pt} (hl : ∀ p ∈ l, SmP p) : ∀ a, SmP a → SmP (l.foldl loP a) := by
  induction l with
  | nil => intro a h; exact h
  | cons p l ih =>
    intro a h
    refine ih (fun q hq => hl q (List.mem_cons_of_mem _ hq)) _ ?_
    have := hl p (List.mem_cons_self ..)
    unfold SmP Sm at *
    simp only [loP]
    omega
theorem sm_fold_hi {l : List Pt} (hl : ∀ p ∈ l, SmP p) : ∀ a, SmP a → SmP (l.foldl hiP a) := by
  induction l with
  | nil => intro a h; exact h
  | cons p l ih =>
    intro a h
    refine ih (fun q hq => hl q (List.mem_cons_of_mem _ hq)) _ ?_
    have := hl p (List.mem_cons_self ..)
    unfold SmP Sm at *
    simp only [hiP]
    omega
theorem AllSm.mem {ps : List Pt} (h : AllSm ps) : ∀ p ∈ ps, SmP p := by
  intro p hp
  obtain ⟨i, hi, rfl⟩ := List.getElem_of_mem hp
  have := h i
  rwa [gp_eq hi] at this
theorem lo_sm {ps : List Pt} (h : AllSm ps) : SmP (loOf ps) ∧ SmP (hiOf ps) := ⟨sm_fold_lo h.mem _ (h 0), sm_fold_hi h.mem _ (h 0)⟩


set_option maxHeartbeats 1000000 in
theorem polygon_Box_ok (A : Option Addr) (c : Nat) (ps : List Pt) (w : World) (hn : ps.length ≤ 1099511627776) (hcap : ps.length ≤ c) (hp : Pts w A ps) (hok : checkI ps = 0) :
    Calls Try.prog 26 #[.slice A ps.length c] w (Ret (.tuple #[.agg #[.int .i64 (loOf ps).x, .int .i64 (loOf ps).y, .int .i64 ((hiOf ps).x - (loOf ps).x), .int .i64 ((hiOf ps).y - (loOf ps).y)], .int .i64 0]) w) := by
  have h3 : 0 < ps.length := by
    unfold checkI at hok
    split at hok
    · cases hok
    · split at hok
      · cases hok
      · omega
  obtain ⟨b, o, rfl, hat⟩ := hp h3
  have hC := fun W (hW : Pts W (some ⟨b, o, none⟩) ps) => polygon_Check (some ⟨b, o, none⟩) c ps W hn hcap hW
  rw [hok] at hC
  have HC := Lib.hid hC
  have Hok := Lib.hid hok
  clear hC hok
  go_enter Try.func26, Try.ntmps26
  go_wp2_with (first | (go_at_call 46; refine (HC.out _ (hp.later ((Later.refl _).alloc _))).mono ?_; rintro e w1 ⟨rfl, hb1⟩; obtain ⟨p1, p2⟩ := (hat.later (((Later.refl _).alloc _).trans hb1)).get h3; have hk1 := hb1.keeps; have hz1 := hb1.size))
  have p3 : w1.cell? ⟨b, o, none⟩ = some (.int .i64 (ps[0]).x) := by simpa using p1
  have p4 : w1.cell? ⟨b, o + 1, none⟩ = some (.int .i64 (ps[0]).y) := by simpa using p2
  have hbz : b < w1.heap.size := World.block_lt_of_cell? _ _ p3
  have r0 : w1.cell? ⟨w.heap.size, 0, none⟩ = some (.int .i64 0) := by rw [hk1 _ (by simp [go_sem])]; simp [go_sem]
  have r1 : w1.cell? ⟨w.heap.size, 1, none⟩ = some (.int .i64 0) := by rw [hk1 _ (by simp [go_sem])]; simp [go_sem]
  have r2 : w1.cell? ⟨w.heap.size, 2, none⟩ = some (.int .i64 0) := by rw [hk1 _ (by simp [go_sem])]; simp [go_sem]
  have r3 : w1.cell? ⟨w.heap.size, 3, none⟩ = some (.int .i64 0) := by rw [hk1 _ (by simp [go_sem])]; simp [go_sem]
  have f0 : ∀ k, k < 4 → w1.frozen? ⟨w.heap.size, k, none⟩ = false := by
    intro k hk
    rw [hb1.keepsF _ (by rcases k with _ | _ | _ | _ | k <;> first | (simp [go_sem]; done) | omega)]
    simp [go_sem]
  have hl : Later w w1 := ((Later.refl _).alloc _).trans hb1
  clear p1 p2 hk1 hz1 hb1
  have hsm : AllSm ps := small_of_check Hok.out
  have hlo0 := lo_sm hsm
  go_region
  · clear p3 p4 hbz
    go_wp2
    go_loopw [23] (fun i wq => ∃ (k : Nat) (lx ly hx hy : Int), k ≤ ps.length ∧ i = .int .i64 k ∧ loOf ps = (ps.drop k).foldl loP ⟨lx, ly⟩ ∧ hiOf ps = (ps.drop k).foldl hiP ⟨hx, hy⟩ ∧
        Later w1 wq ∧ Blk wq (w1.heap.size) 78 #[.int .i64 lx, .int .i64 ly] ∧ Blk wq (w1.heap.size + 1) 78 #[.int .i64 hx, .int .i64 hy]) (fun i _ => ps.length - (intOf i).toNat)
    case atStart =>
      refine ⟨0, (ps[0]).x, (ps[0]).y, (ps[0]).x, (ps[0]).y, by omega, rfl, ?_, ?_, (((Later.refl _).alloc _).alloc _).drew, ?_, ?_⟩
      · rw [loOf, gp_eq h3]; rfl
      · rw [hiOf, gp_eq h3]; rfl
      · first | exact ((Blk.new _ _ _).alloc _).drew | exact (Blk.new1 _ _ _ _).drew
      · first | exact ((Blk.new _ _ _).alloc _).drew | exact (Blk.new1 _ _ _ _).drew
    case round =>
      obtain ⟨k, lx, ly, hx, hy, hk, rfl, el, eh, hlq, hP, hQ⟩ := hrel
      have El := Lib.hid el
      have Eh := Lib.hid eh
      clear el eh
      have cP0 : wr.cell? ⟨w1.heap.size, 0, none⟩ = some (.int .i64 lx) := hP.cell 0
      have cP1 : wr.cell? ⟨w1.heap.size, 1, none⟩ = some (.int .i64 ly) := hP.cell 1
      have cQ0 : wr.cell? ⟨w1.heap.size + 1, 0, none⟩ = some (.int .i64 hx) := hQ.cell 0
      have cQ1 : wr.cell? ⟨w1.heap.size + 1, 1, none⟩ = some (.int .i64 hy) := hQ.cell 1
      have fP0 := hP.frozen 0
      have fP1 := hP.frozen 1
      have fQ0 := hQ.frozen 0
      have fQ1 := hQ.frozen 1
      have lP := hP.lt
      have lQ := hQ.lt
      by_cases hlt : k < ps.length
      · obtain ⟨e1, e2⟩ := ((hat.later hl).later hlq).get hlt
        have hbz : b < wr.heap.size := World.block_lt_of_cell? _ _ e1
        have Hd := Lib.hid (drop_cons ps k hlt)
        go_wp2
        go_roundw
        case rel =>
          exact ⟨k + 1, _, _, _, _, by omega, by go_num, by rw [El.out, Hd.out]; rfl, by rw [Eh.out, Hd.out]; rfl, ((((hlq.put (by omega) _).put (by omega) _).put (by omega) _).put (by omega) _).alloc _,
            ((hP.two.far (by omega) _).far (by omega) _).alloc _, ((hQ.far (by omega) _).far (by omega) _).two.alloc _⟩
        case measure => simp [intOf]; omega
      · have el : loOf ps = ⟨lx, ly⟩ := by rw [El.out, List.drop_eq_nil_of_le (by omega)]; rfl
        have eh : hiOf ps = ⟨hx, hy⟩ := by rw [Eh.out, List.drop_eq_nil_of_le (by omega)]; rfl
        have hs := hlo0
        rw [el, eh] at hs
        obtain ⟨⟨s1, s2⟩, s3, s4⟩ := hs
        unfold Sm at s1 s2 s3 s4
        have El' := Lib.hid el
        have Eh' := Lib.hid eh
        clear el eh
        have q0 := hlq.cell r0
        have q1 := hlq.cell r1
        have q2 := hlq.cell r2
        have q3 := hlq.cell r3
        have g0 : wr.frozen? ⟨w.heap.size, 0, none⟩ = false := by rw [hlq.keepsF _ (by rw [r0]; rfl)]; exact f0 0 (by omega)
        have g1 : wr.frozen? ⟨w.heap.size, 1, none⟩ = false := by rw [hlq.keepsF _ (by rw [r1]; rfl)]; exact f0 1 (by omega)
        have g2 : wr.frozen? ⟨w.heap.size, 2, none⟩ = false := by rw [hlq.keepsF _ (by rw [r2]; rfl)]; exact f0 2 (by omega)
        have g3 : wr.frozen? ⟨w.heap.size, 3, none⟩ = false := by rw [hlq.keepsF _ (by rw [r3]; rfl)]; exact f0 3 (by omega)
        clear f0
        go_wp2
        have hw1 : wrap64 (hx - lx) = hx - lx := IntWalk.wrap64_in _ ⟨by omega, by omega⟩
        have hw2 : wrap64 (hy - ly) = hy - ly := IntWalk.wrap64_in _ ⟨by omega, by omega⟩
        refine bodyPost_ret (v := .tuple #[.agg #[.int .i64 lx, .int .i64 ly, .int .i64 (hx - lx), .int .i64 (hy - ly)], .int .i64 0]) (by simp [results, Try.results26, go_sem, q0, q1, q2, q3, hw1, hw2]) rfl ⟨by rw [El'.out, Eh'.out], ?_⟩
        exact ((((hl.trans hlq).put (Nat.le_refl _) _).put (Nat.le_refl _) _).put (Nat.le_refl _) _).put (Nat.le_refl _) _
  · clear p3 p4 hbz
    go_wp2
    go_loopw [23] (fun i wq => ∃ (k : Nat) (lx ly hx hy : Int), k ≤ ps.length ∧ i = .int .i64 k ∧ loOf ps = (ps.drop k).foldl loP ⟨lx, ly⟩ ∧ hiOf ps = (ps.drop k).foldl hiP ⟨hx, hy⟩ ∧
        Later w1 wq ∧ Blk wq (w1.heap.size + 1) 78 #[.int .i64 lx, .int .i64 ly] ∧ Blk wq (w1.heap.size) 78 #[.int .i64 hx, .int .i64 hy]) (fun i _ => ps.length - (intOf i).toNat)
    case atStart =>
      refine ⟨0, (ps[0]).x, (ps[0]).y, (ps[0]).x, (ps[0]).y, by omega, rfl, ?_, ?_, (((Later.refl _).alloc _).alloc _).drew, ?_, ?_⟩
      · rw [loOf, gp_eq h3]; rfl
      · rw [hiOf, gp_eq h3]; rfl
      · first | exact ((Blk.new _ _ _).alloc _).drew | exact (Blk.new1 _ _ _ _).drew
      · first | exact ((Blk.new _ _ _).alloc _).drew | exact (Blk.new1 _ _ _ _).drew
    case round =>
      obtain ⟨k, lx, ly, hx, hy, hk, rfl, el, eh, hlq, hP, hQ⟩ := hrel
      have El := Lib.hid el
      have Eh := Lib.hid eh
      clear el eh
      have cP0 : wr.cell? ⟨w1.heap.size + 1, 0, none⟩ = some (.int .i64 lx) := hP.cell 0
      have cP1 : wr.cell? ⟨w1.heap.size + 1, 1, none⟩ = some (.int .i64 ly) := hP.cell 1
      have cQ0 : wr.cell? ⟨w1.heap.size, 0, none⟩ = some (.int .i64 hx) := hQ.cell 0
      have cQ1 : wr.cell? ⟨w1.heap.size, 1, none⟩ = some (.int .i64 hy) := hQ.cell 1
      have fP0 := hP.frozen 0
      have fP1 := hP.frozen 1
      have fQ0 := hQ.frozen 0
      have fQ1 := hQ.frozen 1
      have lP := hP.lt
      have lQ := hQ.lt
      by_cases hlt : k < ps.length
      · obtain ⟨e1, e2⟩ := ((hat.later hl).later hlq).get hlt
        have hbz : b < wr.heap.size := World.block_lt_of_cell? _ _ e1
        have Hd := Lib.hid (drop_cons ps k hlt)
        go_wp2
        go_roundw
        case rel =>
          exact ⟨k + 1, _, _, _, _, by omega, by go_num, by rw [El.out, Hd.out]; rfl, by rw [Eh.out, Hd.out]; rfl, ((((hlq.put (by omega) _).put (by omega) _).put (by omega) _).put (by omega) _).alloc _,
            ((hP.two.far (by omega) _).far (by omega) _).alloc _, ((hQ.far (by omega) _).far (by omega) _).two.alloc _⟩
        case measure => simp [intOf]; omega
      · have el : loOf ps = ⟨lx, ly⟩ := by rw [El.out, List.drop_eq_nil_of_le (by omega)]; rfl
        have eh : hiOf ps = ⟨hx, hy⟩ := by rw [Eh.out, List.drop_eq_nil_of_le (by omega)]; rfl
        have hs := hlo0
        rw [el, eh] at hs
        obtain ⟨⟨s1, s2⟩, s3, s4⟩ := hs
        unfold Sm at s1 s2 s3 s4
        have El' := Lib.hid el
        have Eh' := Lib.hid eh
        clear el eh
        have q0 := hlq.cell r0
        have q1 := hlq.cell r1
        have q2 := hlq.cell r2
        have q3 := hlq.cell r3
        have g0 : wr.frozen? ⟨w.heap.size, 0, none⟩ = false := by rw [hlq.keepsF _ (by rw [r0]; rfl)]; exact f0 0 (by omega)
        have g1 : wr.frozen? ⟨w.heap.size, 1, none⟩ = false := by rw [hlq.keepsF _ (by rw [r1]; rfl)]; exact f0 1 (by omega)
        have g2 : wr.frozen? ⟨w.heap.size, 2, none⟩ = false := by rw [hlq.keepsF _ (by rw [r2]; rfl)]; exact f0 2 (by omega)
        have g3 : wr.frozen? ⟨w.heap.size, 3, none⟩ = false := by rw [hlq.keepsF _ (by rw [r3]; rfl)]; exact f0 3 (by omega)
        clear f0
        go_wp2
        have hw1 : wrap64 (hx - lx) = hx - lx := IntWalk.wrap64_in _ ⟨by omega, by omega⟩
        have hw2 : wrap64 (hy - ly) = hy - ly := IntWalk.wrap64_in _ ⟨by omega, by omega⟩
        refine bodyPost_ret (v := .tuple #[.agg #[.int .i64 lx, .int .i64 ly, .int .i64 (hx - lx), .int .i64 (hy - ly)], .int .i64 0]) (by simp [results, Try.results26, go_sem, q0, q1, q2, q3, hw1, hw2]) rfl ⟨by rw [El'.out, Eh'.out], ?_⟩
        exact ((((hl.trans hlq).put (Nat.le_refl _) _).put (Nat.le_refl _) _).put (Nat.le_refl _) _).put (Nat.le_refl _) _

set_option maxHeartbeats 1000000 in
theorem polygon_Box_err (A : Option Addr) (c : Nat) (ps : List Pt) (w : World) (hn : ps.length ≤ 1099511627776) (hcap : ps.length ≤ c) (hp : Pts w A ps) (hok : checkI ps ≠ 0) :
    Calls Try.prog 26 #[.slice A ps.length c] w (Ret (.tuple #[.agg #[.int .i64 0, .int .i64 0, .int .i64 0, .int .i64 0], .int .i64 (checkI ps)]) w) := by
  have hC := fun W (hW : Pts W A ps) => polygon_Check A c ps W hn hcap hW
  generalize checkI ps = e0 at *
  have h0 : (e0 != 0) = true := by simpa using hok
  have h1 : (e0 == 0) = false := by simpa using hok
  have HC := Lib.hid hC
  have Hok := Lib.hid hok
  clear hC hok
  go_enter Try.func26, Try.ntmps26
  go_wp2_with (first | (go_at_call 46; refine (HC.out _ (hp.later ((Later.refl _).alloc _))).mono ?_; rintro e w1 ⟨rfl, hb1⟩; have hk1 := hb1.keeps; have hf1 := hb1.keepsF))
  refine bodyPost_ret (v := .tuple #[.agg #[.int .i64 0, .int .i64 0, .int .i64 0, .int .i64 0], .int .i64 e0]) (by simp [results, Try.results26, go_sem, hk1]) rfl ⟨rfl, ?_⟩
  exact ((((((Later.refl _).alloc _).trans hb1).put (Nat.le_refl _) _).put (Nat.le_refl _) _).put (Nat.le_refl _) _).put (Nat.le_refl _) _

/-- What Box returns. -/
def boxV (ps : List Pt) : Value :=
  if checkI ps = 0 then .tuple #[.agg #[.int .i64 (loOf ps).x, .int .i64 (loOf ps).y, .int .i64 ((hiOf ps).x - (loOf ps).x), .int .i64 ((hiOf ps).y - (loOf ps).y)], .int .i64 0]
  else .tuple #[.agg #[.int .i64 0, .int .i64 0, .int .i64 0, .int .i64 0], .int .i64 (checkI ps)]
theorem polygon_Box (A : Option Addr) (c : Nat) (ps : List Pt) (w : World) (hn : ps.length ≤ 1099511627776) (hcap : ps.length ≤ c) (hp : Pts w A ps) :
    Calls Try.prog 26 #[.slice A ps.length c] w (Ret (boxV ps) w) := by
  unfold boxV
  split
  · exact polygon_Box_ok A c ps w hn hcap hp (by assumption)
  · exact polygon_Box_err A c ps w hn hcap hp (by assumption)

end Go.Proofs.Ytolddfapanabbaa
