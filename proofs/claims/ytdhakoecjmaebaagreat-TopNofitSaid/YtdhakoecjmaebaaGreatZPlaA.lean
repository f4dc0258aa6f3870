/-
  The walk of fill.places.
-/
import Derived.Test.YtdhakoecjmaebaaGreatZSetA
namespace Go.Proofs.YtdhakoecjmaebaaGreat
open Go.RowKit Go.Lib
set_option linter.unusedSimpArgs false
set_option linter.unusedVariables false

theorem spots_near {a b : List Pt} : ∀ p ∈ spotsR a b, NearP 2097152 p := by
  intro p hp
  unfold spotsR at hp
  rw [spots_mem] at hp
  obtain ⟨⟨r, hr, hpr⟩, _⟩ := hp
  exact (regs_ok hr).2 p hpr
theorem spots_len {a b : List Pt} (ha : a.length ≤ 6) (hb : b.length ≤ 6) : (spotsR a b).length ≤ 3528 := by
  have h1 : (regsR a b).length ≤ 49 := Nat.le_trans (regs_cnt a b) (show (a.length + 1) * (b.length + 1) ≤ 7 * 7 from Nat.mul_le_mul (by omega) (by omega))
  have h2 := flat_bd (rs := regsR a b) (n := 72) (fun r hr => (regs_ok hr).1)
  have h3 : (regsR a b).length * 72 ≤ 49 * 72 := Nat.mul_le_mul_right _ h1
  unfold spotsR spotsOf
  rw [sort_len]
  have h4 := addAll_len ((regsR a b).flatten.filter fun v => !blockB (regsR a b) v) []
  have h5 := List.length_filter_le (fun v => !blockB (regsR a b) v) (regsR a b).flatten
  rw [List.length_nil] at h4
  omega
def quadP (x0 y0 y1 : Int) (v : Pt) : List Pt := [v, ⟨v.x, y0⟩, ⟨v.x, y1⟩, ⟨x0, v.y⟩]
def beside (x0 y0 y1 : Int) (l : List Pt) (acc : List Pt) : List Pt := l.foldl (fun acc v => addAll acc (quadP x0 y0 y1 v)) acc
theorem beside_next {x0 y0 y1 : Int} {l acc : List Pt} {k : Nat} (h : k < l.length) : beside x0 y0 y1 (l.take (k + 1)) acc = addAll (beside x0 y0 y1 (l.take k) acc) (quadP x0 y0 y1 l[k]) := by
  unfold beside
  rw [List.take_add_one, List.getElem?_eq_getElem h, List.foldl_append]
  rfl
theorem beside_len (x0 y0 y1 : Int) : ∀ (l acc : List Pt), (beside x0 y0 y1 l acc).length ≤ acc.length + 4 * l.length
  | [], acc => Nat.le_refl _
  | v :: l, acc => by
    have h1 := beside_len x0 y0 y1 l (addAll acc (quadP x0 y0 y1 v))
    have h2 := addAll_len (quadP x0 y0 y1 v) acc
    unfold beside at *
    rw [List.foldl_cons, List.length_cons]
    have : (quadP x0 y0 y1 v).length = 4 := rfl
    omega
def allBeside (x0 y0 y1 : Int) (t : List Pt) (placed : List (List Pt)) (acc : List Pt) : List Pt := placed.foldl (fun acc q => beside x0 y0 y1 (spotsR q t) acc) acc
theorem all_next {x0 y0 y1 : Int} {t acc : List Pt} {placed : List (List Pt)} {k : Nat} (h : k < placed.length) : allBeside x0 y0 y1 t (placed.take (k + 1)) acc = beside x0 y0 y1 (spotsR placed[k] t) (allBeside x0 y0 y1 t (placed.take k) acc) := by
  unfold allBeside
  rw [List.take_add_one, List.getElem?_eq_getElem h, List.foldl_append]
  rfl
theorem places_all (bw : Int) (t : List Pt) (placed : List (List Pt)) : placesR bw t placed = allBeside (-(loOf t).x) (-(loOf t).y) (bw - (loOf t).y - ((hiOf t).y - (loOf t).y)) t placed (addAll [] [⟨-(loOf t).x, -(loOf t).y⟩, ⟨-(loOf t).x, bw - (loOf t).y - ((hiOf t).y - (loOf t).y)⟩]) := by
  rw [show bw - (loOf t).y - ((hiOf t).y - (loOf t).y) = bw - (hiOf t).y by omega]
  rfl
theorem fold_lo_near {n : Int} : ∀ (l : List Pt) (a : Pt), NearP n a → (∀ p ∈ l, NearP n p) → NearP n (l.foldl loP a)
  | [], a, h, _ => h
  | p :: l, a, h, hl => fold_lo_near l (loP a p) (by
      have h2 := hl p (List.mem_cons_self ..)
      unfold NearP loP at *
      simp only [] at *
      omega) fun x hx => hl x (List.mem_cons_of_mem _ hx)
theorem fold_hi_near {n : Int} : ∀ (l : List Pt) (a : Pt), NearP n a → (∀ p ∈ l, NearP n p) → NearP n (l.foldl hiP a)
  | [], a, h, _ => h
  | p :: l, a, h, hl => fold_hi_near l (hiP a p) (by
      have h2 := hl p (List.mem_cons_self ..)
      unfold NearP hiP at *
      simp only [] at *
      omega) fun x hx => hl x (List.mem_cons_of_mem _ hx)
theorem loOf_near {t : List Pt} (h : checkI t = 0) : NearP 1048576 (loOf t) := by
  have hn := near_of_check h
  exact fold_lo_near t _ (hn _ (gp_mem (by have := check_len h; omega))) hn
theorem hiOf_near {t : List Pt} (h : checkI t = 0) : NearP 1048576 (hiOf t) := by
  have hn := near_of_check h
  exact fold_hi_near t _ (hn _ (gp_mem (by have := check_len h; omega))) hn
theorem own_raise {α : Type} {cells : α → List Value} {sz : Nat} {w : World} {b b' : Nat} {E : TypeId} {v : Value} {l : List α} (h : OwnR w b E sz cells v l) (hb : ∀ k, v.ownBlock = some k → b' ≤ k) : OwnR w b' E sz cells v l := by
  refine ⟨h.1, ?_⟩
  rcases h.2 with ⟨h1, h2⟩ | ⟨g, cap, cur, hv, hbg, r⟩
  · exact .inl ⟨h1, h2⟩
  · exact .inr ⟨g, cap, cur, hv, hb g (by rw [hv]; rfl), r⟩
theorem bag_addn (g : Nat) (l xs : List Pt) (F : Nat → Prop) (o : Option Nat) (v0 : Value) (A : Option Addr) (c n : Nat) (w : World) (hb : Bag w g l F o v0) (hA : ∀ b o, A = some ⟨b, o, none⟩ → ¬ F b ∧ b < w.heap.size) (px : Pts w A xs) (hx : ∀ p ∈ xs, I64P p) (hl : l.length + xs.length ≤ 60000) (hn : xs.length = n) :
    Calls Tryz.prog 90 #[.pointer (some ⟨g, 0, none⟩), .slice A n c] w (AddPost g l xs F w) := by
  subst hn
  exact bag_add g l xs F o v0 A c w hb hA px hx hl
theorem pts_of_blk {w : World} {g : Nat} {E : TypeId} {ps : List Pt} {cs : Array Value} (h : Blk w g E cs) (e : cs.toList = ps.flatMap pt2) : Pts w (some ⟨g, 0, none⟩) ps := fun _ => ⟨g, 0, rfl, fun i p hp => by
  have key : ∀ j u, (pt2 p)[j]? = some u → w.cell? ⟨g, 0 + i * 2 + j, none⟩ = some u := fun j u hu => by
    rw [Nat.zero_add, h.cell, ← Array.getElem?_toList, e]
    exact flat_at pt2_len hp hu
  exact ⟨key 0 _ rfl, key 1 _ rfl⟩⟩
set_option maxHeartbeats 8000000 in
set_option maxRecDepth 100000 in
theorem fill_places (b : Bd) (T P : Option Addr) (ct cp : Nat) (t : List Pt) (placed : List (List Pt)) (w : World) (hct : t.length ≤ ct) (hT : Pts w T t) (hP : Polys w P placed) (kt : checkI t = 0) (kp : ∀ q ∈ placed, checkI q = 0) (nt : t.length ≤ 6) (np : ∀ q ∈ placed, q.length ≤ 6) (nl : placed.length ≤ 3) (hb : 1 ≤ b.w ∧ b.w ≤ 1048576) :
    Calls Tryz.prog 88 #[b.agg, .slice T t.length ct, .slice P placed.length cp] w (SpotsPost (placesR b.w t placed) w) := by
  have HB := Lib.hid (fun W (hW : Later w W) => polygon_Box_ok T ct t W (by omega) hct (hT.later hW) kt)
  have HPl := Lib.hid (places_all b.w t placed)
  have HS := Lib.hid (fun k (hk : k < placed.length) (A : Option Addr) (c : Nat) W (hW : Later w W) (hc : placed[k].length ≤ c) (hp : Pts W A placed[k]) => nofit_Spots A T c ct placed[k] t W hc hct hp (hT.later hW) (kp _ (List.getElem_mem hk)) kt (by have := np _ (List.getElem_mem hk); omega) (by omega))
  have HL := Lib.hid (fun k (hk : k < placed.length) => spots_len (np _ (List.getElem_mem hk)) nt)
  have hlo := loOf_near kt
  have hhi := hiOf_near kt
  clear kt kp np
  generalize placesR b.w t placed = R at *
  generalize loOf t = lo at *
  generalize hiOf t = hi at *
  obtain ⟨lx, ly⟩ := lo
  obtain ⟨hx, hy⟩ := hi
  unfold NearP at hlo hhi
  simp only [] at HB HPl hlo hhi
  obtain ⟨bl, bw, brx, bry⟩ := b
  unfold Bd.agg
  simp only [] at HPl hb ⊢
  obtain ⟨h, hh⟩ : ∃ h, hy - ly = h := ⟨_, rfl⟩
  obtain ⟨wd, hwd⟩ : ∃ wd, hx - lx = wd := ⟨_, rfl⟩
  rw [hh] at HPl HB
  rw [hwd] at HB
  have hhb : -2097152 ≤ h ∧ h ≤ 2097152 := by omega
  clear hh hwd hhi
  go_enter Tryz.func88, Tryz.ntmps88
  go_upto_region 1 with fail
  refine name_world (fun W1 hW1 => ?_)
  have hl1 : Later w W1 := by rw [hW1]; exact (by repeat' (with_reducible first | exact Later.refl _ | assumption | refine Later.drew ?_ | refine Later.drewN ?_ _ | refine Later.alloc ?_ _ | refine Later.put ?_ (by omega) _ | refine Later.trans ?_ (by assumption)))
  have B1 : Blk W1 w.heap.size 25 #[.int .i64 bl, .int .i64 bw, .int .i64 brx, .int .i64 bry] := by rw [hW1]; exact (by repeat' (with_reducible first | assumption | (refine Blk.newAt ?_; simp; done) | refine Blk.alloc ?_ _ | refine Blk.drew ?_ | refine Blk.drewN ?_ _ | refine Blk.later ?_ (by assumption)))
  clear hW1
  go_upto_region 2 with (go_at_call 10; (with_reducible refine (HB.out _ hl1).mono ?_); rintro e w2 ⟨rfl, hb2⟩)
  refine name_world (fun W3 hW3 => ?_)
  have hb23 : Later w2 W3 := by rw [hW3]; exact (by repeat' (with_reducible first | exact Later.refl _ | assumption | refine Later.drew ?_ | refine Later.drewN ?_ _ | refine Later.alloc ?_ _ | refine Later.put ?_ (by omega) _ | refine Later.trans ?_ (by assumption)))
  have hl3 : Later w W3 := (hl1.trans hb2).trans hb23
  have B2 : Blk W3 w2.heap.size 48 #[.int .i64 lx, .int .i64 ly, .int .i64 wd, .int .i64 h] := by rw [hW3]; exact (by repeat' (with_reducible first | assumption | (refine Blk.newAt ?_; simp; done) | refine Blk.alloc ?_ _ | refine Blk.drew ?_ | refine Blk.drewN ?_ _ | refine Blk.later ?_ (by assumption)))
  have B1b := B1.later (hb2.trans hb23)
  clear hW3
  generalize w2.heap.size = g8 at *
  have k0 : W3.cell? ⟨g8, 0, none⟩ = some (.int .i64 lx) := B2.cell 0
  have k1 : W3.cell? ⟨g8, 1, none⟩ = some (.int .i64 ly) := B2.cell 1
  have k3 : W3.cell? ⟨g8, 3, none⟩ = some (.int .i64 h) := B2.cell 3
  have k4 : W3.cell? ⟨w.heap.size, 1, none⟩ = some (.int .i64 bw) := B1b.cell 1
  have z8 := B2.lt
  have z1 := B1b.lt
  go_upto_region 4 with fail
  go_quiet (fail)
  go_upto_region 7 with fail
  refine name_world (fun W6 hW6 => ?_)
  have hl6 : Later w W6 := by rw [hW6]; exact (by repeat' (with_reducible first | exact Later.refl _ | assumption | refine Later.drew ?_ | refine Later.drewN ?_ _ | refine Later.alloc ?_ _ | refine Later.put ?_ (by omega) _ | refine Later.trans ?_ (by assumption)))
  have hz3 := hl3.size
  have hBag0 : Blk W6 W3.heap.size 163 #[.map none, .slice none 0 0] := by rw [hW6]; exact (by repeat' (with_reducible first | assumption | (refine Blk.newAt ?_; simp; done) | refine Blk.alloc ?_ _ | refine Blk.drew ?_ | refine Blk.drewN ?_ _ | refine Blk.later ?_ (by assumption)))
  clear hW6 k0 k1 k3 k4 z8 z1 B2 B1b B1
  generalize W3.heap.size = g at *
  have hB6 : Bag W6 g [] (fun k => k = g) none (.slice none 0 0) := ⟨hBag0, World.ownsRow_nil _ _ _ _, fun _ => rfl, fun m e => (by cases e), rfl, fun k e => by cases e⟩
  have hzg : g < W6.heap.size := hBag0.lt
  clear hBag0
  have Hinit := Lib.hid (addAll_len [⟨-lx, -ly⟩, ⟨-lx, bw - ly - h⟩] [])
  have HA0 := Lib.hid (fun (W : World) (hW : Later W6 W) (hp : Pts W (some ⟨W6.heap.size, 0, none⟩) [⟨-lx, -ly⟩, ⟨-lx, bw - ly - h⟩]) (hz : W6.heap.size < W.heap.size) =>
    bag_addn g [] [⟨-lx, -ly⟩, ⟨-lx, bw - ly - h⟩] (fun k => k = g) none (.slice none 0 0) (some ⟨W6.heap.size, 0, none⟩) 2 2 W (hB6.later hW) (fun b o e => by cases e; exact ⟨fun (hh : W6.heap.size = g) => by omega, hz⟩) hp (by
      intro p hp
      simp only [List.mem_cons, List.not_mem_nil, or_false] at hp
      rcases hp with rfl | rfl <;> unfold I64P <;> simp only [] <;> omega) (by simp) rfl)
  go_upto_region 8 with (go_at_call 90; (with_reducible refine (HA0.out _ (by repeat' (with_reducible first | exact Later.refl _ | assumption | refine Later.drew ?_ | refine Later.drewN ?_ _ | refine Later.alloc ?_ _ | refine Later.put ?_ (by omega) _ | refine Later.trans ?_ (by assumption))) (by exact pts_of_blk (Blk.new _ _ _) rfl) (by simp)).mono ?_); rintro e w7 ⟨rfl, o7, v7, hB7, hK7⟩)
  have hl7 : Later w w7 := Later.keep (hl6.alloc _) hK7 (fun j e => by omega)
  have hB7c := hB7.cut
  have hl2 : (addAll [] [⟨-lx, -ly⟩, ⟨-lx, bw - ly - h⟩]).length ≤ 2 := by simpa using Hinit.out
  generalize addAll [] [⟨-lx, -ly⟩, ⟨-lx, bw - ly - h⟩] = init at *
  have hF7 : ∀ k, ((k = g ∨ (W6.alloc (.cells #[.int .i64 (-lx), .int .i64 (-ly), .int .i64 (-lx), .int .i64 (bw - ly - h)] 29)).heap.size ≤ k) ∧ k < w7.heap.size) → w.heap.size ≤ k ∧ k < w7.heap.size := fun k e => by
    have := hl6.size
    simp at e
    omega
  have Hb7 := Lib.hid (hB7c.mono hF7)
  have Hl7 := Lib.hid hl7
  clear hB7 hB7c hK7 hF7 hl7 hl6 hB6 Hinit
  go_upto_region 9 with fail
  go_loopw [52] (fun iv wr => ∃ (k : Nat) (acc : List Pt) (o : Option Nat) (v : Value), k ≤ placed.length ∧ iv = .int .i64 k ∧ Bag wr g acc (fun j => w.heap.size ≤ j ∧ j < wr.heap.size) o v ∧ Hid (acc = allBeside (-lx) (-ly) (bw - ly - h) t (placed.take k) init) ∧ acc.length ≤ 2 + 14112 * k ∧ Later w wr) (fun iv _ => placed.length - (intOf iv).toNat)
  case atStart => exact ⟨0, init, o7, v7, by omega, rfl, Hb7.out, Lib.hid rfl, by omega, Hl7.out⟩
  case round =>
    obtain ⟨k, acc, o, v, hk, rfl, hB, Hac, hal, hbl⟩ := hrel
    have HBk := Lib.hid hB
    clear hB
    by_cases hlt : k < placed.length
    · obtain ⟨b1, o1, A4, c4, rfl, e1, e2, e3⟩ := (hP.later hbl).at_ hlt
      have zb := World.block_lt_of_cell? _ _ e1
      have Hnx := Lib.hid (all_next (x0 := -lx) (y0 := -ly) (y1 := bw - ly - h) (t := t) (acc := init) hlt)
      have HSk := Lib.hid (fun W (hW : Later wr W) => HS.out k hlt A4 c4 W (hbl.trans hW) e2 (e3.later hW))
      have hlen := HL.out k hlt
      have Hne := Lib.hid (spots_near (a := placed[k]) (b := t))
      clear e2 e3
      generalize placed[k] = q at *
      unfold SpotsPost at HSk
      generalize spotsR q t = sp at *
      go_upto_region 14 with (go_at_call 137; (with_reducible refine (HSk.out _ (by repeat' (with_reducible first | exact Later.refl _ | assumption | refine Later.drew ?_ | refine Later.drewN ?_ _ | refine Later.alloc ?_ _ | refine Later.put ?_ (by omega) _ | refine Later.trans ?_ (by assumption)))).mono ?_); rintro e w5 ⟨v5, rfl, ho5, hb5⟩; obtain ⟨A5, c5, rfl, _, _, p5⟩ := ho5.pts)
      have hb5' : Later wr w5 := hb5
      have HA5 := Lib.hid (show ∀ b o, A5 = some ⟨b, o, none⟩ → wr.heap.size ≤ b ∧ b < w5.heap.size from fun b o e => by subst e; exact World.ownsRow.lt ho5 b rfl)
      have Hp5 := Lib.hid p5
      have hl5 : Later w w5 := hbl.trans hb5'
      obtain ⟨nk, hnk⟩ : ∃ nk, nk = wr.heap.size := ⟨_, rfl⟩
      have hnk5 : nk ≤ w5.heap.size := by rw [hnk]; exact hb5'.size
      rw [← hnk] at HA5
      have hB5 : Bag w5 g acc (fun i => w.heap.size ≤ i ∧ (i < nk ∨ w5.heap.size ≤ i) ∧ i < w5.heap.size) o v := (HBk.out.later hb5').mono (fun i hi => by omega)
      have HB5 := Lib.hid hB5
      clear ho5 p5 hB5 hnk e1 zb hb5 hb5' HBk hbl
      go_upto_region 15 with fail
      go_loopw [67] (fun jv wq => ∃ (j : Nat) (acc2 : List Pt) (o : Option Nat) (v : Value), j ≤ sp.length ∧ jv = .int .i64 j ∧ Bag wq g acc2 (fun i => w.heap.size ≤ i ∧ (i < nk ∨ w5.heap.size ≤ i) ∧ i < wq.heap.size) o v ∧ Hid (acc2 = beside (-lx) (-ly) (bw - ly - h) (sp.take j) acc) ∧ Hid (Pts wq A5 sp) ∧ Later w wq ∧ w5.heap.size ≤ wq.heap.size) (fun jv _ => sp.length - (intOf jv).toNat)
      case atStart => exact ⟨0, acc, o, v, by omega, rfl, HB5.out, Lib.hid rfl, Hp5, hl5, Nat.le_refl _⟩
      case round =>
        obtain ⟨j, acc2, o2, v2, hj, rfl, hB, Hac2, Hps, hlq, hzq⟩ := hrel
        have HBq := Lib.hid hB
        clear hB
        by_cases hjl : j < sp.length
        · obtain ⟨b2, o3, eA, x1, x2⟩ := Hps.out.at_ hjl
          have hal2 : acc2.length ≤ acc.length + 4 * j := by
            have := beside_len (-lx) (-ly) (bw - ly - h) (sp.take j) acc
            rw [← Hac2.out, List.length_take] at this
            omega
          have Hn2 := Lib.hid (beside_next (x0 := -lx) (y0 := -ly) (y1 := bw - ly - h) (acc := acc) hjl)
          have hpn := Hne.out _ (List.getElem_mem hjl)
          generalize sp[j] = p at *
          obtain ⟨px, py⟩ := p
          unfold NearP at hpn
          simp only [] at x1 x2 hpn
          subst eA
          have zb := World.block_lt_of_cell? _ _ x1
          go_upto_region 17 with fail
          refine name_world (fun Wp hWp => ?_)
          have hbp : Later wr Wp := by rw [hWp]; exact (by repeat' (with_reducible first | exact Later.refl _ | assumption | refine Later.drew ?_ | refine Later.drewN ?_ _ | refine Later.alloc ?_ _ | refine Later.put ?_ (by omega) _ | refine Later.trans ?_ (by assumption)))
          have Dp : Blk Wp wr.heap.size 29 #[.int .i64 px, .int .i64 py] := by rw [hWp]; exact (by repeat' (with_reducible first | assumption | (refine Blk.newAt ?_; simp; done) | refine Blk.alloc ?_ _ | refine Blk.drew ?_ | refine Blk.drewN ?_ _ | refine Blk.later ?_ (by assumption)))
          clear hWp x1 x2 zb
          have k0 : Wp.cell? ⟨wr.heap.size, 0, none⟩ = some (.int .i64 px) := Dp.cell 0
          have k1 : Wp.cell? ⟨wr.heap.size, 1, none⟩ = some (.int .i64 py) := Dp.cell 1
          have zp := Dp.lt
          have HA2 := Lib.hid (fun (W : World) (hW : Later Wp W) (hp : Pts W (some ⟨Wp.heap.size, 0, none⟩) (quadP (-lx) (-ly) (bw - ly - h) ⟨px, py⟩)) (hz : Wp.heap.size < W.heap.size) =>
            bag_addn g acc2 (quadP (-lx) (-ly) (bw - ly - h) ⟨px, py⟩) (fun i => w.heap.size ≤ i ∧ (i < nk ∨ w5.heap.size ≤ i) ∧ i < wr.heap.size) o2 v2 (some ⟨Wp.heap.size, 0, none⟩) 4 4 W ((HBq.out.later hbp).later hW) (fun b o e => by cases e; exact ⟨fun hh => by have := hbp.size; omega, hz⟩) hp (by
              intro p hp
              unfold quadP at hp
              simp only [List.mem_cons, List.not_mem_nil, or_false] at hp
              rcases hp with rfl | rfl | rfl | rfl <;> unfold I64P <;> simp only [] <;> omega) (by
              have : (quadP (-lx) (-ly) (bw - ly - h) ⟨px, py⟩).length = 4 := rfl
              rw [this]
              omega) rfl)
          have hgq : wr.heap.size ≤ Wp.heap.size := hbp.size
          generalize hnq : wr.heap.size = nq at *
          go_upto_region 18 with (go_at_call 90; (with_reducible refine (HA2.out _ (by repeat' (with_reducible first | exact Later.refl _ | assumption | refine Later.drew ?_ | refine Later.drewN ?_ _ | refine Later.alloc ?_ _ | refine Later.put ?_ (by omega) _ | refine Later.trans ?_ (by assumption))) (by exact pts_of_blk (Blk.new _ _ _) rfl) (by simp)).mono ?_); rintro e w6 ⟨rfl, o6, v6, hB6, hK6⟩)
          have hlX : Later w (Wp.alloc (.cells #[.int .i64 px, .int .i64 py, .int .i64 px, .int .i64 (-ly), .int .i64 px, .int .i64 (bw - ly - h), .int .i64 (-lx), .int .i64 py] 29)) := (hlq.trans hbp).alloc _
          have hl6 : Later w w6 := Later.keep hlX hK6 (fun i hi => hi.1)
          have hz6 : w5.heap.size ≤ w6.heap.size := by have := hK6.2.2.2.1; simp at this; omega
          have Hp6 := Lib.hid (((Hps.out.later hbp).later ((Later.refl _).alloc _)).kept hK6 (fun b o e => by
            have h1 := HA5.out b o e
            exact ⟨fun hh => by omega, by simp; omega⟩))
          have HB6 := Lib.hid (show Bag w6 g (addAll acc2 (quadP (-lx) (-ly) (bw - ly - h) ⟨px, py⟩)) (fun i => w.heap.size ≤ i ∧ (i < nk ∨ w5.heap.size ≤ i) ∧ i < w6.heap.size) o6 v6 from hB6.cut.mono (fun i hi => by
            have h2 := hlq.size
            obtain ⟨hi, hi2⟩ := hi
            rcases hi with hi | hi
            · omega
            · simp at hi; omega))
          clear hB6 hK6 hlX k0 k1 zp HA2
          go_wp2
          go_roundw
          case rel => exact ⟨j + 1, _, o6, v6, by omega, by go_num, HB6.out, Lib.hid (by rw [Hn2.out, ← Hac2.out]), Hp6, hl6, hz6⟩
          case measure => simp [intOf]; omega
        · have hje : sp.take j = sp := List.take_of_length_le (by omega)
          rw [hje] at Hac2
          have hal2 : acc2.length ≤ 2 + 14112 * (k + 1) := by
            have := beside_len (-lx) (-ly) (bw - ly - h) sp acc
            rw [← Hac2.out] at this
            omega
          have HBo := Lib.hid (HBq.out.mono (G := fun j => w.heap.size ≤ j ∧ j < wr.heap.size) (fun i hi => ⟨hi.1, hi.2.2⟩))
          go_wp2
          go_roundw
          case rel => exact ⟨k + 1, acc2, o2, v2, by omega, by go_num, HBo.out, Lib.hid (by rw [Hac2.out, Hnx.out, ← Hac.out]), hal2, hlq⟩
          case measure => simp [intOf]; omega
    · have hke : placed.take k = placed := List.take_of_length_le (by omega)
      rw [hke, ← HPl.out] at Hac
      have g1 : wr.cell? ⟨g, 1, none⟩ = some v := HBk.out.blk.cell 1
      have zg := HBk.out.blk.lt
      have HO := Lib.hid (HBk.out.row)
      have HF := Lib.hid HBk.out.rowF
      have hRe := Hac.out
      subst hRe
      go_wp2
      go_ret2
      exact ⟨v, rfl, own_raise HO.out (fun k e => (HF.out k e).1), hbl⟩
end Go.Proofs.YtdhakoecjmaebaaGreat
