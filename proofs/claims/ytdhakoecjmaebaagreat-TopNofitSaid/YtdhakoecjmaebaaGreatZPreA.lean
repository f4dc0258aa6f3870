/-
  The walk of fill.candidates.
-/
import Derived.Test.YtdhakoecjmaebaaGreatZPlaA
import Derived.Test.YtdhakoecjmaebaaGreatZAreP
namespace Go.Proofs.YtdhakoecjmaebaaGreat
open Go.RowKit Go.Lib
set_option linter.unusedSimpArgs false
set_option linter.unusedVariables false

theorem beside_mem {x0 y0 y1 : Int} {p : Pt} : ∀ {l acc : List Pt}, p ∈ beside x0 y0 y1 l acc → p ∈ acc ∨ ∃ v ∈ l, p ∈ quadP x0 y0 y1 v
  | [], acc, h => .inl h
  | v :: l, acc, h => by
    rcases beside_mem (l := l) (acc := addAll acc (quadP x0 y0 y1 v)) h with h | ⟨u, hu, h⟩
    · rw [addAll_mem] at h
      exact h.elim .inl fun h => .inr ⟨v, List.mem_cons_self .., h⟩
    · exact .inr ⟨u, List.mem_cons_of_mem _ hu, h⟩
theorem all_mem {x0 y0 y1 : Int} {t : List Pt} {p : Pt} : ∀ {placed : List (List Pt)} {acc : List Pt}, p ∈ allBeside x0 y0 y1 t placed acc → p ∈ acc ∨ ∃ q ∈ placed, ∃ v ∈ spotsR q t, p ∈ quadP x0 y0 y1 v
  | [], acc, h => .inl h
  | q :: placed, acc, h => by
    rcases all_mem (placed := placed) (acc := beside x0 y0 y1 (spotsR q t) acc) h with h | ⟨u, hu, h⟩
    · rcases beside_mem h with h | ⟨v, hv, h⟩
      · exact .inl h
      · exact .inr ⟨q, List.mem_cons_self .., v, hv, h⟩
    · exact .inr ⟨u, List.mem_cons_of_mem _ hu, h⟩
theorem all_len {x0 y0 y1 : Int} {t : List Pt} : ∀ {placed : List (List Pt)} {acc : List Pt}, (∀ q ∈ placed, (spotsR q t).length ≤ 3528) → (allBeside x0 y0 y1 t placed acc).length ≤ acc.length + 14112 * placed.length
  | [], acc, _ => Nat.le_refl _
  | q :: placed, acc, h => by
    have h1 := all_len (x0 := x0) (y0 := y0) (y1 := y1) (placed := placed) (acc := beside x0 y0 y1 (spotsR q t) acc) fun u hu => h u (List.mem_cons_of_mem _ hu)
    have h2 := beside_len x0 y0 y1 (spotsR q t) acc
    have h3 := h q (List.mem_cons_self ..)
    show (allBeside x0 y0 y1 t placed (beside x0 y0 y1 (spotsR q t) acc)).length ≤ _
    rw [List.length_cons]
    omega
theorem places_len {bw : Int} {t : List Pt} {placed : List (List Pt)} (nt : t.length ≤ 6) (np : ∀ q ∈ placed, q.length ≤ 6) (nl : placed.length ≤ 3) : (placesR bw t placed).length ≤ 42338 := by
  rw [places_all]
  have h1 := all_len (x0 := -(loOf t).x) (y0 := -(loOf t).y) (y1 := bw - (loOf t).y - ((hiOf t).y - (loOf t).y)) (t := t) (placed := placed) (acc := addAll [] [⟨-(loOf t).x, -(loOf t).y⟩, ⟨-(loOf t).x, bw - (loOf t).y - ((hiOf t).y - (loOf t).y)⟩]) fun q hq => spots_len (np q hq) nt
  have h2 := addAll_len [⟨-(loOf t).x, -(loOf t).y⟩, ⟨-(loOf t).x, bw - (loOf t).y - ((hiOf t).y - (loOf t).y)⟩] []
  simp only [List.length_nil, List.length_cons] at h2
  omega
theorem places_near {bw : Int} {t : List Pt} {placed : List (List Pt)} (kt : checkI t = 0) (hb : 1 ≤ bw ∧ bw ≤ 1048576) : ∀ p ∈ placesR bw t placed, NearP 4194304 p := by
  intro p hp
  rw [places_all] at hp
  have hlo := loOf_near kt
  have hhi := hiOf_near kt
  unfold NearP at *
  rcases all_mem hp with h | ⟨q, _, v, hv, h⟩
  · rw [addAll_mem] at h
    simp only [List.mem_cons, List.not_mem_nil, or_false, false_or] at h
    rcases h with rfl | rfl <;> (try simp only []) <;> omega
  · have hvn := spots_near v hv
    unfold NearP at hvn
    unfold quadP at h
    simp only [List.mem_cons, List.not_mem_nil, or_false] at h
    rcases h with rfl | rfl | rfl | rfl <;> (try simp only []) <;> omega
theorem kept_next {b : Bd} {s : Sh} {f : Bool} {q : Int} {l : List Pt} {k : Nat} (h : k < l.length) : keptR b s f q (l.take (k + 1)) = match settleR b.rx b.ry s f q l[k] with | some a => addAll (keptR b s f q (l.take k)) [a] | none => keptR b s f q (l.take k) := by
  unfold keptR
  rw [List.take_add_one, List.getElem?_eq_getElem h, List.foldl_append]
  rfl
set_option maxHeartbeats 8000000 in
set_option maxRecDepth 100000 in
theorem fill_candidates (b : Bd) (s : Sh) (f : Bool) (q : Int) (T P : Option Addr) (ct cp : Nat) (t : List Pt) (placed : List (List Pt)) (w : World) (hct : t.length ≤ ct) (hT : Pts w T t) (hP : Polys w P placed) (kt : checkI t = 0) (kp : ∀ q ∈ placed, checkI q = 0) (nt : t.length ≤ 6) (np : ∀ q ∈ placed, q.length ≤ 6) (nl : placed.length ≤ 3) (hb : 1 ≤ b.w ∧ b.w ≤ 1048576) :
    Calls Tryz.prog 51 #[b.agg, s.agg, .agg #[.bool f, .int .i64 q], .slice T t.length ct, .slice P placed.length cp] w (SpotsPost (candR b s f q t placed) w) := by
  have HP := Lib.hid (fun W (hW : Later w W) => fill_places b T P ct cp t placed W hct (hT.later hW) (hP.later hW) kt kp nt np nl hb)
  have hlen := places_len (bw := b.w) nt np nl
  have hnear := places_near (placed := placed) kt hb
  have HR := Lib.hid (show candR b s f q t placed = sortP (keptR b s f q (placesR b.w t placed)) from rfl)
  have HK := Lib.hid (fun (l : List Pt) k (h : k < l.length) => kept_next (b := b) (s := s) (f := f) (q := q) h)
  have HS := Lib.hid (fun p (hp : NearP 4194304 p) W => fill_settle b.rx b.ry s f q p W hp)
  have HN := Lib.hid (fun p a (h : settleR b.rx b.ry s f q p = some a) (hp : NearP 4194304 p) => settle_near h hp)
  have HK0 := Lib.hid (show keptR b s f q [] = [] from rfl)
  unfold SpotsPost at HP
  generalize placesR b.w t placed = L at *
  generalize candR b s f q t placed = R at *
  generalize keptR b s f q = kp_ at *
  have Hnear := Lib.hid hnear
  clear hnear kt kp np
  obtain ⟨bl, bw, brx, bry⟩ := b
  obtain ⟨spa, spc, sps, sgr, smt, sax, say⟩ := s
  unfold Bd.agg Sh.agg at *
  simp only [] at *
  generalize settleR brx bry ⟨spa, spc, sps, sgr, smt, sax, say⟩ f q = st at *
  go_enter Tryz.func51, Tryz.ntmps51
  go_upto_region 1 with fail
  refine name_world (fun W1 hW1 => ?_)
  have hl1 : Later w W1 := by rw [hW1]; exact (by repeat' (with_reducible first | exact Later.refl _ | assumption | refine Later.drew ?_ | refine Later.drewN ?_ _ | refine Later.alloc ?_ _ | refine Later.put ?_ (by omega) _ | refine Later.trans ?_ (by assumption)))
  have B0 : Blk W1 w.heap.size 25 #[.int .i64 bl, .int .i64 bw, .int .i64 brx, .int .i64 bry] := by rw [hW1]; exact (by repeat' (with_reducible first | assumption | (refine Blk.newAt ?_; simp; done) | refine Blk.alloc ?_ _ | refine Blk.drew ?_ | refine Blk.drewN ?_ _ | refine Blk.later ?_ (by assumption)))
  have B1 : Blk W1 (w.heap.size + 1) 31 #[.slice spa sps.length spc, .int .i64 sgr, .bool smt, .int .i64 sax, .int .i64 say] := by rw [hW1]; exact (by repeat' (with_reducible first | assumption | (refine Blk.newAt ?_; simp; done) | refine Blk.alloc ?_ _ | refine Blk.drew ?_ | refine Blk.drewN ?_ _ | refine Blk.later ?_ (by assumption)))
  have B2 : Blk W1 (w.heap.size + 1 + 1) 42 #[.bool f, .int .i64 q] := by rw [hW1]; exact (by repeat' (with_reducible first | assumption | (refine Blk.newAt ?_; simp; done) | refine Blk.alloc ?_ _ | refine Blk.drew ?_ | refine Blk.drewN ?_ _ | refine Blk.later ?_ (by assumption)))
  clear hW1
  have k0 : W1.cell? ⟨w.heap.size, 0, none⟩ = some (.int .i64 bl) := B0.cell 0
  have k1 : W1.cell? ⟨w.heap.size, 1, none⟩ = some (.int .i64 bw) := B0.cell 1
  have k2 : W1.cell? ⟨w.heap.size, 2, none⟩ = some (.int .i64 brx) := B0.cell 2
  have k3 : W1.cell? ⟨w.heap.size, 3, none⟩ = some (.int .i64 bry) := B0.cell 3
  have z0 := B0.lt
  go_upto_region 4 with (go_at_call 88; (with_reducible refine (HP.out _ hl1).mono ?_); rintro e w2 ⟨v2, rfl, ho2, hb2⟩)
  obtain ⟨A2, c2, rfl, _, _, p2⟩ := ho2.pts
  have hl2 : Later w w2 := hl1.trans hb2
  have C0 := B0.later hb2
  have C1 := B1.later hb2
  have C2 := B2.later hb2
  clear k0 k1 k2 k3 z0 B0 B1 B2 hb2 ho2
  generalize w.heap.size = g0 at C0 C1 C2 ⊢
  go_upto_region 5 with fail
  refine name_world (fun W4 hW4 => ?_)
  have hl24 : Later w2 W4 := by rw [hW4]; exact (by repeat' (with_reducible first | exact Later.refl _ | assumption | refine Later.drew ?_ | refine Later.drewN ?_ _ | refine Later.alloc ?_ _ | refine Later.put ?_ (by omega) _ | refine Later.trans ?_ (by assumption)))
  have hBag0 : Blk W4 w2.heap.size 163 #[.map none, .slice none 0 0] := by rw [hW4]; exact (by repeat' (with_reducible first | assumption | (refine Blk.newAt ?_; simp; done) | refine Blk.alloc ?_ _ | refine Blk.drew ?_ | refine Blk.drewN ?_ _ | refine Blk.later ?_ (by assumption)))
  clear hW4
  have hB4 := Lib.hid (show Bag W4 w2.heap.size [] (fun i => w2.heap.size ≤ i ∧ i < W4.heap.size) none (.slice none 0 0) from ⟨hBag0, World.ownsRow_nil _ _ _ _, fun _ => rfl, fun m e => (by cases e), ⟨Nat.le_refl _, hBag0.lt⟩, fun k e => by cases e⟩)
  clear hBag0
  have hgz : w2.heap.size ≤ w2.heap.size := Nat.le_refl _
  go_upto_region 6 with fail
  generalize hge : w2.heap.size = g at hB4 hgz ⊢
  have Hge := Lib.hid hge
  clear hge hgz
  go_loopw [31] (fun iv wr => ∃ (k : Nat) (acc : List Pt) (o : Option Nat) (v : Value), k ≤ L.length ∧ iv = .int .i64 k ∧ Bag wr g acc (fun i => g ≤ i ∧ i < wr.heap.size) o v ∧ Hid (acc = kp_ (L.take k)) ∧ acc.length ≤ k ∧ Later w2 wr) (fun iv _ => L.length - (intOf iv).toNat)
  case atStart => exact ⟨0, [], none, .slice none 0 0, by omega, rfl, hB4.out, Lib.hid (by rw [List.take_zero, HK0.out]), Nat.le_refl _, hl24⟩
  case round =>
    clear hB4 hl24
    obtain ⟨k, acc, o, v, hk, rfl, hB, Hac, hal, hbq⟩ := hrel
    have HBk := Lib.hid hB
    clear hB
    have hzg : g ≤ wr.heap.size := by rw [← Hge.out]; exact hbq.size
    by_cases hlt : k < L.length
    · obtain ⟨b2, o3, rfl, x1, x2⟩ := p2.at_ hlt
      have x1 := hbq.cell x1
      have x2 := hbq.cell x2
      have Hn2 := Lib.hid (HK.out L k hlt)
      have hpn := Hnear.out _ (List.getElem_mem hlt)
      have HSp := Lib.hid (HS.out _ hpn)
      have HNp := Lib.hid (fun a h => HN.out _ a h hpn)
      generalize L[k] = p at *
      obtain ⟨px, py⟩ := p
      unfold NearP at hpn
      simp only [] at x1 x2 hpn HSp
      have zb := World.block_lt_of_cell? _ _ x1
      go_upto_region 8 with fail
      refine name_world (fun Wp hWp => ?_)
      have hbp : Later wr Wp := by rw [hWp]; exact (by repeat' (with_reducible first | exact Later.refl _ | assumption | refine Later.drew ?_ | refine Later.drewN ?_ _ | refine Later.alloc ?_ _ | refine Later.put ?_ (by omega) _ | refine Later.trans ?_ (by assumption)))
      have Dp : Blk Wp wr.heap.size 29 #[.int .i64 px, .int .i64 py] := by rw [hWp]; exact (by repeat' (with_reducible first | assumption | (refine Blk.newAt ?_; simp; done) | refine Blk.alloc ?_ _ | refine Blk.drew ?_ | refine Blk.drewN ?_ _ | refine Blk.later ?_ (by assumption)))
      clear hWp x1 x2 zb
      have D0 := C0.later (hbq.trans hbp)
      have D1 := C1.later (hbq.trans hbp)
      have D2 := C2.later (hbq.trans hbp)
      have k0 : Wp.cell? ⟨wr.heap.size, 0, none⟩ = some (.int .i64 px) := Dp.cell 0
      have k1 : Wp.cell? ⟨wr.heap.size, 1, none⟩ = some (.int .i64 py) := Dp.cell 1
      have zp := Dp.lt
      have k2 : Wp.cell? ⟨g0, 2, none⟩ = some (.int .i64 brx) := D0.cell 2
      have k3 : Wp.cell? ⟨g0, 3, none⟩ = some (.int .i64 bry) := D0.cell 3
      have y0 : Wp.cell? ⟨g0 + 1, 0, none⟩ = some (.slice spa sps.length spc) := D1.cell 0
      have y1 : Wp.cell? ⟨g0 + 1, 1, none⟩ = some (.int .i64 sgr) := D1.cell 1
      have y2 : Wp.cell? ⟨g0 + 1, 2, none⟩ = some (.bool smt) := D1.cell 2
      have y3 : Wp.cell? ⟨g0 + 1, 3, none⟩ = some (.int .i64 sax) := D1.cell 3
      have y4 : Wp.cell? ⟨g0 + 1, 4, none⟩ = some (.int .i64 say) := D1.cell 4
      have u0 : Wp.cell? ⟨g0 + 1 + 1, 0, none⟩ = some (.bool f) := D2.cell 0
      have u1 : Wp.cell? ⟨g0 + 1 + 1, 1, none⟩ = some (.int .i64 q) := D2.cell 1
      have z0 := D0.lt
      have z1 := D1.lt
      have z2 := D2.lt
      rcases hst : st ⟨px, py⟩ with _ | a
      · rw [hst] at HSp
        have Hn3 := Lib.hid (show kp_ (L.take (k + 1)) = acc by rw [Hn2.out, hst, Hac.out])
        unfold optV at HSp
        go_upto_region 9 with (go_at_call 89; (with_reducible refine (HSp.out _).mono ?_); rintro e w6 ⟨rfl, hb6⟩)
        refine name_world (fun W7 hW7 => ?_)
        have hl67 : Later w6 W7 := by rw [hW7]; exact (by repeat' (with_reducible first | exact Later.refl _ | assumption | refine Later.drew ?_ | refine Later.drewN ?_ _ | refine Later.alloc ?_ _ | refine Later.put ?_ (by omega) _ | refine Later.trans ?_ (by assumption)))
        clear hW7
        have hl7 : Later wr W7 := (hbp.trans hb6).trans hl67
        have HB7 := Lib.hid ((HBk.out.later hl7).mono (G := fun i => g ≤ i ∧ i < W7.heap.size) (fun i hi => by have := hl7.size; omega))
        go_wp2
        go_roundw
        case rel => exact ⟨k + 1, acc, o, v, by omega, by go_num, HB7.out, Lib.hid Hn3.out.symm, by omega, hbq.trans hl7⟩
        case measure => simp [intOf]; omega
      · rw [hst] at HSp
        have Hn3 := Lib.hid (show kp_ (L.take (k + 1)) = addAll acc [a] by rw [Hn2.out, hst, Hac.out])
        have han := HNp.out a hst
        obtain ⟨ax, ay⟩ := a
        unfold NearP at han
        unfold optV at HSp
        simp only [] at HSp han
        go_upto_region 10 with (go_at_call 89; (with_reducible refine (HSp.out _).mono ?_); rintro e w6 ⟨rfl, hb6⟩)
        refine name_world (fun W7 hW7 => ?_)
        have hl67 : Later w6 W7 := by rw [hW7]; exact (by repeat' (with_reducible first | exact Later.refl _ | assumption | refine Later.drew ?_ | refine Later.drewN ?_ _ | refine Later.alloc ?_ _ | refine Later.put ?_ (by omega) _ | refine Later.trans ?_ (by assumption)))
        have D7 : Blk W7 w6.heap.size 29 #[.int .i64 ax, .int .i64 ay] := by rw [hW7]; exact (by repeat' (with_reducible first | assumption | (refine Blk.newAt ?_; simp; done) | refine Blk.alloc ?_ _ | refine Blk.drew ?_ | refine Blk.drewN ?_ _ | refine Blk.later ?_ (by assumption)))
        clear hW7
        have hl7 : Later wr W7 := (hbp.trans hb6).trans hl67
        clear k0 k1 k2 k3 zp y0 y1 y2 y3 y4 u0 u1 z0 z1 z2
        have k0 : W7.cell? ⟨w6.heap.size, 0, none⟩ = some (.int .i64 ax) := D7.cell 0
        have k1 : W7.cell? ⟨w6.heap.size, 1, none⟩ = some (.int .i64 ay) := D7.cell 1
        have z7 := D7.lt
        have hz67 : w6.heap.size ≤ W7.heap.size := hl67.size
        generalize w6.heap.size = g7 at *
        have HA2 := Lib.hid (fun (W : World) (hW : Later W7 W) (hp : Pts W (some ⟨W7.heap.size, 0, none⟩) [⟨ax, ay⟩]) (hz : W7.heap.size < W.heap.size) =>
            bag_addn g acc [⟨ax, ay⟩] (fun i => g ≤ i ∧ i < wr.heap.size) o v (some ⟨W7.heap.size, 0, none⟩) 1 1 W ((HBk.out.later hl7).later hW) (fun b o e => by cases e; exact ⟨fun hh => by have := hl7.size; omega, hz⟩) hp (by
              intro p hp
              rw [List.mem_singleton.1 hp]
              unfold I64P
              simp only []
              omega) (by simp; omega) rfl)
        have hlw7 := hl7.size
        go_upto_region 11 with (go_at_call 90; (with_reducible refine (HA2.out _ (by repeat' (with_reducible first | exact Later.refl _ | assumption | refine Later.drew ?_ | refine Later.drewN ?_ _ | refine Later.alloc ?_ _ | refine Later.put ?_ (by omega) _ | refine Later.trans ?_ (by assumption))) (by exact pts_of_blk (Blk.new _ _ _) rfl) (by simp)).mono ?_); rintro e w8 ⟨rfl, o8, v8, hB8, hK8⟩)
        have hlX : Later w2 (W7.alloc (.cells #[.int .i64 ax, .int .i64 ay] 29)) := (hbq.trans hl7).alloc _
        have hl8 : Later w2 w8 := Later.keep hlX hK8 (fun i hi => by have := hi.1; rw [Hge.out]; omega)
        have HB8 := Lib.hid (hB8.cut.mono (G := fun i => g ≤ i ∧ i < w8.heap.size) (fun i hi => by
            obtain ⟨hi, hi2⟩ := hi
            rcases hi with hi | hi
            · omega
            · simp at hi; omega))
        have hal8 : (addAll acc [(⟨ax, ay⟩ : Pt)]).length ≤ acc.length + 1 := addAll_len [⟨ax, ay⟩] acc
        clear hB8 hK8 hlX k0 k1 z7 HA2
        go_wp2
        go_roundw
        case rel => exact ⟨k + 1, _, o8, v8, by omega, by go_num, HB8.out, Lib.hid Hn3.out.symm, by omega, hl8⟩
        case measure => simp [intOf]; omega
    · have hke : L.take k = L := List.take_of_length_le (by omega)
      rw [hke] at Hac
      have HSo := sort_any 92 eg_fill fill_cmp 0 v acc wr HBk.out.row (by omega)
      rw [show sortP acc = R by rw [HR.out, Hac.out]] at HSo
      have HSo := Lib.hid HSo
      have g1 : wr.cell? ⟨g, 1, none⟩ = some v := HBk.out.blk.cell 1
      have zg := HBk.out.blk.lt
      have hw2 := hl2.size
      go_upto_region 13 with (go_at_call 91; (with_reducible refine HSo.out.mono ?_); rintro e w6 ⟨rfl, ho6, hg6⟩)
      have D6 : Blk w6 g 163 #[.map o, v] := HBk.out.blk.grown hg6 (fun e => HBk.out.row_ne e.symm)
      have Ho6 := Lib.hid ho6
      have hl6 : Later w w6 := Later.grown (hl2.trans hbq) hg6 (fun i e => by have := (HBk.out.rowF i e).1; have := Hge.out; omega)
      clear ho6 hg6 g1 zg
      have g1 : w6.cell? ⟨g, 1, none⟩ = some v := D6.cell 1
      have zg := D6.lt
      go_wp2
      go_ret2
      exact ⟨v, rfl, own_raise Ho6.out (fun i e => by have := (HBk.out.rowF i e).1; have := Hge.out; omega), hl6⟩
end Go.Proofs.YtdhakoecjmaebaaGreat
/-
  The walk of fill.prepare, where nothing fails.
-/
namespace Go.Proofs.YtdhakoecjmaebaaGreat
open Go.RowKit Go.Lib
set_option linter.unusedSimpArgs false
set_option linter.unusedVariables false

theorem polys_ok {l : List Sh} : ∀ {puts : List Pu}, (polysR l puts).2 = 0 → (polysR l puts).1 = puts.map (fun p => (polyR l p).1) ∧ ∀ p ∈ puts, (polyR l p).2 = 0
  | [], _ => ⟨rfl, by simp⟩
  | p :: ps, h => by
    rw [polysR] at h ⊢
    split at h
    · rename_i h1; exact absurd h h1
    · split at h
      · rename_i h1; exact absurd h h1
      · rename_i h1 h2
        obtain ⟨k1, k2⟩ := polys_ok (l := l) (puts := ps) (by simpa using h2)
        rw [if_neg h1, if_neg h2]
        refine ⟨by rw [List.map_cons, k1], fun x hx => ?_⟩
        rcases List.mem_cons.1 hx with e | e
        · rw [e]; simpa using h1
        · exact k2 x e
theorem polys_of {l : List Sh} : ∀ {puts : List Pu}, (∀ p ∈ puts, (polyR l p).2 = 0) → (polysR l puts).2 = 0
  | [], _ => rfl
  | p :: ps, h => by
    rw [polysR, if_neg (by simpa using h p (List.mem_cons_self ..)), if_neg (by simpa using polys_of (l := l) (puts := ps) fun x hx => h x (List.mem_cons_of_mem _ hx))]
theorem mapP_next {β : Type} {f : Pu → β} {b : List Pu} {k : Nat} (h : k < b.length) : (b.take (k + 1)).map f = (b.take k).map f ++ [f b[k]] := by
  rw [List.take_add_one, List.getElem?_eq_getElem h, List.map_append]
  rfl
@[go_sem] theorem build_put2 (s : Int) (f : Bool) (q : Int) (w : World) : (Instr.build 44 #[(0, .int .i64 s), (1, .agg #[.bool f, .int .i64 q])]).run Tryz.prog w = .ok (.agg #[.int .i64 s, .bool f, .int .i64 q, .int .i64 0, .int .i64 0]) w := run_build w 44 _ _ (by kernel_rfl)
def PrepPost (t : List Pt) (ps : List (List Pt)) (w : World) (e : Ending) (w' : World) : Prop := ∃ A1 c1 A2 c2, e = .returned (.tuple #[.slice A1 t.length c1, .slice A2 ps.length c2, .int .i64 0]) ∧ t.length ≤ c1 ∧ Pts w' A1 t ∧ Polys w' A2 ps ∧ Later w w'
set_option maxHeartbeats 8000000 in
set_option maxRecDepth 100000 in
theorem fill_prepare (b : Bd) (C P : Option Addr) (cc pc : Nat) (l : List Sh) (puts : List Pu) (sh : Int) (f : Bool) (q : Int) (w : World) (hs : Shapes w C l) (hl : l.length ≤ 65536) (hlen : ∀ s ∈ l, s.ps.length ≤ 1099511627776) (hpu : Puts w P puts) (hpn : puts.length ≤ 60)
    (hbl : 1 ≤ b.l ∧ b.l ≤ 1048576) (hbw : 1 ≤ b.w ∧ b.w ≤ 1048576) (h0 : (polyR l ⟨sh, f, q, 0, 0⟩).2 = 0) (h1 : (polysR l puts).2 = 0) :
    Calls Tryz.prog 49 #[b.agg, .slice C l.length cc, .slice P puts.length pc, .int .i64 sh, .agg #[.bool f, .int .i64 q]] w (PrepPost (polyR l ⟨sh, f, q, 0, 0⟩).1 (polysR l puts).1 w) := by
  obtain ⟨hp1, hp2⟩ := polys_ok h1
  rw [hp1]
  have H0 := Lib.hid (fun W (hW : Later w W) => place_Poly_fresh C cc l ⟨sh, f, q, 0, 0⟩ W (hs.later hW) hl hlen h0)
  have H1 := Lib.hid (fun k (hk : k < puts.length) W (hW : Later w W) => place_Poly_fresh C cc l puts[k] W (hs.later hW) hl hlen (hp2 _ (List.getElem_mem hk)))
  have H3 := Lib.hid (fun k (hk : k < puts.length) => check_len (polyR_ok (hp2 _ (List.getElem_mem hk))).2.2)
  unfold Pu.agg PolyF at H0 H1
  simp only [] at H0
  clear hs hlen h0 h1 hp1 hp2
  generalize (polyR l ⟨sh, f, q, 0, 0⟩).1 = t at *
  obtain ⟨bl, bw, brx, bry⟩ := b
  unfold Bd.agg
  simp only [] at hbl hbw ⊢
  have d1 : ¬ bl < 1 := by omega
  have d2 : ¬ bl > 1048576 := by omega
  have d3 : ¬ bw < 1 := by omega
  have d4 : ¬ bw > 1048576 := by omega
  go_enter Tryz.func49, Tryz.ntmps49
  go_upto_region 3 with fail
  refine name_world (fun W1 hW1 => ?_)
  have hl1 : Later w W1 := by rw [hW1]; exact (by repeat' (with_reducible first | exact Later.refl _ | assumption | refine Later.drew ?_ | refine Later.drewN ?_ _ | refine Later.alloc ?_ _ | refine Later.put ?_ (by omega) _ | refine Later.trans ?_ (by assumption)))
  have B1 : Blk W1 (w.heap.size + 1) 42 #[.bool f, .int .i64 q] := by rw [hW1]; exact (by repeat' (with_reducible first | assumption | (refine Blk.newAt ?_; simp; done) | refine Blk.alloc ?_ _ | refine Blk.drew ?_ | refine Blk.drewN ?_ _ | refine Blk.later ?_ (by assumption)))
  clear hW1
  have k0 : W1.cell? ⟨w.heap.size + 1, 0, none⟩ = some (.bool f) := B1.cell 0
  have k1 : W1.cell? ⟨w.heap.size + 1, 1, none⟩ = some (.int .i64 q) := B1.cell 1
  have z1 := B1.lt
  go_upto_region 6 with (go_at_call 9; (with_reducible refine (H0.out _ hl1).mono ?_); rintro e w2 ⟨g1, c1, rfl, hg1, hc1, hm1, p1, hb2⟩)
  have hl2 : Later w w2 := hl1.trans hb2
  have Hp1 := Lib.hid (show Pts w2 (some ⟨g1, 0, none⟩) t from fun _ => ⟨g1, 0, rfl, p1⟩)
  clear k0 k1 z1 B1 hb2 p1
  go_upto_region 8 with fail
  go_loopw [15, 51] (fun v iv wr => ∃ (k : Nat) (acc : List PV), k ≤ puts.length ∧ iv = .int .i64 k ∧ OwnR wr w2.heap.size 28 1 PV.cells v acc ∧ Hid (acc.map PV.ps = (puts.take k).map fun p => (polyR l p).1) ∧ Hid (Rows2 wr v acc) ∧ acc.length = k ∧ Later w2 wr) (fun _ iv _ => puts.length - (intOf iv).toNat)
  case atStart => exact ⟨0, [], by omega, rfl, World.ownsRow_nil _ _ _ _, Lib.hid rfl, Lib.hid (fun u hu => by cases hu), rfl, Later.refl _⟩
  case round =>
    obtain ⟨k, acc, hk, rfl, ho, Hac, Hrw, hal, hb⟩ := hrel
    have Ho := Lib.hid ho
    have Hal := Lib.hid hal
    clear ho hal
    by_cases hlt : k < puts.length
    · obtain ⟨b1, o1, rfl, e0, e1, e2, e3, e4, _⟩ := (hpu.later (hl2.trans hb)).at_ hlt
      have zb := World.block_lt_of_cell? _ _ e0
      have Hmn := Lib.hid (mapP_next (f := fun p => (polyR l p).1) hlt)
      have HPk := Lib.hid (fun W (hW : Later wr W) => H1.out k hlt W ((hl2.trans hb).trans hW))
      have h3 := H3.out k hlt
      generalize puts[k] = p at *
      generalize (polyR l p).1 = r at *
      obtain ⟨psh, pfl, pq, px, py⟩ := p
      simp only [] at e0 e1 e2 e3 e4 HPk
      go_upto_region 10 with fail
      refine name_world (fun Wp hWp => ?_)
      have hbp : Later wr Wp := by rw [hWp]; exact (by repeat' (with_reducible first | exact Later.refl _ | assumption | refine Later.drew ?_ | refine Later.drewN ?_ _ | refine Later.alloc ?_ _ | refine Later.put ?_ (by omega) _ | refine Later.trans ?_ (by assumption)))
      have Dp : Blk Wp wr.heap.size 44 #[.int .i64 psh, .bool pfl, .int .i64 pq, .int .i64 px, .int .i64 py] := by rw [hWp]; exact (by repeat' (with_reducible first | assumption | (refine Blk.newAt ?_; simp; done) | refine Blk.alloc ?_ _ | refine Blk.drew ?_ | refine Blk.drewN ?_ _ | refine Blk.later ?_ (by assumption)))
      clear hWp e0 e1 e2 e3 e4 zb
      have k0 : Wp.cell? ⟨wr.heap.size, 0, none⟩ = some (.int .i64 psh) := Dp.cell 0
      have k1 : Wp.cell? ⟨wr.heap.size, 1, none⟩ = some (.bool pfl) := Dp.cell 1
      have k2 : Wp.cell? ⟨wr.heap.size, 2, none⟩ = some (.int .i64 pq) := Dp.cell 2
      have k3 : Wp.cell? ⟨wr.heap.size, 3, none⟩ = some (.int .i64 px) := Dp.cell 3
      have k4 : Wp.cell? ⟨wr.heap.size, 4, none⟩ = some (.int .i64 py) := Dp.cell 4
      have zp := Dp.lt
      go_upto_region 13 with (go_at_call 9; (with_reducible refine (HPk.out _ hbp).mono ?_); rintro e w5 ⟨g5, c5, rfl, hg5, hc5, hm5, p5, hb5⟩)
      have hl5 : Later wr w5 := hbp.trans hb5
      have hl25 : Later w2 w5 := hb.trans hl5
      have Ho5 := Lib.hid (Ho.out.later hl5)
      have Hr5 := Lib.hid (Hrw.out.later hl5)
      have hg5z : g5 < w5.heap.size := World.block_lt_of_cell? _ _ (p5.get (k := 0) (by omega)).1
      have Hnew := Lib.hid (show PvOk w5 ⟨some ⟨g5, 0, none⟩, c5, r⟩ ∧ Fence u15.ownBlock w5.heap.size (some ⟨g5, 0, none⟩) from ⟨⟨hc5, hm5, fun _ => ⟨g5, 0, rfl, p5⟩⟩, fun bb oo e => by
        cases e
        refine ⟨fun q => ?_, hg5z⟩
        have h2 := (World.ownsRow.lt Ho.out g5 q.symm).2
        have h3 := hbp.size
        omega⟩)
      clear k0 k1 k2 k3 k4 zp p5 hc5 hm5
      have HSb := Lib.hid (SrcAt.blk (Blk.new w5 28 #[.slice (some ⟨g5, 0, none⟩) r.length c5]))
      go_upto_region 14 with (at_builtin; refine wpList_append_recf slt_polys pv_len pv_one rfl (.tmp 64) (.tmp 66) rfl (base := w2.heap.size) (l := acc) rfl (OwnR.alloc Ho5.out _) (ad := ⟨w5.heap.size, 0, none⟩) (c := 1) [⟨some ⟨g5, 0, none⟩, c5, r⟩] rfl HSb.out (by have := Hal.out; simp; omega) (by have := hl25.size; simp; omega) ?_; intro A8 c8 w8 ho8 hg8 hf8)
      have hr8 := rows2_app (v' := .slice A8 (acc ++ [(⟨some ⟨g5, 0, none⟩, c5, r⟩ : PV)]).length c8) (u0 := ⟨some ⟨g5, 0, none⟩, c5, r⟩) (Hr5.out.later ((Later.refl _).alloc (.cells #[.slice (some ⟨g5, 0, none⟩) r.length c5] 28))) ⟨Hnew.out.1.later ((Later.refl _).alloc _), Hnew.out.2.mono (by simp)⟩ hg8 hf8
      have hl8 : Later w2 w8 := Later.grown (hl25.alloc _) hg8 (fun g hg => (World.ownsRow.lt Ho.out g hg).1)
      have Ho8 := Lib.hid ho8
      have Hr8 := Lib.hid hr8
      clear ho8 hr8 hg8 hf8
      have hle : (acc ++ [(⟨some ⟨g5, 0, none⟩, c5, r⟩ : PV)]).length = acc.length + 1 := by simp
      rw [hle] at Ho8 Hr8
      go_wp2
      go_roundw
      case rel => exact ⟨k + 1, acc ++ [⟨some ⟨g5, 0, none⟩, c5, r⟩], by omega, by go_num, Ho8.out, Lib.hid (by rw [List.map_append, Hac.out, Hmn.out]; rfl), Hr8, by have := Hal.out; simp; omega, hl8⟩
      case measure => simp [intOf]; omega
    · have hke : puts.take k = puts := List.take_of_length_le (by omega)
      rw [hke] at Hac
      have hpv : ∀ u ∈ acc, PvOk wr u := fun u hu => (Hrw.out u hu).1
      obtain ⟨A9, c9, rfl, hc9, hm9, p9⟩ := Ho.out.polys hpv
      rw [Hac.out] at p9
      have Hp9 := Lib.hid p9
      have hle : acc.length = (puts.map fun p => (polyR l p).1).length := by rw [← Hac.out, List.length_map]
      have Hle := Lib.hid hle
      clear p9 hle
      go_wp2
      go_ret3
      exact ⟨some ⟨g1, 0, none⟩, c1, A9, c9, by rw [← Hle.out]; rfl, hc1, Hp1.out.later hb, Hp9.out, hl2.trans hb⟩
end Go.Proofs.YtdhakoecjmaebaaGreat
