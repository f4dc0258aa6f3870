/-
  The walks of splice: extents, back, Back, Best.
-/
import Derived.Test.YtdhakoecjmaebaaSplP
import Derived.Test.YtdhakoecjmaebaaRefN
import Derived.Test.YtdhakoecjmaebaaDTab
import Derived.Deep.DeepCutAuto
namespace Go.Proofs.Ytdhakoecjmaebaa
open Go.RowKit
set_option linter.unusedSimpArgs false
set_option linter.unusedVariables false

/-- A list of zones, or the error. -/
def ZPost (r : List Pt × Int) (w : World) (e : Ending) (w' : World) : Prop :=
  (r.2 = 0 ∧ ∃ A c, e = .returned (.tuple #[.slice A r.1.length c, .int .i64 0]) ∧ r.1.length ≤ c ∧ c ≤ maxLen ∧ Pts w' A r.1 ∧ Later w w') ∨
  (r.2 ≠ 0 ∧ e = .returned (.tuple #[.slice none 0 0, .int .i64 r.2]) ∧ Later w w')
theorem slt_zone : SlT Try.prog 98 94 2 := SlT.mk (z := .agg #[.int .i64 0, .int .i64 0]) (by_ := 16) Try.underlying98 (by kernel_rfl) (by omega) rfl (by omega)
theorem slt_ints : SlT Try.prog 24 3 1 := SlT.mk (z := .int .i64 0) (by_ := 8) Try.underlying24 (by kernel_rfl) (by omega) rfl (by omega)
theorem OwnR.zns {w : World} {base : Nat} {E : TypeId} {v : Value} {l : List Pt} (h : OwnR w base E 2 pt2 v l) : ∃ A c, v = .slice A l.length c ∧ l.length ≤ c ∧ c ≤ maxLen ∧ Pts w A l := by
  obtain ⟨A, c, e, h1, h2, h3⟩ := h.form pt2_len
  refine ⟨A, c, e, h1, h2, fun hn => ?_⟩
  obtain ⟨g, rfl, _, _, _, hx⟩ := h3 hn
  refine ⟨g, 0, rfl, fun i p hp => ⟨hx i p hp 0 _ rfl, hx i p hp 1 _ rfl⟩⟩
def i1 (n : Int) : List Value := [.int .i64 n]
theorem i1_len (n : Int) : (i1 n).length = 1 := rfl
theorem i1_one (n : Int) : ∀ u ∈ i1 n, u.oneCell' = true := by
  intro u hu
  rw [List.mem_singleton.1 hu]
  rfl
/-- A slice of that address, as long as l, reads as the numbers l. -/
def Ints (w : World) (A : Option Addr) (l : List Int) : Prop := 0 < l.length → ∃ b o, A = some ⟨b, o, none⟩ ∧ ∀ i n, l[i]? = some n → w.cell? ⟨b, o + i, none⟩ = some (.int .i64 n)
theorem Ints.later {w w' : World} {A : Option Addr} {l : List Int} (h : Ints w A l) (k : Later w w') : Ints w' A l :=
  fun hn => let ⟨b, o, e, hc⟩ := h hn; ⟨b, o, e, fun i n hi => k.cell (hc i n hi)⟩
theorem Ints.at_ {w : World} {A : Option Addr} {l : List Int} (h : Ints w A l) {k : Nat} (hk : k < l.length) : ∃ b o, A = some ⟨b, o, none⟩ ∧ w.cell? ⟨b, o + k, none⟩ = some (.int .i64 l[k]) := by
  obtain ⟨b, o, e, hc⟩ := h (by omega)
  exact ⟨b, o, e, hc k _ (List.getElem?_eq_getElem hk)⟩
theorem OwnR.ints {w : World} {base : Nat} {E : TypeId} {v : Value} {l : List Int} (h : OwnR w base E 1 i1 v l) : ∃ A c, v = .slice A l.length c ∧ l.length ≤ c ∧ c ≤ maxLen ∧ Ints w A l := by
  obtain ⟨A, c, e, h1, h2, h3⟩ := h.form i1_len
  refine ⟨A, c, e, h1, h2, fun hn => ?_⟩
  obtain ⟨g, rfl, _, _, _, hx⟩ := h3 hn
  refine ⟨g, 0, rfl, fun i p hp => ?_⟩
  have := hx i p hp 0 _ rfl
  simpa using this

theorem ext_range {len : Int} {polys : List (List Pt)} (h : len < 1 ∨ 1048576 < len) : extentsR len polys = ([], 3) := by unfold extentsR; rw [if_pos h]
theorem ext_long {len : Int} {polys : List (List Pt)} (h : ¬ (len < 1 ∨ 1048576 < len)) (h2 : 60 < polys.length) : extentsR len polys = ([], 5) := by unfold extentsR; rw [if_neg h, if_pos h2]
theorem ext_go {len : Int} {polys : List (List Pt)} (h : ¬ (len < 1 ∨ 1048576 < len)) (h2 : ¬ 60 < polys.length) : extentsR len polys = extGoZ len polys [] := by unfold extentsR; rw [if_neg h, if_neg h2]
theorem extgo_bad {len : Int} {p : List Pt} {l : List (List Pt)} {acc : List Pt} (h : checkI p ≠ 0) : extGoZ len (p :: l) acc = ([], checkI p) := by rw [extGoZ, if_pos h]
theorem extgo_out {len : Int} {p : List Pt} {l : List (List Pt)} {acc : List Pt} (h : checkI p = 0) (h2 : (loOf p).x < 0 ∨ len < (hiOf p).x) : extGoZ len (p :: l) acc = ([], 13) := by rw [extGoZ, if_neg (by simpa using h), if_pos h2]
theorem extgo_ok {len : Int} {p : List Pt} {l : List (List Pt)} {acc : List Pt} (h : checkI p = 0) (h2 : ¬ ((loOf p).x < 0 ∨ len < (hiOf p).x)) : extGoZ len (p :: l) acc = extGoZ len l (acc ++ [⟨(loOf p).x, (hiOf p).x⟩]) := by rw [extGoZ, if_neg (by simpa using h), if_neg h2]

set_option maxHeartbeats 4000000 in
set_option maxRecDepth 100000 in
theorem splice_extents (Q : Option Addr) (qc : Nat) (len : Int) (polys : List (List Pt)) (w : World) (hps : Polys w Q polys) (hpl : ∀ p ∈ polys, p.length ≤ 1099511627776) :
    Calls Try.prog 37 #[.int .i64 len, .slice Q polys.length qc] w (ZPost (extentsR len polys) w) := by
  go_enter Try.func37, Try.ntmps37
  by_cases h1 : len < 1
  · have d1 : decide (len < 1) = true := by simpa using h1
    have H := Lib.hid (ext_range (polys := polys) (.inl h1))
    go_wp2
    go_ret2
    exact .inr ⟨by rw [H.out]; decide, by rw [H.out]; rfl, Later.refl _⟩
  have d1 : decide (len < 1) = false := by simpa using h1
  by_cases h2 : 1048576 < len
  · have d2 : decide (1048576 < len) = true := by simpa using h2
    have H := Lib.hid (ext_range (polys := polys) (.inr h2))
    go_wp2
    go_ret2
    exact .inr ⟨by rw [H.out]; decide, by rw [H.out]; rfl, Later.refl _⟩
  have d2 : decide (1048576 < len) = false := by simpa using h2
  by_cases h3 : 60 < polys.length
  · have d3 : decide ((60 : Int) < (polys.length : Int)) = true := by simp; omega
    have H := Lib.hid (ext_long (len := len) (by omega) h3)
    go_wp2
    go_ret2
    exact .inr ⟨by rw [H.out]; decide, by rw [H.out]; rfl, Later.refl _⟩
  have d3 : decide ((60 : Int) < (polys.length : Int)) = false := by simp; omega
  have H := Lib.hid (ext_go (len := len) (polys := polys) (by omega) h3)
  have h60 : polys.length ≤ 60 := by omega
  go_wp2
  clear d1 d2 d3
  go_loopw [6, 22] (fun v iv wr => ∃ (k : Nat) (acc : List Pt), k ≤ polys.length ∧ acc.length = k ∧ iv = .int .i64 k ∧ extGoZ len polys [] = extGoZ len (polys.drop k) acc ∧ OwnR wr w.heap.size 94 2 pt2 v acc ∧ Later w wr) (fun _ iv _ => polys.length - (intOf iv).toNat)
  case atStart => exact ⟨0, [], by omega, rfl, rfl, rfl, World.ownsRow_nil _ _ _ _, Later.refl _⟩
  case round =>
    obtain ⟨k, acc, hk, hacl, rfl, he, ho, hb⟩ := hrel
    have He := Lib.hid he
    have Ho := Lib.hid ho
    have Hacl := Lib.hid hacl
    clear he ho hacl
    by_cases hlt : k < polys.length
    · obtain ⟨bq, oq, A', c', rfl, k1, k2, k3⟩ := (hps.later hb).at_ hlt
      have Hd := Lib.hid (drop_cons' polys k hlt)
      have hpn := hpl _ (List.getElem_mem hlt)
      generalize polys[k] = ps at *
      have hbz : bq < wr.heap.size := World.block_lt_of_cell? _ _ k1
      rcases Classical.em (checkI ps = 0) with hc | hc
      · have HB := Lib.hid (fun W (hW : Later wr W) => polygon_Box_ok A' c' ps W hpn k2 (k3.later hW) hc)
        have hsm := lo_sm (small_of_check hc)
        have Hok := Lib.hid (fun l (acc : List Pt) h => extgo_ok (len := len) (l := l) (acc := acc) hc h)
        have Hout := Lib.hid (fun l (acc : List Pt) h => extgo_out (len := len) (l := l) (acc := acc) hc h)
        clear hc
        generalize loOf ps = lo at *
        generalize hiOf ps = hi at *
        obtain ⟨lx, ly⟩ := lo
        obtain ⟨hx, hy⟩ := hi
        obtain ⟨⟨s1, s2⟩, ⟨s3, s4⟩⟩ := hsm
        unfold Sm at s1 s2 s3 s4
        simp only [] at s1 s2 s3 s4 HB Hok Hout
        by_cases hx0 : lx < 0
        · have dx0 : decide (lx < 0) = true := by simpa using hx0
          go_wp2_with (first | (go_at_call 43; (with_reducible refine (HB.out _ (Later.refl _)).mono ?_); rintro e w5 ⟨rfl, hb5⟩))
          go_ret2
          exact .inr ⟨by rw [H.out, He.out, Hd.out, Hout.out _ _ (.inl hx0)]; decide, by rw [H.out, He.out, Hd.out, Hout.out _ _ (.inl hx0)]; rfl, (by repeat' (with_reducible first | exact Later.refl _ | assumption | refine Later.drew ?_ | refine Later.drewN ?_ _ | refine Later.alloc ?_ _ | refine Later.put ?_ (by omega) _ | refine Later.trans ?_ (by assumption)))⟩
        · have dx0 : decide (lx < 0) = false := by simpa using hx0
          by_cases hx1 : len < hx
          · have dx1 : decide (len < lx + (hx - lx)) = true := by simp; omega
            go_wp2_with (first | (go_at_call 43; (with_reducible refine (HB.out _ (Later.refl _)).mono ?_); rintro e w5 ⟨rfl, hb5⟩))
            go_ret2
            exact .inr ⟨by rw [H.out, He.out, Hd.out, Hout.out _ _ (.inr hx1)]; decide, by rw [H.out, He.out, Hd.out, Hout.out _ _ (.inr hx1)]; rfl, (by repeat' (with_reducible first | exact Later.refl _ | assumption | refine Later.drew ?_ | refine Later.drewN ?_ _ | refine Later.alloc ?_ _ | refine Later.put ?_ (by omega) _ | refine Later.trans ?_ (by assumption)))⟩
          · have dx1 : decide (len < lx + (hx - lx)) = false := by simp; omega
            go_upto_region 14 with (first | (go_at_call 43; (with_reducible refine (HB.out _ (Later.refl _)).mono ?_); rintro e w5 ⟨rfl, hb5⟩))
            refine name_world (fun W9 hW9 => ?_)
            have hl9 : Later wr W9 := by rw [hW9]; exact (by repeat' (with_reducible first | exact Later.refl _ | assumption | refine Later.drew ?_ | refine Later.drewN ?_ _ | refine Later.alloc ?_ _ | refine Later.put ?_ (by omega) _ | refine Later.trans ?_ (by assumption)))
            have z0 : W9.cell? ⟨w5.heap.size, 0, none⟩ = some (.int .i64 lx) := by rw [hW9]; simp [go_sem]
            have z2 : W9.cell? ⟨w5.heap.size, 2, none⟩ = some (.int .i64 (hx - lx)) := by rw [hW9]; simp [go_sem]
            have hgz : w5.heap.size < W9.heap.size := World.block_lt_of_cell? _ _ z0
            clear hW9
            generalize w5.heap.size = g9 at *
            have HS := Lib.hid (SrcAt.blk (Blk.new W9 94 #[.int .i64 lx, .int .i64 (lx + (hx - lx))]))
            have Hsum := Lib.hid (show lx + (hx - lx) = hx by omega)
            go_wp2_with (at_builtin; refine wpList_append_rec slt_zone pt2_len pt2_one rfl (.tmp 46) (.tmp 55) rfl (base := w.heap.size) (l := acc) rfl (OwnR.alloc (Ho.out.later hl9) _) (A := some ⟨W9.heap.size, 0, none⟩) (c := 1) [⟨lx, lx + (hx - lx)⟩] rfl (by intro h; cases h) HS.out (by have := Hacl.out; simp; omega) (by have := hb.size; have := hl9.size; simp; omega) ?_; intro A3 c3' w3 ho3 hg3)
            have hl3 : Later w w3 := Later.grown ((hb.trans hl9).alloc _) hg3 (fun g hg => (World.ownsRow.lt Ho.out g hg).1)
            clear hg3
            have Ho3 := Lib.hid ho3
            clear ho3
            simp only [List.length_append, List.length_singleton] at Ho3
            go_roundw
            case rel => exact ⟨k + 1, acc ++ [⟨lx, lx + (hx - lx)⟩], by omega, by have := Hacl.out; simp; omega, by go_num, by rw [He.out, Hd.out, Hok.out _ _ (by omega), Hsum.out], Ho3.out, hl3⟩
            case measure => simp [intOf]; omega
      · have HB := Lib.hid (fun W (hW : Later wr W) => polygon_Box_err A' c' ps W hpn k2 (k3.later hW) hc)
        have Hbad := Lib.hid (fun l (acc : List Pt) => extgo_bad (len := len) (l := l) (acc := acc) hc)
        have hne : (checkI ps != 0) = true := by simpa using hc
        have Hc := Lib.hid hc
        clear hc
        generalize checkI ps = er at *
        go_wp2_with (first | (go_at_call 43; (with_reducible refine (HB.out _ (Later.refl _)).mono ?_); rintro e w5 ⟨rfl, hb5⟩))
        go_ret2
        exact .inr ⟨by rw [H.out, He.out, Hd.out, Hbad.out]; exact Hc.out, by rw [H.out, He.out, Hd.out, Hbad.out]; rfl, (by repeat' (with_reducible first | exact Later.refl _ | assumption | refine Later.drew ?_ | refine Later.drewN ?_ _ | refine Later.alloc ?_ _ | refine Later.put ?_ (by omega) _ | refine Later.trans ?_ (by assumption)))⟩
    · have hke : k = polys.length := by omega
      have H0 := Lib.hid (show extentsR len polys = (acc, 0) by rw [H.out, He.out, List.drop_eq_nil_of_le (by omega)]; rfl)
      obtain ⟨A6, c6, e6, p1, p2, p3⟩ := Ho.out.zns
      subst e6
      go_wp2
      go_ret2
      exact .inl ⟨by rw [H0.out], A6, c6, by rw [H0.out]; rfl, by rw [H0.out]; exact p1, p2, by rw [H0.out]; exact p3, hb⟩

attribute [local go_sem] ite_min ite_max
theorem back_step {hi lo : Int} {z : Pt} {l : List Pt} : (z :: l).foldl (fun lo z => if hi < z.y then min lo z.x else lo) lo = l.foldl (fun lo z => if hi < z.y then min lo z.x else lo) (if hi < z.y then min lo z.x else lo) := rfl
set_option maxHeartbeats 2000000 in
theorem splice_back (B : Option Addr) (cb : Nat) (zs : List Pt) (hi : Int) (w : World) (hz : Pts w B zs) (hn : zs.length ≤ 65536) :
    Calls Try.prog 38 #[.slice B zs.length cb, .int .i64 hi] w (Ret (.int .i64 (backR zs hi)) w) := by
  go_enter Try.func38, Try.ntmps38
  go_wp2
  go_loopw [5, 11] (fun v iv wr => ∃ (k : Nat) (lo : Int), k ≤ zs.length ∧ iv = .int .i64 k ∧ v = .int .i64 lo ∧ backR zs hi = (zs.drop k).foldl (fun lo z => if hi < z.y then min lo z.x else lo) lo ∧ Later w wr) (fun _ iv _ => zs.length - (intOf iv).toNat)
  case atStart => exact ⟨0, hi, by omega, rfl, rfl, rfl, Later.refl _⟩
  case round =>
    obtain ⟨k, lo, hk, rfl, rfl, he, hb⟩ := hrel
    have He := Lib.hid he
    clear he
    by_cases hlt : k < zs.length
    · obtain ⟨b, o, rfl, e1, e2⟩ := (hz.later hb).at_ hlt
      have hbz : b < wr.heap.size := World.block_lt_of_cell? _ _ e1
      have Hd := Lib.hid (drop_cons' zs k hlt)
      generalize zs[k] = z at *
      obtain ⟨zx, zy⟩ := z
      simp only [] at e1 e2
      by_cases h1 : hi < zy
      · have Hs := Lib.hid (show (if hi < zy then min lo zx else lo) = min lo zx by rw [if_pos h1])
        go_wp2
        go_roundw
        case rel => exact ⟨k + 1, _, by omega, by go_num, rfl, by rw [He.out, Hd.out, back_step, Hs.out], (by repeat' (with_reducible first | exact Later.refl _ | assumption | refine Later.drew ?_ | refine Later.drewN ?_ _ | refine Later.alloc ?_ _ | refine Later.put ?_ (by omega) _ | refine Later.trans ?_ (by assumption)))⟩
        case measure => simp [intOf]; omega
      · have Hs := Lib.hid (show (if hi < zy then min lo zx else lo) = lo by rw [if_neg h1])
        go_wp2
        go_roundw
        case rel => exact ⟨k + 1, _, by omega, by go_num, rfl, by rw [He.out, Hd.out, back_step, Hs.out], (by repeat' (with_reducible first | exact Later.refl _ | assumption | refine Later.drew ?_ | refine Later.drewN ?_ _ | refine Later.alloc ?_ _ | refine Later.put ?_ (by omega) _ | refine Later.trans ?_ (by assumption)))⟩
        case measure => simp [intOf]; omega
    · go_wp2
      go_ret
      exact ⟨ret_int (by rw [He.out, List.drop_eq_nil_of_le (by omega)]; rfl), hb⟩

theorem backR_bad {len hi : Int} {polys : List (List Pt)} (h : (extentsR len polys).2 ≠ 0) : BackR len polys hi = (0, (extentsR len polys).2) := by unfold BackR; rw [if_pos h]
theorem backR_range {len hi : Int} {polys : List (List Pt)} (h : (extentsR len polys).2 = 0) (h2 : hi < 0 ∨ len < hi) : BackR len polys hi = (0, 3) := by unfold BackR; rw [if_neg (by simpa using h), if_pos h2]
theorem backR_in {len hi : Int} {polys : List (List Pt)} (h : (extentsR len polys).2 = 0) (h2 : ¬ (hi < 0 ∨ len < hi)) : BackR len polys hi = (backR (extentsR len polys).1 hi, 0) := by unfold BackR; rw [if_neg (by simpa using h), if_neg h2]
theorem ext_len (len : Int) (polys : List (List Pt)) : (extentsR len polys).1.length ≤ polys.length ∧ (extentsR len polys).1.length ≤ 60 := by
  have key : ∀ (l : List (List Pt)) (acc : List Pt), (extGoZ len l acc).1.length ≤ acc.length + l.length := by
    intro l
    induction l with
    | nil => intro acc; simp [extGoZ]
    | cons p l ih =>
      intro acc
      rw [extGoZ]
      split
      · simp
      · split
        · simp
        · have := ih (acc ++ [⟨(loOf p).x, (hiOf p).x⟩])
          simp at this ⊢
          omega
  unfold extentsR
  split
  · simp
  · split
    · simp
    · have := key polys []
      simp at this
      exact ⟨this, by omega⟩

set_option maxHeartbeats 2000000 in
theorem splice_Back (Q : Option Addr) (qc : Nat) (len hi : Int) (polys : List (List Pt)) (w : World) (hps : Polys w Q polys) (hpl : ∀ p ∈ polys, p.length ≤ 1099511627776) :
    Calls Try.prog 26 #[.int .i64 len, .slice Q polys.length qc, .int .i64 hi] w (Ret (.tuple #[.int .i64 (BackR len polys hi).1, .int .i64 (BackR len polys hi).2]) w) := by
  have HE := Lib.hid (splice_extents Q qc len polys w hps hpl)
  have hl := ext_len len polys
  have Hbad := Lib.hid (backR_bad (len := len) (polys := polys) (hi := hi))
  have Hrg := Lib.hid (backR_range (len := len) (polys := polys) (hi := hi))
  have Hin := Lib.hid (backR_in (len := len) (polys := polys) (hi := hi))
  generalize extentsR len polys = E at *
  generalize BackR len polys hi = R at *
  obtain ⟨zs, er⟩ := E
  simp only [] at *
  rcases Classical.em (er = 0) with h0 | h0
  · subst h0
    by_cases h1 : hi < 0
    · have d1 : decide (hi < 0) = true := by simpa using h1
      have Hr := Lib.hid (Hrg.out rfl (.inl h1))
      go_enter Try.func26, Try.ntmps26
      go_wp2_with (first | (go_at_call 37; (with_reducible refine HE.out.mono ?_); rintro e w1 (⟨_, A1, c1, rfl, q1, q2, q3, hb1⟩ | ⟨q0, _⟩); rotate_left; exact absurd rfl q0))
      go_ret2
      exact ⟨by rw [Hr.out]; rfl, hb1⟩
    · have d1 : decide (hi < 0) = false := by simpa using h1
      by_cases h2 : len < hi
      · have d2 : decide (len < hi) = true := by simpa using h2
        have Hr := Lib.hid (Hrg.out rfl (.inr h2))
        go_enter Try.func26, Try.ntmps26
        go_wp2_with (first | (go_at_call 37; (with_reducible refine HE.out.mono ?_); rintro e w1 (⟨_, A1, c1, rfl, q1, q2, q3, hb1⟩ | ⟨q0, _⟩); rotate_left; exact absurd rfl q0))
        go_ret2
        exact ⟨by rw [Hr.out]; rfl, hb1⟩
      · have d2 : decide (len < hi) = false := by simpa using h2
        have Hr := Lib.hid (Hin.out rfl (by omega))
        go_enter Try.func26, Try.ntmps26
        go_wp2_with (first | (go_at_call 37; (with_reducible refine HE.out.mono ?_); rintro e w1 (⟨_, A1, c1, rfl, q1, q2, q3, hb1⟩ | ⟨q0, _⟩); rotate_left; exact absurd rfl q0) | (go_at_call 38; (with_reducible refine (splice_back A1 c1 zs hi _ q3 (by omega)).mono ?_); rintro e w2 ⟨rfl, hb2⟩))
        go_ret2
        exact ⟨by rw [Hr.out]; rfl, hb1.trans hb2⟩
  · have dn : (er != 0) = true := by simpa using h0
    have Hr := Lib.hid (Hbad.out h0)
    go_enter Try.func26, Try.ntmps26
    go_wp2_with (first | (go_at_call 37; (with_reducible refine HE.out.mono ?_); rintro e w1 (⟨q0, _⟩ | ⟨_, rfl, hb1⟩); exact absurd q0 h0))
    go_ret2
    exact ⟨by rw [Hr.out]; rfl, hb1⟩

end Go.Proofs.Ytdhakoecjmaebaa
