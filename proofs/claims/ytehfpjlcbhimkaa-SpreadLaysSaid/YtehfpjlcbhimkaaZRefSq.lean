/-
  Reference 38: Spread returns what the program's Spread returns.
-/
import Derived.Test.YtehfpjlcbhimkaaZRefSp
namespace Go.Proofs.Ytehfpjlcbhimkaa
open Go.RowKit
set_option linter.unusedSimpArgs false
set_option linter.unusedVariables false

def RSpreadPost (len wd rx ry : Int) (S1 : Option Addr) (n1 c1 : Nat) (S2 : Option Addr) (n2 c2 : Nat) (R : List Pl × List Qd × Int) (w : World) (e : Ending) (w' : World) : Prop :=
  (R.2.2 = 0 ∧ ∃ P pc X xc ys, e = .returned (.tuple #[.agg #[.int .i64 len, .int .i64 wd, .int .i64 rx, .int .i64 ry, .slice S1 n1 c1, .slice S2 n2 c2, .slice P (List.length ys) pc], .slice X R.2.1.length xc, .int .i64 0]) ∧
    ys.map Py.pl = R.1 ∧ ys.length ≤ 40 ∧ Plys w' P ys ∧ Qds w' X R.2.1 ∧ (∀ y ∈ ys, y.parts.length ≤ 20) ∧ Later w w') ∨
  (R.2.2 ≠ 0 ∧ e = .returned (.tuple #[.agg #[.int .i64 0, .int .i64 0, .int .i64 0, .int .i64 0, .slice none 0 0, .slice none 0 0, .slice none 0 0], .slice none 0 0, .int .i64 R.2.2]) ∧ Later w w')
theorem rspread_err {len wd rx ry : Int} {S1 : Option Addr} {n1 c1 : Nat} {S2 : Option Addr} {n2 c2 : Nat} {R : List Pl × List Qd × Int} {x : Int} {w w' : World} (h : R = ([], [], x)) (hx : x ≠ 0) (hl : Later w w') :
    RSpreadPost len wd rx ry S1 n1 c1 S2 n2 c2 R w (.returned (.tuple #[.agg #[.int .i64 0, .int .i64 0, .int .i64 0, .int .i64 0, .slice none 0 0, .slice none 0 0, .slice none 0 0], .slice none 0 0, .int .i64 x])) w' := by
  subst h
  exact .inr ⟨hx, rfl, hl⟩
section
variable {w wr w' : World} {g5 g10 g15 : Nat} {mk : Array Value} {ly : Value → Array Value} {v : Value} {acc : List Py}
abbrev SpN (w : World) (g5 g10 g15 : Nat) (mk : Array Value) (ly : Value → Array Value) (wr : World) (v : Value) (acc : List Py) : Prop := SpM w g5 g10 g15 mk ly (.slice none 0 0) (.slice none 0 0) [] [] wr v acc
theorem SpM.ints (h : SpN w g5 g10 g15 mk ly wr v acc) {base : Nat} {u : Value} {l : List Int} (ho : OwnR wr base 3 1 i1 u l) (hb : w.heap.size ≤ base) (hg : wr.grownBy w' u.ownBlock) : SpN w g5 g10 g15 mk ly w' v acc :=
  ⟨blk_own h.km ho (by decide) hg, blk_own h.zr ho (by decide) hg, blk_own h.ly ho (by decide) hg, World.ownsRow_nil _ _ _ _, World.ownsRow_nil _ _ _ _, own_keep h.pl ho (by decide) hg,
    fun y hy => ⟨own_keep (h.pt y hy).1 ho (by decide) hg, (h.pt y hy).2⟩, Later.grown h.lt hg (fun k e => by have := (World.ownsRow.lt ho k e).1; omega)⟩
theorem own_tab {α : Type} {cells : α → List Value} {sz base g j : Nat} {E t : TypeId} {u x : Value} {l : List α} {cs : Array Value} (h : OwnR wr base E sz cells u l) (hB : Blk wr g t cs) (hE : E ≠ t) : OwnR (wr.setCell ⟨g, j, none⟩ x) base E sz cells u l :=
  h.ofBlock fun b hb => Below.heap_setCell wr ⟨g, j, none⟩ x b (fun e => by
    obtain ⟨cs', h'⟩ := own_cells h hb
    have e' : b = g := e
    subst e'
    exact hE (blk_type h' hB))
theorem blk_tab {g j b : Nat} {E t : TypeId} {x : Value} {cs cs' : Array Value} (h : Blk wr b E cs') (hB : Blk wr g t cs) (hE : E ≠ t) : Blk (wr.setCell ⟨g, j, none⟩ x) b E cs' :=
  h.past (fun e => by subst e; exact hE (blk_type h hB))
theorem SpM.tab (h : SpN w g5 g10 g15 mk ly wr v acc) {g : Nat} {cs : Array Value} (hB : Blk wr g 94 cs) (hw : w.heap.size ≤ g) (j : Nat) (x : Value) : SpN w g5 g10 g15 mk ly (wr.setCell ⟨g, j, none⟩ x) v acc :=
  ⟨blk_tab h.km hB (by decide), blk_tab h.zr hB (by decide), blk_tab h.ly hB (by decide), World.ownsRow_nil _ _ _ _, World.ownsRow_nil _ _ _ _, own_tab h.pl hB (by decide),
    fun y hy => ⟨own_tab (h.pt y hy).1 hB (by decide), (h.pt y hy).2⟩, h.lt.put hw _⟩
end
/-- The rolls of a lot so far. -/
theorem tail_hit {rs : List Rl} {lots : List Int} {lot wd : Int} {k : Nat} {acc : List Int} (hk : k < rs.length) (hk2 : k < lots.length) (h : lots[k] = lot ∧ wd ≤ (rs[k]).wd) (he : remR rs lots lot wd = tailQ rs lot acc ++ remGo lot wd (rs.drop k) (lots.drop k) k) :
    remR rs lots lot wd = tailQ rs lot (acc ++ [(k : Int)]) ++ remGo lot wd (rs.drop (k + 1)) (lots.drop (k + 1)) (k + 1) := by
  rw [he, drop_cons' rs k hk, drop_cons' lots k hk2, rem_hit h]
  unfold tailQ
  rw [List.map_append, List.append_assoc, List.map_singleton, Int.toNat_natCast, grl_eq hk]
  rfl
theorem tail_miss {rs : List Rl} {lots : List Int} {lot wd : Int} {k : Nat} {acc : List Int} (hk : k < rs.length) (hk2 : k < lots.length) (h : ¬ (lots[k] = lot ∧ wd ≤ (rs[k]).wd)) (he : remR rs lots lot wd = tailQ rs lot acc ++ remGo lot wd (rs.drop k) (lots.drop k) k) :
    remR rs lots lot wd = tailQ rs lot acc ++ remGo lot wd (rs.drop (k + 1)) (lots.drop (k + 1)) (k + 1) := by
  rw [he, drop_cons' rs k hk, drop_cons' lots k hk2, rem_miss h]

theorem rlayR_len {len : Int} {polys : List (List Pt)} : ∀ {l : List Qd} {at_ : Int} {x : List Qd × List Qd}, layR len polys l at_ = some x → x.1.length ≤ l.length := by
  intro l
  induction l with
  | nil => intro at_ x h; cases h
  | cons r l ih =>
    intro at_ x h
    rw [layR] at h
    split at h
    · cases h; simp
    · split at h
      · rw [Option.map_eq_some_iff] at h
        obtain ⟨y, hy, rfl⟩ := h
        have := ih hy
        simp only [List.length_cons]
        omega
      · have := ih h
        simp only [List.length_cons]
        omega
theorem tblQ_len {rs : List Rl} {lot : Int} {l : List Int} {u : Int} : (tblQ rs lot l u).length = l.length := by
  cases l with
  | nil => rfl
  | cons i l => simp [tblQ, tailQ]
theorem qdI_of {q : Qd} {n : Nat} (h : QdB q) (h2 : q.a < (n : Int)) (h3 : n ≤ 20) : QdI q := by
  obtain ⟨a1, a2, a3, a4, a5, a6⟩ := h
  unfold QdI I64
  omega
theorem rlayR_a {len : Int} {polys : List (List Pt)} : ∀ {l : List Qd} {at_ : Int} {x : List Qd × List Qd}, layR len polys l at_ = some x → ∀ q ∈ x.1, ∃ r ∈ l, q.a = r.a := by
  intro l
  induction l with
  | nil => intro at_ x h; cases h
  | cons r l ih =>
    intro at_ x h q hq
    rw [layR] at h
    split at h
    · cases h
      rw [List.mem_singleton.1 hq]
      exact ⟨r, List.mem_cons_self .., rfl⟩
    · split at h
      · rw [Option.map_eq_some_iff] at h
        obtain ⟨y, hy, rfl⟩ := h
        rcases List.mem_cons.1 hq with rfl | hq
        · exact ⟨r, List.mem_cons_self .., rfl⟩
        · obtain ⟨s, hs, e⟩ := ih hy q hq
          exact ⟨s, List.mem_cons_of_mem _ hs, e⟩
      · obtain ⟨s, hs, e⟩ := ih h q hq
        exact ⟨s, List.mem_cons_of_mem _ hs, e⟩
theorem tblQ_a {rs : List Rl} {lot : Int} {l : List Int} {u : Int} {q : Qd} (h : q ∈ tblQ rs lot l u) : q.a ∈ l := by
  cases l with
  | nil => cases h
  | cons i l =>
    rcases List.mem_cons.1 h with rfl | h
    · exact List.mem_cons_self ..
    · obtain ⟨j, hj, rfl⟩ := List.mem_map.1 h
      exact List.mem_cons_of_mem _ hj
theorem rspread_done {len wd rx ry : Int} {S1 : Option Addr} {n1 c1 : Nat} {S2 : Option Addr} {n2 c2 : Nat} {R : List Pl × List Qd × Int} {rq : List Qd} {Pv X : Option Addr} {pv x b0 : Nat} {w W : World} {g5 g10 g15 : Nat} {mk : Array Value} {ly : Value → Array Value} {acc : List Py} {v0 v1 v2 v3 v4 v5 v6 : Value}
    (hR : R = (acc.map Py.pl, rq, 0)) (hM : SpN w g5 g10 g15 mk ly W (.slice Pv acc.length pv) acc) (hw : w.heap.size ≤ g10)
    (ho : OwnR W b0 57 4 qd4 (.slice X rq.length x) rq) (hb : g10 < b0) (h5 : w.heap.size ≤ g5) (h40 : acc.length ≤ 40) :
    RSpreadPost len wd rx ry S1 n1 c1 S2 n2 c2 R w (.returned (.tuple #[.agg #[.int .i64 len, .int .i64 wd, .int .i64 rx, .int .i64 ry, .slice S1 n1 c1, .slice S2 n2 c2, .slice Pv acc.length pv], .slice X rq.length x, .int .i64 0])) (puts7 W g10 v0 v1 v2 v3 v4 v5 v6) := by
  have h := spread_done (len := len) (wd := wd) (rx := rx) (ry := ry) (A1 := none) (A2 := none) (d1 := 0) (d2 := 0) (sizes := []) (places := []) (v0 := v0) (v1 := v1) (v2 := v2) (v3 := v3) (v4 := v4) (v5 := v5) (v6 := v6) hR hM hw ho hb h5
  subst hR
  rcases h with ⟨_, T1, e1, T2, e2, P, pc, X', xc, ys, he, hys, _, _, _, _, _, _, _, _, hk, hl⟩ | ⟨h, _⟩
  · obtain ⟨_, _, k3, k4⟩ := hk _ (fun b _ _ => rfl)
    injection he with he
    injection he with he
    injection he with he
    have hz : ∀ {a a' : Value} {l l' : List Value}, a :: l = a' :: l' → a = a' ∧ l = l' := fun h => by injection h with h1 h2; exact ⟨h1, h2⟩
    obtain ⟨e0, he⟩ := hz he
    obtain ⟨e1', _⟩ := hz he
    injection e0 with e0
    injection e0 with e0
    obtain ⟨_, e0⟩ := hz e0
    obtain ⟨_, e0⟩ := hz e0
    obtain ⟨_, e0⟩ := hz e0
    obtain ⟨_, e0⟩ := hz e0
    obtain ⟨_, e0⟩ := hz e0
    obtain ⟨_, e0⟩ := hz e0
    obtain ⟨e0, _⟩ := hz e0
    injection e0 with f1 f2 f3
    injection e1' with g1 g2 g3
    subst f1 f3 g1 g3
    have hq := hM.pt
    refine .inl ⟨rfl, Pv, pv, X, x, ys, by rw [f2], hys, by omega, k3, k4, fun y hy => ?_, hl⟩
    have : y.parts ∈ acc.map (fun y => y.parts) := by
      have e : ys.map (fun y => y.parts) = acc.map (fun y => y.parts) := by
        have := congrArg (List.map Prod.snd) hys
        rw [List.map_map, List.map_map] at this
        exact this
      rw [← e]
      exact List.mem_map_of_mem hy
    obtain ⟨z, hz1, hz2⟩ := List.mem_map.1 this
    rw [← hz2]
    exact (hq z hz1).2.2
  · exact absurd rfl h
set_option maxHeartbeats 8000000 in
set_option maxRecDepth 100000 in
theorem ref38_Spread (Q C L S1 S2 A : Option Addr) (qc cc lc n1 c1 n2 c2 ac : Nat) (len wd rx ry : Int) (polys : List (List Pt)) (rs : List Rl) (lots plies : List Int) (w : World)
    (hps : Polys w Q polys) (hpl : ∀ p ∈ polys, p.length ≤ 1099511627776) (hr : Rolls w C rs) (hrl : rs.length ≤ 1099511627776) (hL : Ints w L lots) (hll : lots.length ≤ 65536) (hA : Ints w A plies) (hal : plies.length ≤ 65536) :
    Calls Try.prog 16 #[.agg #[.int .i64 len, .int .i64 wd, .int .i64 rx, .int .i64 ry, .slice S1 n1 c1, .slice S2 n2 c2], .slice Q polys.length qc, .slice C rs.length cc, .slice L lots.length lc, .slice A plies.length ac] w
      (RSpreadPost len wd rx ry S1 n1 c1 S2 n2 c2 (spreadR len wd polys rs lots plies) w) := by
  have HK := Lib.hid (fun W (hW : Later w W) => ref38_begun Q C L S1 S2 qc cc lc lots.length n1 c1 n2 c2 len wd rx ry polys rs W (hps.later hW) hpl (hr.later hW) hrl (by omega))
  have HP := Lib.hid (fun W (hW : Later w W) => ref38_wanted L A lc ac lots plies W (hL.later hW) (hA.later hW) hll hal)
  have Hs1 := Lib.hid (sp_cloth (len := len) (wd := wd) (polys := polys) (rs := rs) (lots := lots) (plies := plies))
  have Hs2 := Lib.hid (show chkClothR len wd polys rs lots.length = 0 → wantedB lots plies = false → spreadR len wd polys rs lots plies = ([], [], 3) from fun h1 h2 => by
    unfold wantedB at h2
    have h3 : chkPliesR lots plies ≠ 0 := by intro e; rw [e] at h2; simp at h2
    rw [sp_plies h1 h3]
    have : chkPliesR lots plies = 0 ∨ chkPliesR lots plies = 3 := by
      unfold chkPliesR
      split
      · right; rfl
      · have : ∀ (l : List Int) (s : Int), pliesGo s l = 0 ∨ pliesGo s l = 3 := by
          intro l
          induction l with
          | nil => intro s; left; rfl
          | cons n l ih => intro s; rw [pliesGo]; split; exact .inr rfl; exact ih _
        exact this _ _
    rcases this with h | h
    · exact absurd h h3
    · rw [h])
  have Hs3 := Lib.hid (sp_none (len := len) (wd := wd) (polys := polys) (rs := rs) (lots := lots) (plies := plies))
  have Hok := Lib.hid (fun h1 h2 ys h3 => spread_of (len := len) (wd := wd) (polys := polys) (rs := rs) (lots := lots) (plies := plies) (ys := ys) h1 h2 h3)
  have Hlo := Lib.hid (fun h1 h2 ys h3 => (lots_ok (len := len) (wd := wd) (polys := polys) (rs := rs) (lots := lots) (plies := plies) (ys := ys) h1 h2 h3).rests)
  have Hcz := Lib.hid (cloth_zero (len := len) (wd := wd) (polys := polys) (rs := rs) (nl := lots.length))
  have Hpz := Lib.hid (chkPlies_lots (lots := lots) (plies := plies))
  have Hwp := Lib.hid (show wantedB lots plies = true → chkPliesR lots plies = 0 from fun h => by unfold wantedB at h; simpa using h)
  generalize spreadR len wd polys rs lots plies = R at *
  generalize hec : chkClothR len wd polys rs lots.length = ec at *
  rcases Classical.em (ec = 0) with h0 | h0
  · subst h0
    rcases hwt : wantedB lots plies with _ | _
    · rw [hwt] at HP
      have HRv := Lib.hid (Hs2.out rfl hwt)
      clear hwt
      go_enter Try.func16, Try.ntmps16
      go_upto_region 5 with (first | (go_at_call 39; (with_reducible refine (HK.out _ (by repeat' (with_reducible first | exact Later.refl _ | assumption | refine Later.drew ?_ | refine Later.drewN ?_ _ | refine Later.alloc ?_ _ | refine Later.put ?_ (by omega) _ | refine Later.trans ?_ (by assumption)))).mono ?_); rintro e w1 ⟨rfl, hb1⟩; have hlw1 : Later w w1 := (by repeat' (with_reducible first | exact Later.refl _ | assumption | refine Later.drew ?_ | refine Later.drewN ?_ _ | refine Later.alloc ?_ _ | refine Later.put ?_ (by omega) _ | refine Later.trans ?_ (by assumption)))) | (go_at_call 40; (with_reducible refine (HP.out _ hlw1).mono ?_); rintro e w2 ⟨rfl, hb2⟩))
      have D10 : Blk w2 (w.heap.size + 1) 36 #[.int .i64 0, .int .i64 0, .int .i64 0, .int .i64 0, .slice none 0 0, .slice none 0 0, .slice none 0 0] := (Blk.later (w := (w.alloc (.cells #[.int .i64 len, .int .i64 wd, .int .i64 rx, .int .i64 ry, .slice S1 n1 c1, .slice S2 n2 c2] 27)).alloc (.cells #[.int .i64 0, .int .i64 0, .int .i64 0, .int .i64 0, .slice none 0 0, .slice none 0 0, .slice none 0 0] 36)) Blk.at2 hb1).later hb2
      have hl2 : Later w w2 := hlw1.trans hb2
      have hg10 : w.heap.size ≤ w.heap.size + 1 := Nat.le_succ _
      generalize hgg : w.heap.size + 1 = g10 at *
      have q0 := D10.cell 0
      have q1 := D10.cell 1
      have q2 := D10.cell 2
      have q3 := D10.cell 3
      have q4 := D10.cell 4
      have q5 := D10.cell 5
      have q6 := D10.cell 6
      have r0 := D10.frozen 0
      have r1 := D10.frozen 1
      have r2 := D10.frozen 2
      have r3 := D10.frozen 3
      have r4 := D10.frozen 4
      have r5 := D10.frozen 5
      have r6 := D10.frozen 6
      have z10 := D10.lt
      simp only [List.getElem?_toArray, List.getElem?_cons_zero, List.getElem?_cons_succ] at q0 q1 q2 q3 q4 q5 q6
      go_wp2
      refine bodyPost_ret (v := .tuple #[.agg #[.int .i64 0, .int .i64 0, .int .i64 0, .int .i64 0, .slice none 0 0, .slice none 0 0, .slice none 0 0], .slice none 0 0, .int .i64 3]) (by simp [results, Try.results16, go_sem, q0, q1, q2, q3, q4, q5, q6]) rfl (rspread_err HRv.out (by decide) (put7 hl2 hg10))
    · rw [hwt] at HP
      have hpz := Hwp.out hwt
      clear hwt
      obtain ⟨hext, hcr, hw1, hw2⟩ := Hcz.out rfl
      obtain ⟨hl1, hl2, _⟩ := ext_zero hext
      obtain ⟨hr20, hrz, hnl⟩ := chkRolls_zero hcr
      have hln : ∀ r ∈ rs, 1 ≤ r.ln ∧ r.ln ≤ 1048576 := fun r hr => (roll_ok (hrz r hr)).2.2.2.1
      obtain ⟨hpl0, hps40⟩ := plies_sum (by omega) (by omega) (Hpz.out hpz).2
      rw [sum_toNat hpl0] at hps40
      have Hs3' := Lib.hid (show lotsGo len wd polys rs lots plies 0 = none → R = ([], [], 17) from fun h => Hs3.out rfl hpz h)
      have Hok' := Lib.hid (show ∀ ys, lotsGo len wd polys rs lots plies 0 = some ys → R = (ys, restsFrom (allQ ys) rs lots 0, 0) from fun ys h => Hok.out (by first | rfl | exact hec) hpz ys h)
      have Hlo' := Lib.hid (show ∀ ys, lotsGo len wd polys rs lots plies 0 = some ys → restsR rs lots ys = (restsFrom (allQ ys) rs lots 0, 0) from fun ys h => Hlo.out (by first | rfl | exact hec) hpz ys h)
      have Hnl := Lib.hid hnl
      have Hps40 := Lib.hid hps40
      have Hpl0 := Lib.hid hpl0
      clear hnl hcr hrz hext Hcz Hpz Hs1 Hs2 Hs3 Hok Hlo Hwp hps40 hpz hec hpl0
      go_enter Try.func16, Try.ntmps16
      go_upto_region 6 with (first | (go_at_call 39; (with_reducible refine (HK.out _ (by repeat' (with_reducible first | exact Later.refl _ | assumption | refine Later.drew ?_ | refine Later.drewN ?_ _ | refine Later.alloc ?_ _ | refine Later.put ?_ (by omega) _ | refine Later.trans ?_ (by assumption)))).mono ?_); rintro e w1 ⟨rfl, hb1⟩; have hlw1 : Later w w1 := (by repeat' (with_reducible first | exact Later.refl _ | assumption | refine Later.drew ?_ | refine Later.drewN ?_ _ | refine Later.alloc ?_ _ | refine Later.put ?_ (by omega) _ | refine Later.trans ?_ (by assumption)))) | (go_at_call 40; (with_reducible refine (HP.out _ hlw1).mono ?_); rintro e w2 ⟨rfl, hb2⟩))
      have D5 : Blk w2 w.heap.size 27 #[.int .i64 len, .int .i64 wd, .int .i64 rx, .int .i64 ry, .slice S1 n1 c1, .slice S2 n2 c2] := (Blk.later (w := (w.alloc (.cells #[.int .i64 len, .int .i64 wd, .int .i64 rx, .int .i64 ry, .slice S1 n1 c1, .slice S2 n2 c2] 27)).alloc (.cells #[.int .i64 0, .int .i64 0, .int .i64 0, .int .i64 0, .slice none 0 0, .slice none 0 0, .slice none 0 0] 36)) (Blk.alloc (Blk.new _ _ _) _) hb1).later hb2
      have D10 : Blk w2 (w.heap.size + 1) 36 #[.int .i64 0, .int .i64 0, .int .i64 0, .int .i64 0, .slice none 0 0, .slice none 0 0, .slice none 0 0] := (Blk.later (w := (w.alloc (.cells #[.int .i64 len, .int .i64 wd, .int .i64 rx, .int .i64 ry, .slice S1 n1 c1, .slice S2 n2 c2] 27)).alloc (.cells #[.int .i64 0, .int .i64 0, .int .i64 0, .int .i64 0, .slice none 0 0, .slice none 0 0, .slice none 0 0] 36)) Blk.at2 hb1).later hb2
      have hlw2 : Later w w2 := hlw1.trans hb2
      clear hb1 hb2 HK HP
      have hne : w.heap.size + 1 ≠ w.heap.size := by omega
      generalize hgg : w.heap.size = g5 at *
      have Hgg := Lib.hid hgg
      clear hgg
      have h510 : g5 ≤ g5 + 1 := Nat.le_succ _
      generalize g5 + 1 = g10 at *
      have m0 : w2.cell? ⟨g5, 0, none⟩ = some (.int .i64 len) := D5.cell 0
      have m1 : w2.cell? ⟨g5, 1, none⟩ = some (.int .i64 wd) := D5.cell 1
      have m2 : w2.cell? ⟨g5, 2, none⟩ = some (.int .i64 rx) := D5.cell 2
      have m3 : w2.cell? ⟨g5, 3, none⟩ = some (.int .i64 ry) := D5.cell 3
      have m4 : w2.cell? ⟨g5, 4, none⟩ = some (.slice S1 n1 c1) := D5.cell 4
      have m5 : w2.cell? ⟨g5, 5, none⟩ = some (.slice S2 n2 c2) := D5.cell 5
      have z5 := D5.lt
      have z10 := D10.lt
      go_upto_region 8 with fail
      refine name_world (fun W9 hW9 => ?_)
      have hl9 : Later w2 W9 := by rw [hW9]; exact (by repeat' (with_reducible first | exact Later.refl _ | assumption | refine Later.drew ?_ | refine Later.drewN ?_ _ | refine Later.alloc ?_ _ | refine Later.put ?_ (by omega) _ | refine Later.trans ?_ (by assumption)))
      have hM : SpN w g5 g10 w2.heap.size #[.int .i64 len, .int .i64 wd, .int .i64 rx, .int .i64 ry, .slice S1 n1 c1, .slice S2 n2 c2] (fun v => #[.int .i64 len, .int .i64 wd, .int .i64 rx, .int .i64 ry, .slice S1 n1 c1, .slice S2 n2 c2, v]) W9 (.slice none 0 0) [] := by
        refine ⟨D5.later hl9, D10.later hl9, ?_, World.ownsRow_nil _ _ _ _, World.ownsRow_nil _ _ _ _, World.ownsRow_nil _ _ _ _, fun y hy => (by cases hy), hlw2.trans hl9⟩
        rw [hW9]; exact (by repeat' (with_reducible first | assumption | (refine Blk.newAt ?_; simp; done) | refine Blk.alloc ?_ _ | refine Blk.drew ?_ | refine Blk.drewN ?_ _ | refine Blk.later ?_ (by assumption)))
      clear hW9 D5 D10 m0 m1 m2 m3 m4 m5
      have h15 : g10 ≠ w2.heap.size := by omega
      have h155 : w2.heap.size ≠ g5 := by omega
      have hw15 : w.heap.size ≤ w2.heap.size := hlw2.size
      generalize w2.heap.size = g15 at *
      have HM := Lib.hid hM
      have hw5 : w.heap.size ≤ g5 := Nat.le_of_eq Hgg.out
      clear hM z5 z10 hl9
      go_loopw [15] (fun iv wr => ∃ (j : Nat) (v : Value) (acc : List Py), j ≤ plies.length ∧ iv = .int .i64 j ∧ SpN w g5 g10 g15 #[.int .i64 len, .int .i64 wd, .int .i64 rx, .int .i64 ry, .slice S1 n1 c1, .slice S2 n2 c2] (fun v => #[.int .i64 len, .int .i64 wd, .int .i64 rx, .int .i64 ry, .slice S1 n1 c1, .slice S2 n2 c2, v]) wr v acc ∧ lotsGo len wd polys rs lots plies 0 = lotG len wd polys rs lots plies j (acc.map Py.pl) ∧ (acc.length : Int) + (plies.drop j).sum ≤ 40) (fun iv _ => plies.length - (intOf iv).toNat)
      case atStart => exact ⟨0, _, [], by omega, rfl, HM.out, lotG_all.symm, by have := Hps40.out; simp; omega⟩
      case round =>
        clear HM
        obtain ⟨j, v, acc, hj, rfl, hM, he, hn40⟩ := hrel
        have HM := Lib.hid hM
        have He := Lib.hid he
        have Hn40 := Lib.hid hn40
        clear hM he hn40
        have hlw := HM.out.lt
        by_cases hlt : j < plies.length
        · obtain ⟨ba, oa, rfl, e1⟩ := hA.at_ hlt
          have Hstep := Lib.hid (lotG_step (len := len) (wd := wd) (polys := polys) (rs := rs) (lots := lots) (pre := acc.map Py.pl) hlt)
          have Hdr := Lib.hid (show (plies.drop j).sum = plies[j] + (plies.drop (j + 1)).sum by rw [List.drop_eq_getElem_cons hlt, List.sum_cons])
          have hn0 := Hpl0.out _ (List.getElem_mem hlt)
          have Hsum0 := Lib.hid (show 0 ≤ (plies.drop (j + 1)).sum by
            have : ∀ l : List Int, (∀ n ∈ l, 0 ≤ n) → 0 ≤ l.sum := by
              intro l
              induction l with
              | nil => intro _; simp
              | cons a l ih => intro h; have := h a (List.mem_cons_self ..); have := ih (fun n hn => h n (List.mem_cons_of_mem _ hn)); simp; omega
            exact this _ (fun m hm => Hpl0.out m (List.mem_of_mem_drop hm)))
          have hn40' : plies[j] ≤ 40 := by have := Hn40.out; have := Hdr.out; have := Hsum0.out; omega
          generalize plies[j] = n at *
          have Hmid := Lib.hid ((He.out).trans Hstep.out)
          clear He Hstep
          go_upto_region 12 with fail
          refine name_world (fun W11 hW11 => ?_)
          have hl11 : Later wr W11 := by rw [hW11]; exact (by repeat' (with_reducible first | exact Later.refl _ | assumption | refine Later.drew ?_ | refine Later.drewN ?_ _ | refine Later.alloc ?_ _ | refine Later.put ?_ (by omega) _ | refine Later.trans ?_ (by assumption)))
          have DT : Blk W11 wr.heap.size 94 #[.slice none 0 0, .int .i64 0] := by rw [hW11]; exact (by repeat' (with_reducible first | assumption | (refine Blk.newAt ?_; simp; done) | refine Blk.alloc ?_ _ | refine Blk.drew ?_ | refine Blk.drewN ?_ _ | refine Blk.later ?_ (by assumption)))
          clear hW11
          have hgT : w.heap.size ≤ wr.heap.size := hlw.size
          generalize wr.heap.size = gT at *
          have HM11 := Lib.hid (HM.out.later hl11)
          clear HM hlw
          go_loopw [17] (fun iv wq => ∃ (k : Nat) (acc2 : List Int) (u : Value), k ≤ rs.length ∧ iv = .int .i64 k ∧ SpN w g5 g10 g15 #[.int .i64 len, .int .i64 wd, .int .i64 rx, .int .i64 ry, .slice S1 n1 c1, .slice S2 n2 c2] (fun v => #[.int .i64 len, .int .i64 wd, .int .i64 rx, .int .i64 ry, .slice S1 n1 c1, .slice S2 n2 c2, v]) wq v acc ∧ OwnR wq g5 3 1 i1 u acc2 ∧ Blk wq gT 94 #[u, .int .i64 0] ∧
              remR rs lots (j : Int) wd = tailQ rs (j : Int) acc2 ++ remGo (j : Int) wd (rs.drop k) (lots.drop k) k ∧ acc2.length ≤ k ∧ (∀ i ∈ acc2, 0 ≤ i ∧ i < (rs.length : Int))) (fun iv _ => rs.length - (intOf iv).toNat)
          case atStart => exact ⟨0, [], _, by omega, rfl, HM11.out, World.ownsRow_nil _ _ _ _, DT, rfl, by simp, (fun i hi => by cases hi)⟩
          case round =>
            obtain ⟨k, acc2, u, hk, rfl, hM, ho, hT, he, hal2, hin⟩ := hrel
            have HM := Lib.hid hM
            have Ho := Lib.hid ho
            have HT := Lib.hid hT
            have He := Lib.hid he
            have Hin := Lib.hid hin
            clear hM ho hT he hin
            have hlw := HM.out.lt
            by_cases hkl : k < rs.length
            · have hkl2 : k < lots.length := by rw [Hnl.out]; exact hkl
              obtain ⟨br, or_, rfl, _, z1, _⟩ := (hr.later hlw).at_ hkl
              obtain ⟨bl, ol, rfl, y0⟩ := (hL.later hlw).at_ hkl2
              have zr := World.block_lt_of_cell? _ _ z1
              have zl := World.block_lt_of_cell? _ _ y0
              have Hhit := Lib.hid (fun h => tail_hit (lot := (j : Int)) (wd := wd) hkl hkl2 h He.out)
              have Hmiss := Lib.hid (fun h => tail_miss (lot := (j : Int)) (wd := wd) hkl hkl2 h He.out)
              have hk0 : (0 : Int) ≤ (k : Int) := by omega
              have hk1 : (k : Int) < (rs.length : Int) := by omega
              have hk2 : (k : Int) < (lots.length : Int) := by omega
              generalize lots[k] = lt at *
              generalize (rs[k]).wd = rwd at *
              have m1 : wr.cell? ⟨g5, 1, none⟩ = some (.int .i64 wd) := HM.out.km.cell 1
              have z5 := HM.out.km.lt
              by_cases h1 : lt = (j : Int)
              · have d1 : (lt == (j : Int)) = true := by simpa using h1
                by_cases h2 : wd ≤ rwd
                · have d2 : decide (wd ≤ rwd) = true := by simpa using h2
                  have d2' : decide (rwd ≥ wd) = true := by simpa using h2
                  have HR := Lib.hid (Hhit.out ⟨h1, h2⟩)
                  clear h1
                  go_upto_region 14 with fail
                  go_quiet (fail)
                  go_upto_region 15 with fail
                  refine name_world (fun W12 hW12 => ?_)
                  have hl12 : Later wr W12 := by rw [hW12]; exact (by repeat' (with_reducible first | exact Later.refl _ | assumption | refine Later.drew ?_ | refine Later.drewN ?_ _ | refine Later.alloc ?_ _ | refine Later.put ?_ (by omega) _ | refine Later.trans ?_ (by assumption)))
                  clear hW12
                  have HT12 := Lib.hid (HT.out.later hl12)
                  have Ho12 := Lib.hid (Ho.out.later hl12)
                  have HM12 := Lib.hid (HM.out.later hl12)
                  have t0 : W12.cell? ⟨gT, 0, none⟩ = some u := HT12.out.cell 0
                  have zt := HT12.out.lt
                  obtain ⟨Au, cu, rfl, _, _, _⟩ := Ho12.out.form i1_len
                  clear z1 zr y0 zl m1 z5 d1 d2 d2'
                  have hgu : g5 ≤ W12.heap.size := by have := HM12.out.km.lt; omega
                  have HS := Lib.hid (SrcAt.blk (Blk.new W12 3 #[.int .i64 (k : Int)]))
                  go_wp2_with (at_builtin; refine wpList_append_rec slt_ints i1_len i1_one rfl (.tmp 69) (.tmp 71) rfl (base := g5) (l := acc2) rfl (OwnR.alloc Ho12.out _) (A := some ⟨W12.heap.size, 0, none⟩) (c := 1) [(k : Int)] rfl (by intro h; cases h) HS.out (by simp; omega) (by simp; omega) ?_; intro A3 c3' w3 ho3 hg3; have K := blk_own (HT12.out.alloc _) (OwnR.alloc Ho12.out _) (by decide) hg3; have kf := K.frozen 0; have kc : w3.cell? ⟨gT, 0, none⟩ = some (.slice Au acc2.length cu) := K.cell 0; have kz := K.lt)
                  have hM3 := SpM.ints (HM12.out.later ((Later.refl _).alloc _)) (OwnR.alloc Ho12.out _) hw5 hg3
                  have hM4 := SpM.tab hM3 K hgT 0 (.slice A3 (acc2 ++ [(k : Int)]).length c3')
                  have ho4 := own_tab (j := 0) (x := .slice A3 (acc2 ++ [(k : Int)]).length c3') ho3 K (by decide)
                  have hT4 := K.set_ 0 (.slice A3 (acc2 ++ [(k : Int)]).length c3')
                  simp only [List.length_append, List.length_singleton] at hM4 ho4 hT4
                  have HM4 := Lib.hid hM4
                  have Ho4 := Lib.hid ho4
                  have HT4 := Lib.hid hT4
                  clear hM3 hM4 ho3 ho4 hT4 hg3 K kf kc kz
                  go_roundw
                  case rel => exact ⟨k + 1, acc2 ++ [(k : Int)], _, by omega, by go_num, HM4.out, Ho4.out, HT4.out, HR.out, by simp; omega, fun i hi => by
                    rcases List.mem_append.1 hi with hi | hi
                    · exact Hin.out i hi
                    · rw [List.mem_singleton.1 hi]; exact ⟨hk0, hk1⟩⟩
                  case measure => simp [intOf]; omega
                · have d2 : decide (wd ≤ rwd) = false := by simpa using h2
                  have d2' : decide (rwd ≥ wd) = false := by simpa using h2
                  have HR := Lib.hid (Hmiss.out (fun h => h2 h.2))
                  clear h1
                  go_upto_region 14 with fail
                  go_quiet (fail)
                  go_wp2
                  go_roundw
                  case rel => exact ⟨k + 1, acc2, u, by omega, by go_num, HM.out.later (by repeat' (with_reducible first | exact Later.refl _ | assumption | refine Later.drew ?_ | refine Later.drewN ?_ _ | refine Later.alloc ?_ _ | refine Later.put ?_ (by omega) _ | refine Later.trans ?_ (by assumption))), Ho.out.later (by repeat' (with_reducible first | exact Later.refl _ | assumption | refine Later.drew ?_ | refine Later.drewN ?_ _ | refine Later.alloc ?_ _ | refine Later.put ?_ (by omega) _ | refine Later.trans ?_ (by assumption))), HT.out.later (by repeat' (with_reducible first | exact Later.refl _ | assumption | refine Later.drew ?_ | refine Later.drewN ?_ _ | refine Later.alloc ?_ _ | refine Later.put ?_ (by omega) _ | refine Later.trans ?_ (by assumption))), HR.out, by omega, Hin.out⟩
                  case measure => simp [intOf]; omega
              · have d1 : (lt == (j : Int)) = false := by simpa using h1
                have HR := Lib.hid (Hmiss.out (fun h => h1 h.1))
                clear h1
                go_upto_region 14 with fail
                go_quiet (fail)
                go_wp2
                go_roundw
                case rel => exact ⟨k + 1, acc2, u, by omega, by go_num, HM.out.later (by repeat' (with_reducible first | exact Later.refl _ | assumption | refine Later.drew ?_ | refine Later.drewN ?_ _ | refine Later.alloc ?_ _ | refine Later.put ?_ (by omega) _ | refine Later.trans ?_ (by assumption))), Ho.out.later (by repeat' (with_reducible first | exact Later.refl _ | assumption | refine Later.drew ?_ | refine Later.drewN ?_ _ | refine Later.alloc ?_ _ | refine Later.put ?_ (by omega) _ | refine Later.trans ?_ (by assumption))), HT.out.later (by repeat' (with_reducible first | exact Later.refl _ | assumption | refine Later.drew ?_ | refine Later.drewN ?_ _ | refine Later.alloc ?_ _ | refine Later.put ?_ (by omega) _ | refine Later.trans ?_ (by assumption))), HR.out, by omega, Hin.out⟩
                case measure => simp [intOf]; omega
            · have hrem := He.out
              rw [List.drop_eq_nil_of_le (show rs.length ≤ k by omega)] at hrem
              have Hrem := Lib.hid (show remR rs lots (j : Int) wd = tblQ rs (j : Int) acc2 0 by rw [hrem, tbl_zero]; simp [remGo])
              clear hrem
              obtain ⟨Au, cu, rfl, hcu1, hcu2, _⟩ := Ho.out.ints
              rw [Hrem.out] at Hmid
              have e1r := hlw.cell e1
              have ze := World.block_lt_of_cell? _ _ e1r
              go_upto_region 17 with fail
              obtain ⟨W13, hW13⟩ : ∃ wi : World, wi = wr := ⟨_, rfl⟩
              rw [← hW13] at HM Ho HT ⊢
              have hal20 : acc2.length ≤ 20 := by omega
              clear hW13 e1r ze hkl hk
              have Hn40b := Lib.hid (show (acc.length : Int) + n + (plies.drop (j + 1)).sum ≤ 40 by have := Hn40.out; have := Hdr.out; omega)
              go_loopw [18] (fun iv wq => ∃ (i : Nat) (v : Value) (acc : List Py) (l : List Int) (u : Int) (A' : Option Addr) (c' : Nat), (i : Int) ≤ n ∧ iv = .int .i64 i ∧ SpN w g5 g10 g15 #[.int .i64 len, .int .i64 wd, .int .i64 rx, .int .i64 ry, .slice S1 n1 c1, .slice S2 n2 c2] (fun v => #[.int .i64 len, .int .i64 wd, .int .i64 rx, .int .i64 ry, .slice S1 n1 c1, .slice S2 n2 c2, v]) wq v acc ∧
                  OwnR wq g5 3 1 i1 (.slice Au acc2.length cu) acc2 ∧ Blk wq gT 94 #[.slice A' l.length c', .int .i64 u] ∧ (∀ W, Ints W Au acc2 → Ints W A' l) ∧ l.length ≤ c' ∧ c' ≤ maxLen ∧ l.length ≤ 20 ∧ TblOk rs l u ∧
                  lotsGo len wd polys rs lots plies 0 = midG len wd polys rs lots plies j (n.toNat - i) (tblQ rs (j : Int) l u) (acc.map Py.pl) ∧ (acc.length : Int) + (n - i) + (plies.drop (j + 1)).sum ≤ 40) (fun iv _ => n.toNat - (intOf iv).toNat)
              case atStart => exact ⟨0, v, acc, acc2, 0, Au, cu, by omega, rfl, HM.out, Ho.out, HT.out, (fun W h => h), hcu1, hcu2, by omega, ⟨Hin.out, by omega, by omega, fun i r e => by
                have hi := Hin.out i (by rw [e]; exact List.mem_cons_self ..)
                have hil : i.toNat < rs.length := by omega
                rw [grl_eq hil]
                have := hln _ (List.getElem_mem hil)
                omega⟩, by rw [Nat.sub_zero]; exact Hmid.out, by have := Hn40b.out; omega⟩
              case round =>
                clear HM Ho HT Hmid Hn40 Hn40b HM11 DT hlw
                obtain ⟨i, v, acc, l, u, A', c', hi, rfl, hM, ho, hT, hsf, hc1, hc2, hl20, hok, he, hn40⟩ := hrel
                have HM := Lib.hid hM
                have Ho := Lib.hid ho
                have HT := Lib.hid hT
                have Hsf := Lib.hid hsf
                have Hok := Lib.hid hok
                have He := Lib.hid he
                have Hn40 := Lib.hid hn40
                clear hM ho hT hsf hok he hn40
                have hlw := HM.out.lt
                have e1 := hlw.cell e1
                have ze := World.block_lt_of_cell? _ _ e1
                by_cases hli : (i : Int) < n
                · obtain ⟨m, hm⟩ : ∃ m, n.toNat - i = m + 1 := ⟨n.toNat - i - 1, by omega⟩
                  have Hm := Lib.hid (show n.toNat - (i + 1) = m by omega)
                  rw [hm] at He
                  have Hnone := Lib.hid (fun h => (He.out).trans (midG_none (len := len) (wd := wd) (polys := polys) (rs := rs) (lots := lots) (plies := plies) (j := j) (m := m) (left := tblQ rs (j : Int) l u) (pre := acc.map Py.pl) h))
                  have Hsome := Lib.hid (fun x h => (He.out).trans (midG_some (len := len) (wd := wd) (polys := polys) (rs := rs) (lots := lots) (plies := plies) (j := j) (m := m) (left := tblQ rs (j : Int) l u) (pre := acc.map Py.pl) (x := x) h))
                  have Hla := Lib.hid (fun x (h : layR len polys (tblQ rs (j : Int) l u) 0 = some x) => show ∀ q ∈ x.1, q.a < (rs.length : Int) from fun q hq => by
                    obtain ⟨r, hr9, e⟩ := rlayR_a h q hq
                    have := (Hok.out.1 _ (tblQ_a hr9)).2
                    omega)
                  have Hll := Lib.hid (fun x (h : layR len polys (tblQ rs (j : Int) l u) 0 = some x) => Nat.le_trans (rlayR_len h) (Nat.le_of_eq tblQ_len))
                  have HPl := Lib.hid (fun W (hW : Later wr W) => ref38_ply (j : Int) Q C A' S1 S2 qc cc c' n1 c1 n2 c2 len wd rx ry u polys rs l W (hps.later (hlw.trans hW)) hpl (hr.later (hlw.trans hW)) hr20 hln ⟨hl1, hl2⟩ (by
                    obtain ⟨A9, c9, e9, _, _, h9⟩ := (Ho.out.later hW).ints
                    cases e9
                    exact Hsf.out W h9) ⟨hc1, hc2⟩ hl20 Hok.out)
                  clear hm He
                  have m0 : wr.cell? ⟨g5, 0, none⟩ = some (.int .i64 len) := HM.out.km.cell 0
                  have m1 : wr.cell? ⟨g5, 1, none⟩ = some (.int .i64 wd) := HM.out.km.cell 1
                  have m2 : wr.cell? ⟨g5, 2, none⟩ = some (.int .i64 rx) := HM.out.km.cell 2
                  have m3 : wr.cell? ⟨g5, 3, none⟩ = some (.int .i64 ry) := HM.out.km.cell 3
                  have m4 : wr.cell? ⟨g5, 4, none⟩ = some (.slice S1 n1 c1) := HM.out.km.cell 4
                  have m5 : wr.cell? ⟨g5, 5, none⟩ = some (.slice S2 n2 c2) := HM.out.km.cell 5
                  have z5 := HM.out.km.lt
                  have t0 : wr.cell? ⟨gT, 0, none⟩ = some (.slice A' l.length c') := HT.out.cell 0
                  have t1 : wr.cell? ⟨gT, 1, none⟩ = some (.int .i64 u) := HT.out.cell 1
                  have zT := HT.out.lt
                  generalize layR len polys (tblQ rs (j : Int) l u) 0 = LR at *
                  cases LR with
                  | none =>
                    have HRv := Lib.hid (Hs3'.out (Hnone.out rfl))
                    clear Hnone Hsome Hll Hla
                    go_upto_region 21 with (first | (go_at_call 41; (with_reducible refine (HPl.out _ (by first | exact Later.refl _ | exact (Later.refl _).drew)).mono ?_); rintro e wq5 ⟨hl5, An, nn, cn, un, rfl⟩))
                    refine name_world (fun W6 hW6 => ?_)
                    have hl6 : Later wr W6 := by rw [hW6]; exact (by repeat' (with_reducible first | exact Later.refl _ | assumption | refine Later.drew ?_ | refine Later.drewN ?_ _ | refine Later.alloc ?_ _ | refine Later.put ?_ (by omega) _ | refine Later.trans ?_ (by assumption)))
                    clear hW6
                    have HM6 := HM.out.later hl6
                    clear m0 m1 m2 m3 m4 m5 z5 t0 t1 zT e1 ze
                    have q0 := HM6.zr.cell 0
                    have q1 := HM6.zr.cell 1
                    have q2 := HM6.zr.cell 2
                    have q3 := HM6.zr.cell 3
                    have q4 := HM6.zr.cell 4
                    have q5 := HM6.zr.cell 5
                    have q6 := HM6.zr.cell 6
                    have r0 := HM6.zr.frozen 0
                    have r1 := HM6.zr.frozen 1
                    have r2 := HM6.zr.frozen 2
                    have r3 := HM6.zr.frozen 3
                    have r4 := HM6.zr.frozen 4
                    have r5 := HM6.zr.frozen 5
                    have r6 := HM6.zr.frozen 6
                    have z10 := HM6.zr.lt
                    simp only [List.getElem?_toArray, List.getElem?_cons_zero, List.getElem?_cons_succ] at q0 q1 q2 q3 q4 q5 q6
                    go_wp2
                    refine bodyPost_ret (v := .tuple #[.agg #[.int .i64 0, .int .i64 0, .int .i64 0, .int .i64 0, .slice none 0 0, .slice none 0 0, .slice none 0 0], .slice none 0 0, .int .i64 17]) (by simp [results, Try.results16, go_sem, q0, q1, q2, q3, q4, q5, q6]) rfl (rspread_err HRv.out (by decide) (put7 HM6.lt (by have := Hgg.out; omega)))
                  | some x =>
                    have HN := Lib.hid (Hsome.out x rfl)
                    have hxl := Hll.out x rfl
                    have Hxa := Lib.hid (Hla.out x rfl)
                    clear Hnone Hsome Hll Hla
                    obtain ⟨xp, xl⟩ := x
                    simp only [] at HN hxl
                    go_upto_region 22 with (first | (go_at_call 41; (with_reducible refine (HPl.out _ (by first | exact Later.refl _ | exact (Later.refl _).drew)).mono ?_); rintro e wq5 ⟨hl5, P5, p5, A5, c5, l5, u5, rfl, ho5, hq5, hs5, hc5, hc5m, hl5n, hx5, hk5⟩))
                    refine name_world (fun W6 hW6 => ?_)
                    have hl56 : Later wq5 W6 := by rw [hW6]; exact (by repeat' (with_reducible first | exact Later.refl _ | assumption | refine Later.drew ?_ | refine Later.drewN ?_ _ | refine Later.alloc ?_ _ | refine Later.put ?_ (by omega) _ | refine Later.trans ?_ (by assumption)))
                    have hl6 : Later wr W6 := by rw [hW6]; exact (by repeat' (with_reducible first | exact Later.refl _ | assumption | refine Later.drew ?_ | refine Later.drewN ?_ _ | refine Later.alloc ?_ _ | refine Later.put ?_ (by omega) _ | refine Later.trans ?_ (by assumption)))
                    have D20 : Blk W6 wq5.heap.size 94 #[.slice A5 l5.length c5, .int .i64 u5] := by rw [hW6]; exact (by repeat' (with_reducible first | assumption | (refine Blk.newAt ?_; simp; done) | refine Blk.alloc ?_ _ | refine Blk.drew ?_ | refine Blk.drewN ?_ _ | refine Blk.later ?_ (by assumption)))
                    clear hW6 m0 m1 m2 m3 m4 m5 z5 t0 t1 zT e1 ze
                    have hgz : gT ≠ wq5.heap.size := by
                      have := HT.out.lt
                      have : Later wr wq5 := hl5
                      have := this.size
                      omega
                    generalize wq5.heap.size = gz at *
                    have HM6 := Lib.hid (HM.out.later hl6)
                    have Ho6 := Lib.hid (Ho.out.later hl6)
                    have HT6 := Lib.hid (HT.out.later hl6)
                    have hbase : g5 ≤ wr.heap.size := by have := HM.out.km.lt; omega
                    have Ho5 := Lib.hid (OwnR.base (ho5.later hl56) hbase)
                    have Hqi := Lib.hid (show ∀ q ∈ xp, QdI q from fun q hq => qdI_of (hq5 q hq) (Hxa.out q hq) hr20)
                    have Hq5 := Lib.hid hq5
                    have Hs5 := Lib.hid hs5
                    have Hx5 := Lib.hid hx5
                    have Hk5 := Lib.hid hk5
                    clear ho5 hq5 hs5 hx5 hk5 HM Ho HT hbase
                    obtain ⟨Pv, pv, rfl, _⟩ := HM6.out.plys
                    have k6 : W6.cell? ⟨g15, 6, none⟩ = some (.slice Pv acc.length pv) := HM6.out.ly.cell 6
                    have z15 := HM6.out.ly.lt
                    have hal40 : acc.length ≤ 40 := by have := Hn40.out; have := Hsum0.out; omega
                    have hsz6 : g5 ≤ W6.heap.size := by have := HM6.out.km.lt; omega
                    have HS := Lib.hid (SrcAt.blk (Blk.new W6 48 #[.int .i64 (j : Int), .slice P5 xp.length p5]))
                    go_upto_region 23 with (at_builtin; refine wpList_append_rec slt_ply py_len py_one rfl (.tmp 95) (.tmp 99) rfl (base := g5) (l := acc) rfl (OwnR.alloc HM6.out.pl _) (A := some ⟨W6.heap.size, 0, none⟩) (c := 1) [⟨(j : Int), P5, p5, xp⟩] rfl (by intro h; cases h) HS.out (by simp; omega) (by simp; omega) ?_; intro A3 c3' w3 ho3 hg3; have K15 := blk_own (HM6.out.ly.alloc _) (OwnR.alloc HM6.out.pl _) (by decide) hg3; have kf := K15.frozen 6; have kc : w3.cell? ⟨g15, 6, none⟩ = some (.slice Pv acc.length pv) := K15.cell 6; have kz := K15.lt)
                    refine name_world (fun W7 hW7 => ?_)
                    have hM7 := (HM6.out.later ((Later.refl _).alloc _)).push (y := ⟨(j : Int), P5, p5, xp⟩) (v' := .slice A3 (acc ++ ([⟨(j : Int), P5, p5, xp⟩] : List Py)).length c3') hw5 h15 h155 hw15 rfl ⟨OwnR.alloc Ho5.out _, Hqi.out, by show xp.length ≤ 20; omega⟩ hg3 ho3
                    have hT7 := blk_tab (j := 6) (x := .slice A3 (acc ++ ([⟨(j : Int), P5, p5, xp⟩] : List Py)).length c3') (blk_own (HT6.out.alloc _) (OwnR.alloc HM6.out.pl _) (by decide) hg3) K15 (by decide)
                    have hD7 := blk_tab (j := 6) (x := .slice A3 (acc ++ ([⟨(j : Int), P5, p5, xp⟩] : List Py)).length c3') (blk_own (D20.alloc _) (OwnR.alloc HM6.out.pl _) (by decide) hg3) K15 (by decide)
                    have ho7 := own_tab (j := 6) (x := .slice A3 (acc ++ ([⟨(j : Int), P5, p5, xp⟩] : List Py)).length c3') (own_keep (OwnR.alloc Ho6.out _) (OwnR.alloc HM6.out.pl _) (by decide) hg3) K15 (by decide)
                    simp only [List.length_append, List.length_singleton] at hM7 hT7 hD7 ho7
                    rw [← hW7] at hM7 hT7 hD7 ho7
                    have HM7 := Lib.hid hM7
                    have HT7 := Lib.hid hT7
                    have Ho7 := Lib.hid ho7
                    have d0 : W7.cell? ⟨gz, 0, none⟩ = some (.slice A5 l5.length c5) := hD7.cell 0
                    have d1 : W7.cell? ⟨gz, 1, none⟩ = some (.int .i64 u5) := hD7.cell 1
                    have zd := hD7.lt
                    have t0 : W7.cell? ⟨gT, 0, none⟩ = some (.slice A' l.length c') := hT7.cell 0
                    have t1 : W7.cell? ⟨gT, 1, none⟩ = some (.int .i64 u) := hT7.cell 1
                    have tf0 := hT7.frozen 0
                    have tf1 := hT7.frozen 1
                    have zt := hT7.lt
                    clear hW7 hM7 hT7 hD7 ho7 k6 z15 K15 kf kc kz hg3 ho3
                    go_wp2
                    go_roundw
                    case rel =>
                      refine ⟨i + 1, _, acc ++ ([⟨(j : Int), P5, p5, xp⟩] : List Py), l5, u5, A5, c5, by omega, by go_num, (HM7.out.tab HT7.out hgT 0 _).tab (HT7.out.set_ 0 _) hgT 1 _, own_tab (own_tab Ho7.out HT7.out (by decide)) (HT7.out.set_ 0 _) (by decide), HT7.out.two, fun W h => Hs5.out W (Hsf.out W h), hc5, hc5m, by omega, Hk5.out, ?_, ?_⟩
                      · rw [Hm.out, HN.out, Hx5.out, List.map_append]; rfl
                      · have := Hn40.out; simp; omega
                    case measure => simp [intOf]; omega
                · have HR := Lib.hid (show lotsGo len wd polys rs lots plies 0 = lotG len wd polys rs lots plies (j + 1) (acc.map Py.pl) by rw [He.out, show n.toNat - i = 0 by omega, midG_end])
                  clear He
                  go_wp2
                  go_roundw
                  case rel => exact ⟨j + 1, v, acc, by omega, by go_num, HM.out.later (by repeat' (with_reducible first | exact Later.refl _ | assumption | refine Later.drew ?_ | refine Later.drewN ?_ _ | refine Later.alloc ?_ _ | refine Later.put ?_ (by omega) _ | refine Later.trans ?_ (by assumption))), HR.out, by have := Hn40.out; omega⟩
                  case measure => simp [intOf]; omega
        · have HG := Lib.hid ((He.out).trans (lotG_last (by omega)))
          obtain ⟨Pv, pv, rfl, hpv1, hpv2, hPv⟩ := HM.out.plys
          have hacc40 : acc.length ≤ 40 := by have := Hn40.out; rw [List.drop_eq_nil_of_le (by omega)] at this; simp at this; omega
          have HT := Lib.hid (fun W (hW : Later wr W) => ref38_Rests C L S1 S2 Pv cc lc n1 c1 n2 c2 pv len wd rx ry rs lots acc W (hr.later (hlw.trans hW)) (by omega) (hL.later (hlw.trans hW)) (by omega) (hPv.later hW) (by omega) (fun y hy => by have := (HM.out.pt y hy).2.2; omega))
          rw [Hlo'.out _ HG.out] at HT
          have HRv := Lib.hid (Hok'.out _ HG.out)
          generalize restsFrom (allQ (acc.map Py.pl)) rs lots 0 = rq at *
          have k0 : wr.cell? ⟨g15, 0, none⟩ = some (.int .i64 len) := HM.out.ly.cell 0
          have k1 : wr.cell? ⟨g15, 1, none⟩ = some (.int .i64 wd) := HM.out.ly.cell 1
          have k2 : wr.cell? ⟨g15, 2, none⟩ = some (.int .i64 rx) := HM.out.ly.cell 2
          have k3 : wr.cell? ⟨g15, 3, none⟩ = some (.int .i64 ry) := HM.out.ly.cell 3
          have k4 : wr.cell? ⟨g15, 4, none⟩ = some (.slice S1 n1 c1) := HM.out.ly.cell 4
          have k5 : wr.cell? ⟨g15, 5, none⟩ = some (.slice S2 n2 c2) := HM.out.ly.cell 5
          have k6 : wr.cell? ⟨g15, 6, none⟩ = some (.slice Pv acc.length pv) := HM.out.ly.cell 6
          have z15 := HM.out.ly.lt
          clear He HG hPv hpv1 hpv2
          go_upto_region 25 with (first | (go_at_call 42; (with_reducible refine (HT.out _ (by repeat' (with_reducible first | exact Later.refl _ | assumption | refine Later.drew ?_ | refine Later.drewN ?_ _ | refine Later.alloc ?_ _ | refine Later.put ?_ (by omega) _ | refine Later.trans ?_ (by assumption)))).mono ?_); rintro e wq6 ⟨X6, x6, rfl, ho6, hb6⟩))
          have HM6 := HM.out.later (Later.trans (by first | exact Later.refl _ | exact (Later.refl _).drew) hb6)
          have HM6h := Lib.hid HM6
          have Ho6 := Lib.hid ho6
          have k0 := hb6.cell k0
          have k1 := hb6.cell k1
          have k2 := hb6.cell k2
          have k3 := hb6.cell k3
          have k4 := hb6.cell k4
          have k5 := hb6.cell k5
          have k6 := hb6.cell k6
          have z15 := HM6.ly.lt
          have q0 := HM6.zr.cell 0
          have q1 := HM6.zr.cell 1
          have q2 := HM6.zr.cell 2
          have q3 := HM6.zr.cell 3
          have q4 := HM6.zr.cell 4
          have q5 := HM6.zr.cell 5
          have q6 := HM6.zr.cell 6
          have r0 := HM6.zr.frozen 0
          have r1 := HM6.zr.frozen 1
          have r2 := HM6.zr.frozen 2
          have r3 := HM6.zr.frozen 3
          have r4 := HM6.zr.frozen 4
          have r5 := HM6.zr.frozen 5
          have r6 := HM6.zr.frozen 6
          have z10 := HM6.zr.lt
          simp only [List.getElem?_toArray, List.getElem?_cons_zero, List.getElem?_cons_succ] at q0 q1 q2 q3 q4 q5 q6
          have hne := h15
          have hz1015 : g10 < wr.heap.size := HM.out.zr.lt
          clear HM6 ho6
          go_wp2
          refine bodyPost_ret (v := .tuple #[.agg #[.int .i64 len, .int .i64 wd, .int .i64 rx, .int .i64 ry, .slice S1 n1 c1, .slice S2 n2 c2, .slice Pv acc.length pv], .slice X6 rq.length x6, .int .i64 0]) (by simp [results, Try.results16, go_sem, q0, q1, q2, q3, q4, q5, q6]) rfl ?_
          exact rspread_done HRv.out HM6h.out (by have := Hgg.out; omega) Ho6.out hz1015 (by have := Hgg.out; omega) hacc40
  · have dn : (ec != 0) = true := by simpa using h0
    have HRv := Lib.hid (Hs1.out h0)
    go_enter Try.func16, Try.ntmps16
    go_upto_region 3 with (first | (go_at_call 39; (with_reducible refine (HK.out _ (by repeat' (with_reducible first | exact Later.refl _ | assumption | refine Later.drew ?_ | refine Later.drewN ?_ _ | refine Later.alloc ?_ _ | refine Later.put ?_ (by omega) _ | refine Later.trans ?_ (by assumption)))).mono ?_); rintro e w1 ⟨rfl, hb1⟩; have hlw1 : Later w w1 := (by repeat' (with_reducible first | exact Later.refl _ | assumption | refine Later.drew ?_ | refine Later.drewN ?_ _ | refine Later.alloc ?_ _ | refine Later.put ?_ (by omega) _ | refine Later.trans ?_ (by assumption)))))
    have D10 : Blk w1 (w.heap.size + 1) 36 #[.int .i64 0, .int .i64 0, .int .i64 0, .int .i64 0, .slice none 0 0, .slice none 0 0, .slice none 0 0] := Blk.later (w := (w.alloc (.cells #[.int .i64 len, .int .i64 wd, .int .i64 rx, .int .i64 ry, .slice S1 n1 c1, .slice S2 n2 c2] 27)).alloc (.cells #[.int .i64 0, .int .i64 0, .int .i64 0, .int .i64 0, .slice none 0 0, .slice none 0 0, .slice none 0 0] 36)) Blk.at2 hb1
    have hg10 : w.heap.size ≤ w.heap.size + 1 := Nat.le_succ _
    generalize hgg : w.heap.size + 1 = g10 at *
    have q0 := D10.cell 0
    have q1 := D10.cell 1
    have q2 := D10.cell 2
    have q3 := D10.cell 3
    have q4 := D10.cell 4
    have q5 := D10.cell 5
    have q6 := D10.cell 6
    have r0 := D10.frozen 0
    have r1 := D10.frozen 1
    have r2 := D10.frozen 2
    have r3 := D10.frozen 3
    have r4 := D10.frozen 4
    have r5 := D10.frozen 5
    have r6 := D10.frozen 6
    have z10 := D10.lt
    simp only [List.getElem?_toArray, List.getElem?_cons_zero, List.getElem?_cons_succ] at q0 q1 q2 q3 q4 q5 q6
    go_wp2
    refine bodyPost_ret (v := .tuple #[.agg #[.int .i64 0, .int .i64 0, .int .i64 0, .int .i64 0, .slice none 0 0, .slice none 0 0, .slice none 0 0], .slice none 0 0, .int .i64 ec]) (by simp [results, Try.results16, go_sem, q0, q1, q2, q3, q4, q5, q6]) rfl (rspread_err HRv.out h0 (put7 hlw1 hg10))

end Go.Proofs.Ytehfpjlcbhimkaa
