/-
  The reference's search for what is left of a roll, plain: the next part from a place on is the first of the sorted zones from there on.
  Reference 38: plied returns what the program's checkPly returns.
  Reference 38: all, Check return what the program returns.
  Reference 38: Rests returns what the program's Rests returns.
-/
import Derived.Test.YtpiniflhaokkaaaZSprR
import Derived.Test.YtpiniflhaokkaaaZSprU
import Derived.Test.YtpiniflhaokkaaaZRef37
import Derived.Test.YtpiniflhaokkaaaZSprC
import Derived.Test.YtpiniflhaokkaaaZSprG
/- The reference's search for what is left of a roll, plain: the next part from a place on is the first of the sorted zones from there on. -/
namespace Go.Proofs.Ytpiniflhaokkaaa
open Go.RowKit
set_option linter.unusedSimpArgs false
set_option linter.unusedVariables false

/-- Of the parts so far: the next zone of roll i from place at on, or nothing. -/
def IsNext (i at_ ln : Int) (l : List Qd) (f t : Int) : Prop :=
  ((f = ln ∧ t = ln) ∨ ∃ p ∈ l, p.a = i ∧ at_ ≤ p.b ∧ p.b < ln ∧ f = p.b ∧ t = p.c) ∧ (∀ q ∈ l, q.a = i → at_ ≤ q.b → q.b < ln → f ≤ q.b) ∧ f ≤ ln
theorem next_nil (i at_ ln : Int) : IsNext i at_ ln [] ln ln := ⟨.inl ⟨rfl, rfl⟩, (fun q hq => by cases hq), Int.le_refl _⟩
theorem next_hit {i at_ ln f t : Int} {l : List Qd} {p : Qd} (h : IsNext i at_ ln l f t) (h1 : p.a = i) (h2 : at_ ≤ p.b) (h3 : p.b < f) : IsNext i at_ ln (l ++ [p]) p.b p.c := by
  obtain ⟨_, b, c⟩ := h
  refine ⟨.inr ⟨p, by simp, h1, h2, by omega, rfl, rfl⟩, fun q hq k1 k2 k3 => ?_, by omega⟩
  rcases List.mem_append.1 hq with hq | hq
  · have := b q hq k1 k2 k3; omega
  · rw [List.mem_singleton.1 hq]; omega
theorem next_miss {i at_ ln f t : Int} {l : List Qd} {p : Qd} (h : IsNext i at_ ln l f t) (h1 : ¬ (p.a = i ∧ at_ ≤ p.b ∧ p.b < f)) : IsNext i at_ ln (l ++ [p]) f t := by
  obtain ⟨a, b, c⟩ := h
  refine ⟨?_, fun q hq k1 k2 k3 => ?_, c⟩
  · rcases a with a | ⟨q, hq, r⟩
    · exact .inl a
    · exact .inr ⟨q, List.mem_append_left _ hq, r⟩
  · rcases List.mem_append.1 hq with hq | hq
    · exact b q hq k1 k2 k3
    · rw [List.mem_singleton.1 hq] at k1 k2 k3 ⊢
      omega
/-- The zones from a place on. -/
structure Suf (i at_ ln : Int) (parts : List Qd) (zs : List Pt) : Prop where
  mem : ∀ z, z ∈ zs ↔ (∃ p ∈ parts, p.a = i ∧ z = ⟨p.b, p.c⟩) ∧ at_ ≤ z.x
  apt : Apt zs
  pos : ∀ z ∈ zs, z.x < z.y ∧ z.y ≤ ln
  le : at_ ≤ ln
theorem suf_start {i ln : Int} {parts : List Qd} (h0 : 0 ≤ ln) (hz : ∀ z ∈ zonesOf i parts, 0 ≤ z.x ∧ z.x < z.y ∧ z.y ≤ ln) (hd : Disj (zonesOf i parts)) : Suf i 0 ln parts (sortZ (zonesOf i parts)) := by
  have hp := sortZ_perm (zonesOf i parts)
  refine ⟨fun z => ?_, ?_, fun z h => ⟨(hz z (hp.subset h)).2.1, (hz z (hp.subset h)).2.2⟩, h0⟩
  · rw [hp.mem_iff, zones_mem]
    exact ⟨fun h => ⟨h, (hz z (zones_mem.2 h)).1⟩, fun h => h.1⟩
  · exact (apt_disj (fun z h => (hz z (hp.subset h)).2.1) (sortZ_sorted _)).1 (disj_perm hp.symm hd)
/-- Nothing is left: the search finds nothing. -/
theorem suf_nil {i at_ ln f t : Int} {parts : List Qd} (h : Suf i at_ ln parts []) (hn : IsNext i at_ ln parts f t) : f = ln ∧ t = ln := by
  rcases hn.1 with a | ⟨p, hp, h1, h2, _⟩
  · exact a
  · have := (h.mem ⟨p.b, p.c⟩).2 ⟨⟨p, hp, h1, rfl⟩, h2⟩
    cases this
theorem suf_cons {i at_ ln f t : Int} {parts : List Qd} {z : Pt} {zs : List Pt} (h : Suf i at_ ln parts (z :: zs)) (hn : IsNext i at_ ln parts f t) : f = z.x ∧ t = z.y := by
  obtain ⟨⟨p, hp, k1, k2⟩, k3⟩ := (h.mem z).1 (List.mem_cons_self ..)
  have hz := h.pos z (List.mem_cons_self ..)
  have ha := List.pairwise_cons.1 h.apt
  have hf : f ≤ z.x := by
    have := hn.2.1 p hp k1 (by rw [k2] at k3; exact k3) (by rw [k2] at hz; simp only [] at hz; omega)
    rw [k2]; exact this
  rcases hn.1 with ⟨a, _⟩ | ⟨q, hq, h1, h2, h3, rfl, rfl⟩
  · omega
  · have hm := (h.mem ⟨q.b, q.c⟩).2 ⟨⟨q, hq, h1, rfl⟩, h2⟩
    rcases List.mem_cons.1 hm with e | hm
    · rw [← e]; exact ⟨rfl, rfl⟩
    · have := ha.1 _ hm
      simp only [] at this
      omega
theorem suf_next {i at_ ln : Int} {parts : List Qd} {z : Pt} {zs : List Pt} (h : Suf i at_ ln parts (z :: zs)) : Suf i z.y ln parts zs := by
  have hz := h.pos z (List.mem_cons_self ..)
  have ha := List.pairwise_cons.1 h.apt
  have hzx := ((h.mem z).1 (List.mem_cons_self ..)).2
  refine ⟨fun y => ?_, ha.2, fun y hy => h.pos y (List.mem_cons_of_mem _ hy), hz.2⟩
  constructor
  · intro hy
    exact ⟨((h.mem y).1 (List.mem_cons_of_mem _ hy)).1, ha.1 y hy⟩
  · rintro ⟨h1, h2⟩
    have := (h.mem y).2 ⟨h1, by omega⟩
    rcases List.mem_cons.1 this with e | this
    · rw [e] at h2; omega
    · exact this
theorem suf_end {i ln : Int} {parts : List Qd} {zs : List Pt} (h : Suf i ln ln parts zs) : zs = [] := by
  cases zs with
  | nil => rfl
  | cons z zs =>
    have h1 := ((h.mem z).1 (List.mem_cons_self ..)).2
    have h2 := h.pos z (List.mem_cons_self ..)
    omega
/-- The reference's state on one roll: what it has written, and what is to come. -/
def Scan (i lot ln : Int) (parts : List Qd) (at_ : Int) (prod : List Qd) : Prop :=
  ∃ zs, Suf i at_ ln parts zs ∧ restGo i lot ln 0 (sortZ (zonesOf i parts)) = prod ++ restGo i lot ln at_ zs
theorem scan_start {i lot ln : Int} {parts : List Qd} (h0 : 0 ≤ ln) (hz : ∀ z ∈ zonesOf i parts, 0 ≤ z.x ∧ z.x < z.y ∧ z.y ≤ ln) (hd : Disj (zonesOf i parts)) : Scan i lot ln parts 0 [] := ⟨_, suf_start h0 hz hd, rfl⟩
theorem scan_end {i lot ln at_ : Int} {parts prod : List Qd} (h : Scan i lot ln parts at_ prod) (ha : ¬ at_ < ln) : restGo i lot ln 0 (sortZ (zonesOf i parts)) = prod := by
  obtain ⟨zs, hs, he⟩ := h
  have e : at_ = ln := by have := hs.le; omega
  subst e
  rw [suf_end hs, restGo, if_neg (Int.lt_irrefl _), List.append_nil] at he
  exact he
theorem scan_step {i lot ln at_ f t : Int} {parts prod : List Qd} (h : Scan i lot ln parts at_ prod) (ha : at_ < ln) (hn : IsNext i at_ ln parts f t) :
    at_ < t ∧ t ≤ ln ∧ at_ ≤ f ∧ (at_ < f → Scan i lot ln parts t (prod ++ [⟨i, lot, at_, f⟩])) ∧ (¬ at_ < f → Scan i lot ln parts t prod) := by
  obtain ⟨zs, hs, he⟩ := h
  cases zs with
  | nil =>
    obtain ⟨rfl, rfl⟩ := suf_nil hs hn
    refine ⟨ha, Int.le_refl _, by omega, fun _ => ⟨[], ⟨fun z => ?_, List.Pairwise.nil, (fun z hz => by cases hz), Int.le_refl _⟩, ?_⟩, fun h => absurd ha h⟩
    · constructor
      · intro hz; cases hz
      · rintro ⟨h1, h2⟩
        exact (hs.mem z).2 ⟨h1, by omega⟩
    · rw [he, restGo, restGo, if_pos ha, if_neg (Int.lt_irrefl _), List.append_nil]
  | cons z zs =>
    obtain ⟨rfl, rfl⟩ := suf_cons hs hn
    have hz := hs.pos z (List.mem_cons_self ..)
    have hzx := ((hs.mem z).1 (List.mem_cons_self ..)).2
    refine ⟨by omega, hz.2, hzx, fun h => ⟨zs, suf_next hs, ?_⟩, fun h => ⟨zs, suf_next hs, ?_⟩⟩
    · rw [he, restGo, if_pos h, List.append_assoc]
    · rw [he, restGo, if_neg h, List.nil_append]
theorem scan_len {i lot ln at_ : Int} {parts prod : List Qd} (h : Scan i lot ln parts at_ prod) : prod.length ≤ parts.length + 1 := by
  obtain ⟨zs, _, he⟩ := h
  have h1 : ∀ (zs : List Pt) (f : Int), (restGo i lot ln f zs).length ≤ zs.length + 1 := by
    intro zs
    induction zs with
    | nil => intro f; rw [restGo]; split <;> simp
    | cons z zs ih =>
      intro f
      have := ih z.y
      rw [restGo, List.length_append, List.length_cons]
      split <;> simp <;> omega
  have h2 := h1 (sortZ (zonesOf i parts)) 0
  have h3 : (sortZ (zonesOf i parts)).length ≤ parts.length := by
    rw [(sortZ_perm _).length_eq]
    exact zones_len i parts
  rw [he, List.length_append] at h2
  omega

end Go.Proofs.Ytpiniflhaokkaaa

/- Reference 38: plied returns what the program's checkPly returns. -/
namespace Go.Proofs.Ytpiniflhaokkaaa
open Go.RowKit
set_option linter.unusedSimpArgs false
set_option linter.unusedVariables false

end Go.Proofs.Ytpiniflhaokkaaa

/- Reference 38: all, Check return what the program returns. -/
namespace Go.Proofs.Ytpiniflhaokkaaa
open Go.RowKit
set_option linter.unusedSimpArgs false
set_option linter.unusedVariables false

theorem SrcAt.qds {w : World} {A : Option Addr} {l : List Qd} (h : Qds w A l) : SrcAt w A (l.flatMap qd4) := by
  intro ad had j u hu
  obtain ⟨i, k, a, h1, h2, rfl⟩ := flat_split qd4_len hu
  obtain ⟨b, o, e, hx⟩ := h (by have := (List.getElem?_eq_some_iff.1 h1).1; omega)
  rw [e] at had
  cases had
  obtain ⟨x0, x1, x2, x3⟩ := hx i a h1
  rw [add_plain, ← Nat.add_assoc]
  rcases k with _ | _ | _ | _ | k
  · cases h2; exact x0
  · cases h2; exact x1
  · cases h2; exact x2
  · cases h2; exact x3
  · simp [qd4] at h2
def PartsPost (l : List Qd) (w : World) (e : Ending) (w' : World) : Prop := ∃ A c, e = .returned (.slice A l.length c) ∧ l.length ≤ c ∧ c ≤ maxLen ∧ Qds w' A l ∧ Later w w'
set_option maxHeartbeats 4000000 in
set_option maxRecDepth 100000 in
theorem ref38_all (P S1 S2 : Option Addr) (pc n1 c1 n2 c2 : Nat) (l0 l1 l2 l3 : Int) (ys : List Py) (w : World) (hy : Plys w P ys) (hyl : ys.length ≤ 1099511627776) (hal : (allP ys).length ≤ 60000) :
    Calls Try.prog 57 #[.agg #[.int .i64 l0, .int .i64 l1, .int .i64 l2, .int .i64 l3, .slice S1 n1 c1, .slice S2 n2 c2, .slice P ys.length pc]] w (PartsPost (allP ys) w) := by
  go_enter Try.func57, Try.ntmps57
  go_upto_region 3 with fail
  refine name_world (fun W1 hW1 => ?_)
  have hl1 : Later w W1 := by rw [hW1]; exact (by repeat' (with_reducible first | exact Later.refl _ | assumption | refine Later.drew ?_ | refine Later.drewN ?_ _ | refine Later.alloc ?_ _ | refine Later.put ?_ (by omega) _ | refine Later.trans ?_ (by assumption)))
  have D1 : Blk W1 w.heap.size 39 #[.int .i64 l0, .int .i64 l1, .int .i64 l2, .int .i64 l3, .slice S1 n1 c1, .slice S2 n2 c2, .slice P ys.length pc] := by rw [hW1]; exact (by repeat' (with_reducible first | assumption | (refine Blk.newAt ?_; simp; done) | refine Blk.alloc ?_ _ | refine Blk.drew ?_ | refine Blk.drewN ?_ _ | refine Blk.later ?_ (by assumption)))
  clear hW1
  go_loopw [3, 4] (fun v iv wr => ∃ (k : Nat) (acc : List Qd), k ≤ ys.length ∧ iv = .int .i64 k ∧ acc = allP (ys.take k) ∧ OwnR wr W1.heap.size 64 4 qd4 v acc ∧ Later W1 wr) (fun _ iv _ => ys.length - (intOf iv).toNat)
  case atStart => exact ⟨0, [], by omega, rfl, rfl, World.ownsRow_nil _ _ _ _, Later.refl _⟩
  case round =>
    obtain ⟨k, acc, hk, rfl, he, ho, hb⟩ := hrel
    have He := Lib.hid he
    have Ho := Lib.hid ho
    clear he ho
    have m6 : wr.cell? ⟨w.heap.size, 6, none⟩ = some (.slice P ys.length pc) := (D1.later hb).cell 6
    have zm := (D1.later hb).lt
    by_cases hlt : k < ys.length
    · obtain ⟨bb, ob, rfl, e1, e2, hok⟩ := (Plys.later hy (hl1.trans hb)).at_ hlt
      have Htk := Lib.hid (allP_take hlt)
      have Hlen := Lib.hid (show acc.length + ys[k].parts.length ≤ 60000 by
        have h1 := allP_take hlt
        have h2 : (allP (ys.take (k + 1))).length ≤ (allP ys).length := by
          have h3 : allP ys = allP (ys.take (k + 1)) ++ allP (ys.drop (k + 1)) := by
            unfold allP
            rw [← List.flatMap_append, List.take_append_drop]
          rw [h3, List.length_append]
          omega
        rw [h1, List.length_append] at h2
        rw [He.out]
        omega)
      generalize ys[k] = y at *
      obtain ⟨lot, pa, pc', parts⟩ := y
      simp only [] at e1 e2 hok Htk Hlen
      have zb := World.block_lt_of_cell? _ _ e1
      have hQ : Qds wr pa parts := hok.2.2.1
      have HS := Lib.hid (SrcAt.qds hQ)
      have HA := Lib.hid (show pa = none → parts.length = 0 from fun h => by
        rcases Nat.eq_zero_or_pos parts.length with h0 | h0
        · exact h0
        · obtain ⟨b, o, e, _⟩ := hQ h0
          rw [h] at e; cases e)
      clear hok hQ
      go_wp2_with (at_builtin; refine wpList_append_rec slt_part qd4_len qd4_one rfl (.tmp 12) (.tmp 18) rfl (base := W1.heap.size) (l := acc) rfl Ho.out (A := pa) (c := pc') parts rfl HA.out HS.out (by have := Hlen.out; omega) hb.size ?_; intro A3 c3' w3 ho3 hg3)
      have hl3 : Later W1 w3 := Later.grown hb hg3 (fun g hg => (World.ownsRow.lt Ho.out g hg).1)
      clear hg3
      have Ho3 := Lib.hid ho3
      clear ho3
      simp only [List.length_append] at Ho3
      go_roundw
      case rel => exact ⟨k + 1, acc ++ parts, by omega, by go_num, by rw [Htk.out, He.out], Ho3.out, hl3⟩
      case measure => simp [intOf]; omega
    · have H0 := Lib.hid (show acc = allP ys by rw [He.out, List.take_of_length_le (by omega)])
      obtain ⟨A6, c6, e6, p1, p2, p3⟩ := Ho.out.qds
      subst e6
      go_wp2
      go_ret
      exact ⟨A6, c6, by rw [← H0.out] <;> rfl, by rw [← H0.out]; exact p1, p2, by rw [← H0.out]; exact p3, hl1.trans hb⟩

end Go.Proofs.Ytpiniflhaokkaaa

/- Reference 38: Rests returns what the program's Rests returns. -/
namespace Go.Proofs.Ytpiniflhaokkaaa
open Go.RowKit
set_option linter.unusedSimpArgs false
set_option linter.unusedVariables false

theorem restGo_len {i lot ln : Int} : ∀ {zs : List Pt} {f : Int}, (restGo i lot ln f zs).length ≤ zs.length + 1 := by
  intro zs
  induction zs with
  | nil => intro f; rw [restGo]; split <;> simp
  | cons z zs ih =>
    intro f
    have := ih (f := z.y)
    rw [restGo, List.length_append, List.length_cons]
    split <;> simp <;> omega
theorem restsFrom_len {parts : List Qd} : ∀ {rs : List Rl} {ts : List Int} {i : Nat}, (restsFrom parts rs ts i).length ≤ rs.length * (parts.length + 1) := by
  intro rs
  induction rs with
  | nil => intro ts i; cases ts <;> simp [restsFrom]
  | cons r rs ih =>
    intro ts i
    cases ts with
    | nil => simp [restsFrom]
    | cons t ts =>
      have h1 := ih (ts := ts) (i := i + 1)
      have h2 := restGo_len (i := (i : Int)) (lot := t) (ln := r.ln) (zs := sortZ (zonesOf (i : Int) parts)) (f := 0)
      have h3 : (sortZ (zonesOf (i : Int) parts)).length ≤ parts.length := by rw [(sortZ_perm _).length_eq]; exact zones_len _ _
      rw [restsFrom, List.length_append, List.length_cons, Nat.succ_mul]
      omega
theorem restsFrom_step {parts : List Qd} {r : Rl} {rs : List Rl} {t : Int} {ts : List Int} {i : Nat} : restsFrom parts (r :: rs) (t :: ts) i = restGo (i : Int) t r.ln 0 (sortZ (zonesOf (i : Int) parts)) ++ restsFrom parts rs ts (i + 1) := rfl

theorem OwnR.base {α : Type} {cells : α → List Value} {sz : Nat} {w : World} {b b' : Nat} {E : TypeId} {v : Value} {l : List α} (h : OwnR w b E sz cells v l) (hb : b' ≤ b) : OwnR w b' E sz cells v l := by
  refine ⟨h.1, ?_⟩
  rcases h.2 with ⟨h1, h2⟩ | ⟨g, cap, cur, hv, hbg, hg, r⟩
  · exact .inl ⟨h1, h2⟩
  · exact .inr ⟨g, cap, cur, hv, Nat.le_trans hb hbg, hg, r⟩
set_option maxHeartbeats 8000000 in
set_option maxRecDepth 100000 in
theorem ref38_Rests (C L S1 S2 P : Option Addr) (cc lc n1 c1 n2 c2 pc : Nat) (l0 l1 l2 l3 : Int) (rs : List Rl) (lots : List Int) (ys : List Py) (w : World)
    (hr : Rolls w C rs) (hrl : rs.length ≤ 1099511627776) (hL : Ints w L lots) (hll : lots.length ≤ 9223372036854775807) (hy : Plys w P ys) (hyl : ys.length ≤ 1099511627776) (hpart : ∀ y ∈ ys, y.parts.length ≤ 50) :
    Calls Try.prog 38 #[.agg #[.int .i64 l0, .int .i64 l1, .int .i64 l2, .int .i64 l3, .slice S1 n1 c1, .slice S2 n2 c2, .slice P ys.length pc], .slice C rs.length cc, .slice L lots.length lc] w
      (RestsPost (restsR rs lots (ys.map Py.pl)) w) := by
  have HK := Lib.hid (fun W (hW : Later w W) => ref38_cloth C L cc lc lots.length rs W (hr.later hW) hrl hll)
  have Hr1 := Lib.hid (rr_rolls (rs := rs) (lots := lots) (ys := ys.map Py.pl))
  have Hr2 := Lib.hid (rr_long (rs := rs) (lots := lots) (ys := ys.map Py.pl))
  have Hr3 := Lib.hid (rr_cloth (rs := rs) (lots := lots) (ys := ys.map Py.pl))
  have Hr4 := Lib.hid (rr_twice (rs := rs) (lots := lots) (ys := ys.map Py.pl))
  have Hr5 := Lib.hid (rr_ok (rs := rs) (lots := lots) (ys := ys.map Py.pl))
  have Hcz := Lib.hid (chkRolls_zero (rs := rs) (nl := lots.length))
  generalize restsR rs lots (ys.map Py.pl) = R at *
  generalize chkRollsR rs lots.length = er at *
  rw [List.length_map] at Hr2 Hr3 Hr4 Hr5
  rw [allP_pl] at Hr3 Hr4 Hr5
  rcases Classical.em (er = 0) with h0 | h0
  · subst h0
    obtain ⟨hr20, hrz, hnl⟩ := Hcz.out rfl
    have hln : ∀ r ∈ rs, 1 ≤ r.ln ∧ r.ln ≤ 1048576 := fun r hr => (roll_ok (hrz r hr)).2.2.2.1
    have Hnl := Lib.hid hnl
    clear hnl hrz Hcz Hr1
    by_cases h40 : 40 < ys.length
    · have d40 : decide ((40 : Int) < (ys.length : Int)) = true := by simp; omega
      have HRv := Lib.hid (Hr2.out (by first | trivial | rfl) h40)
      go_enter Try.func38, Try.ntmps38
      go_wp2_with (first | (go_at_call 56; (with_reducible refine (HK.out _ (by repeat' (with_reducible first | exact Later.refl _ | assumption | refine Later.drew ?_ | refine Later.drewN ?_ _ | refine Later.alloc ?_ _ | refine Later.put ?_ (by omega) _ | refine Later.trans ?_ (by assumption)))).mono ?_); rintro e w1 ⟨rfl, hb1⟩; have c6 : w1.cell? ⟨w.heap.size, 6, none⟩ = some (.slice P ys.length pc) := hb1.cell (by simp [go_sem])))
      go_ret2
      exact rests_err HRv.out rfl (by repeat' (with_reducible first | exact Later.refl _ | assumption | refine Later.drew ?_ | refine Later.drewN ?_ _ | refine Later.alloc ?_ _ | refine Later.put ?_ (by omega) _ | refine Later.trans ?_ (by assumption)))
    · have d40 : decide ((40 : Int) < (ys.length : Int)) = false := by simp; omega
      have hal : (allP ys).length ≤ 2000 := by have := allP_len hpart; omega
      have HU := Lib.hid (fun W (hW : Later w W) => ref38_all P S1 S2 pc n1 c1 n2 c2 l0 l1 l2 l3 ys W (hy.later hW) (by omega) (by omega))
      have Hs3 := Lib.hid (show (∃ p ∈ allP ys, clothB p rs = false) → R = ([], 3) from fun h => Hr3.out rfl h40 h)
      have Hs4 := Lib.hid (show (∀ p ∈ allP ys, clothB p rs = true) → ¬ NoTwice (allP ys) → R = ([], 14) from fun h k => Hr4.out rfl h40 h k)
      have Hs5 := Lib.hid (show (∀ p ∈ allP ys, clothB p rs = true) → NoTwice (allP ys) → R = (restsFrom (allP ys) rs lots 0, 0) from fun h k => Hr5.out rfl h40 h k)
      clear Hr3 Hr4 Hr5
      have HSo := Lib.hid (fun (p : Qd) W (hW : Later w W) => ref38_sound C cc p rs W (hr.later hW) (by omega))
      go_enter Try.func38, Try.ntmps38
      go_upto_region 8 with (first | (go_at_call 56; (with_reducible refine (HK.out _ (by repeat' (with_reducible first | exact Later.refl _ | assumption | refine Later.drew ?_ | refine Later.drewN ?_ _ | refine Later.alloc ?_ _ | refine Later.put ?_ (by omega) _ | refine Later.trans ?_ (by assumption)))).mono ?_); rintro e w1 ⟨rfl, hb1⟩; have D3 : Blk w1 w.heap.size 39 #[.int .i64 l0, .int .i64 l1, .int .i64 l2, .int .i64 l3, .slice S1 n1 c1, .slice S2 n2 c2, .slice P ys.length pc] := Blk.later (by repeat' (with_reducible first | assumption | (refine Blk.newAt ?_; simp; done) | refine Blk.alloc ?_ _ | refine Blk.drew ?_ | refine Blk.drewN ?_ _ | refine Blk.later ?_ (by assumption))) hb1; have m0 := D3.cell 0; have m1 := D3.cell 1; have m2 := D3.cell 2; have m3 := D3.cell 3; have m4 := D3.cell 4; have m5 := D3.cell 5; have m6 := D3.cell 6; have zm := D3.lt; simp only [List.getElem?_toArray, List.getElem?_cons_zero, List.getElem?_cons_succ] at m0 m1 m2 m3 m4 m5 m6) | (go_at_call 57; (with_reducible refine (HU.out _ (by repeat' (with_reducible first | exact Later.refl _ | assumption | refine Later.drew ?_ | refine Later.drewN ?_ _ | refine Later.alloc ?_ _ | refine Later.put ?_ (by omega) _ | refine Later.trans ?_ (by assumption)))).mono ?_); rintro e w2 ⟨A2, c2', rfl, p1, p2, p3, hb2⟩))
      have hl2 : Later w w2 := (by repeat' (with_reducible first | exact Later.refl _ | assumption | refine Later.drew ?_ | refine Later.drewN ?_ _ | refine Later.alloc ?_ _ | refine Later.put ?_ (by omega) _ | refine Later.trans ?_ (by assumption)))
      clear m0 m1 m2 m3 m4 m5 m6 zm D3 hb1 hb2 HK d40 HU
      have hp2 : c2' ≤ 9223372036854775807 := by unfold maxLen at p2; omega
      generalize hparts : allP ys = parts at *
      clear hparts
      go_loopw [10] (fun iv wr => ∃ k : Nat, k ≤ parts.length ∧ iv = .int .i64 k ∧ (∀ i (hi : i < parts.length), i < k → clothB parts[i] rs = true) ∧ Later w2 wr) (fun iv _ => parts.length - (intOf iv).toNat)
      case atStart => exact ⟨0, by omega, rfl, (fun i hi h => by omega), Later.refl _⟩
      case round =>
        obtain ⟨k, hk, rfl, he, hb⟩ := hrel
        have He := Lib.hid he
        clear he
        have hlw : Later w wr := hl2.trans hb
        by_cases hlt : k < parts.length
        · obtain ⟨b, o, rfl, hx⟩ := (p3.later hb) (by omega)
          obtain ⟨x0, x1, x2, x3⟩ := hx.get hlt
          have zb := World.block_lt_of_cell? _ _ x0
          have Hno := Lib.hid (fun h => Hs3.out ⟨_, List.getElem_mem hlt, h⟩)
          have Hst := Lib.hid (show clothB parts[k] rs = true → ∀ i (hi : i < parts.length), i < k + 1 → clothB parts[i] rs = true from fun h i hi h2 => by
            by_cases e : i = k
            · subst e; exact h
            · exact He.out i hi (by omega))
          have HS2 := Lib.hid (fun W (hW : Later w W) => HSo.out parts[k] W hW)
          generalize parts[k] = p at *
          rcases hcb : clothB p rs with _ | _
          · rw [hcb] at HS2
            have HRv := Lib.hid (Hno.out hcb)
            clear hcb
            obtain ⟨pa, pb, pc_, pd⟩ := p
            unfold Qd.agg at HS2
            simp only [] at x0 x1 x2 x3 HS2
            go_wp2_with (first | (go_at_call 58; (with_reducible refine (HS2.out _ hlw).mono ?_); rintro e w5 ⟨rfl, hb5⟩))
            go_ret2
            exact rests_err HRv.out rfl (hlw.trans hb5)
          · rw [hcb] at HS2
            have HRv := Lib.hid (Hst.out hcb)
            clear hcb
            obtain ⟨pa, pb, pc_, pd⟩ := p
            unfold Qd.agg at HS2
            simp only [] at x0 x1 x2 x3 HS2
            go_wp2_with (first | (go_at_call 58; (with_reducible refine (HS2.out _ hlw).mono ?_); rintro e w5 ⟨rfl, hb5⟩))
            go_roundw
            case rel => exact ⟨k + 1, by omega, by go_num, HRv.out, hb.trans hb5⟩
            case measure => simp [intOf]; omega
        · have hcl : ∀ p ∈ parts, clothB p rs = true := fun p hp => by
            obtain ⟨i, hi, rfl⟩ := List.getElem_of_mem hp
            exact He.out i hi (by omega)
          have HT := Lib.hid (fun W (hW : Later wr W) => ref38_twice A2 c2' parts W (p3.later (hb.trans hW)) (by omega))
          by_cases hnt : NoTwice parts
          · have htw : twiceB parts = false := by unfold twiceB; simp [hnt]
            rw [htw] at HT
            have HRv := Lib.hid (Hs5.out hcl hnt)
            have Hsc := Lib.hid (show ∀ i (hi : i < rs.length) (t : Int), Scan (i : Int) t (rs[i]).ln parts 0 [] from fun i hi t => scan_start (by have := hln _ (List.getElem_mem hi); omega) (fun z hz => by
              obtain ⟨q, hq, h3, rfl⟩ := zones_mem.1 hz
              have := clothB_in (hcl q hq)
              rw [h3, Int.toNat_natCast, grl_eq hi] at this
              exact ⟨this.2.2.1, this.2.2.2.1, this.2.2.2.2⟩) (noTwice_disj hnt _))
            have Hbig := Lib.hid (show (restsFrom parts rs lots 0).length ≤ 42000 from Nat.le_trans restsFrom_len (Nat.le_trans (Nat.mul_le_mul hr20 (show parts.length + 1 ≤ 2001 by omega)) (by decide)))
            clear hnt htw hcl He
            obtain ⟨wo, hwo⟩ : ∃ wo : World, wo = wr := ⟨_, rfl⟩
            go_upto_region 16 with (first | (go_at_call 59; (with_reducible refine (HT.out _ (by repeat' (with_reducible first | exact Later.refl _ | assumption | refine Later.drew ?_ | refine Later.drewN ?_ _ | refine Later.alloc ?_ _ | refine Later.put ?_ (by omega) _ | refine Later.trans ?_ (by assumption)))).mono ?_); rintro e w6 ⟨rfl, hb6⟩))
            have hl6 : Later w w6 := hlw.trans hb6
            have hp6 := p3.later (hb.trans hb6)
            clear hwo
            go_loopw [11, 12] (fun v iv wr => ∃ (k : Nat) (acc : List Qd), k ≤ rs.length ∧ iv = .int .i64 k ∧ restsFrom parts rs lots 0 = acc ++ restsFrom parts (rs.drop k) (lots.drop k) k ∧ OwnR wr w6.heap.size 68 4 qd4 v acc ∧ Later w6 wr) (fun _ iv _ => rs.length - (intOf iv).toNat)
            case atStart => exact ⟨0, [], by omega, rfl, rfl, World.ownsRow_nil _ _ _ _, Later.refl _⟩
            case round =>
              obtain ⟨k, acc, hk, rfl, he, ho, hb⟩ := hrel
              have He := Lib.hid he
              have Ho := Lib.hid ho
              clear he ho
              have hlk : Later w wr := hl6.trans hb
              by_cases hlt : k < rs.length
              · have hlt2 : k < lots.length := by rw [Hnl.out]; exact hlt
                obtain ⟨br, or_, rfl, _, _, z2w, _⟩ := hr.at_ hlt
                obtain ⟨bl, ol, rfl, y0w⟩ := hL.at_ hlt2
                have Hst := Lib.hid (show restsFrom parts rs lots 0 = acc ++ (restGo (k : Int) lots[k] (rs[k]).ln 0 (sortZ (zonesOf (k : Int) parts)) ++ restsFrom parts (rs.drop (k + 1)) (lots.drop (k + 1)) (k + 1)) by
                  rw [He.out, drop_cons' rs k hlt, drop_cons' lots k hlt2, restsFrom_step])
                have Hal := Lib.hid (show acc.length ≤ 42000 by have h := Hbig.out; rw [He.out, List.length_append] at h; omega)
                have HS0 := Lib.hid (Hsc.out k hlt lots[k])
                have hln1 := hln _ (List.getElem_mem hlt)
                have hk0 : (0 : Int) ≤ (k : Int) := by omega
                have hk1 : (k : Int) < (rs.length : Int) := by omega
                have hk2 : (k : Int) < (lots.length : Int) := by omega
                generalize (rs[k]).ln = ln at *
                generalize lots[k] = t at *
                go_upto_region 19 with fail
                have hb0 := hb
                clear hb hlk
                obtain ⟨wi, hwi⟩ : ∃ wi : World, wi = wr := ⟨_, rfl⟩
                rw [← hwi] at Ho hb0 ⊢
                clear hwi
                go_loopw [11, 13] (fun v av wr => ∃ (prod : List Qd) (at_ : Int), av = .int .i64 at_ ∧ 0 ≤ at_ ∧ at_ ≤ ln ∧ Scan (k : Int) t ln parts at_ prod ∧ OwnR wr w6.heap.size 68 4 qd4 v (acc ++ prod) ∧ Later w6 wr) (fun _ av _ => (ln - intOf av).toNat)
                case atStart => exact ⟨[], 0, rfl, by omega, by omega, HS0.out, by rw [List.append_nil]; exact Ho.out, hb0⟩
                case round =>
                  obtain ⟨prod, at_, rfl, ha0, ha1, hsc, ho2, hb2⟩ := hrel
                  have HSc := Lib.hid hsc
                  have Ho2 := Lib.hid ho2
                  have Hpl := Lib.hid (scan_len hsc)
                  clear hsc ho2
                  have hlk2 : Later w wr := hl6.trans hb2
                  have z2 := hlk2.cell z2w
                  have zr := World.block_lt_of_cell? _ _ z2
                  have y0 := hlk2.cell y0w
                  have zl := World.block_lt_of_cell? _ _ y0
                  by_cases hat : at_ < ln
                  · have dl : decide (at_ < ln) = true := by simpa using hat
                    go_upto_region 20 with fail
                    go_quiet (fail)
                    go_upto_region 22 with fail
                    refine name_world (fun W7 hW7 => ?_)
                    have hl7 : Later wr W7 := by rw [hW7]; exact (by repeat' (with_reducible first | exact Later.refl _ | assumption | refine Later.drew ?_ | refine Later.drewN ?_ _ | refine Later.alloc ?_ _ | refine Later.put ?_ (by omega) _ | refine Later.trans ?_ (by assumption)))
                    have z2 := hl7.cell z2
                    have zr := World.block_lt_of_cell? _ _ z2
                    have y0 := hl7.cell y0
                    have zl := World.block_lt_of_cell? _ _ y0
                    have hb7 := hb2.trans hl7
                    have Ho7 := Lib.hid (Ho2.out.later hl7)
                    have hp7 := hp6.later hb7
                    clear hW7
                    go_loopw [14, 15, 16] (fun fv tv jv wq => ∃ (j : Nat) (f tq : Int), j ≤ parts.length ∧ jv = .int .i64 j ∧ fv = .int .i64 f ∧ tv = .int .i64 tq ∧ IsNext (k : Int) at_ ln (parts.take j) f tq ∧ Later W7 wq) (fun _ _ jv _ => parts.length - (intOf jv).toNat)
                    case atStart => exact ⟨0, ln, ln, by omega, rfl, rfl, rfl, by rw [List.take_zero]; exact next_nil _ _ _, Later.refl _⟩
                    case round =>
                      obtain ⟨j, f, tq, hj, rfl, rfl, rfl, hn, hbj⟩ := hrel
                      have Hn := Lib.hid hn
                      clear hn
                      by_cases hjl : j < parts.length
                      · obtain ⟨b, o, rfl, hx⟩ := (hp7.later hbj) (by omega)
                        obtain ⟨x0, x1, x2, x3⟩ := hx.get hjl
                        have zb := World.block_lt_of_cell? _ _ x0
                        have Htk := Lib.hid (show parts.take (j + 1) = parts.take j ++ [parts[j]] from List.take_succ_eq_append_getElem hjl)
                        have hj0 : (0 : Int) ≤ (j : Int) := by omega
                        have hj1 : (j : Int) < (parts.length : Int) := by omega
                        generalize parts[j] = q at *
                        have Hhit := Lib.hid (next_hit (p := q) Hn.out)
                        have Hmiss := Lib.hid (next_miss (p := q) Hn.out)
                        obtain ⟨qa, qb, qc, qd⟩ := q
                        simp only [] at x0 x1 x2 x3 Hhit Hmiss
                        by_cases h1 : qa = (k : Int)
                        · have e1 : (qa == (k : Int)) = true := by simpa using h1
                          by_cases h2 : at_ ≤ qb
                          · have e2 : decide (at_ ≤ qb) = true := by simpa using h2
                            have e2' : decide (qb ≥ at_) = true := by simpa using h2
                            by_cases h3 : qb < f
                            · have e3 : decide (qb < f) = true := by simpa using h3
                              have HR := Lib.hid (Hhit.out h1 h2 h3)
                              clear h1
                              go_wp2
                              go_roundw
                              case rel => exact ⟨j + 1, qb, qc, by omega, by go_num, by rfl, by rfl, by rw [Htk.out]; exact HR.out, hbj.trans (by repeat' (with_reducible first | exact Later.refl _ | assumption | refine Later.drew ?_ | refine Later.drewN ?_ _ | refine Later.alloc ?_ _ | refine Later.put ?_ (by omega) _ | refine Later.trans ?_ (by assumption)))⟩
                              case measure => simp [intOf]; omega
                            · have e3 : decide (qb < f) = false := by simpa using h3
                              have HR := Lib.hid (Hmiss.out (by rintro ⟨_, _, h⟩; exact h3 h))
                              clear h1
                              go_wp2
                              go_roundw
                              case rel => exact ⟨j + 1, f, tq, by omega, by go_num, by rfl, by rfl, by rw [Htk.out]; exact HR.out, hbj.trans (by repeat' (with_reducible first | exact Later.refl _ | assumption | refine Later.drew ?_ | refine Later.drewN ?_ _ | refine Later.alloc ?_ _ | refine Later.put ?_ (by omega) _ | refine Later.trans ?_ (by assumption)))⟩
                              case measure => simp [intOf]; omega
                          · have e2 : decide (at_ ≤ qb) = false := by simpa using h2
                            have e2' : decide (qb ≥ at_) = false := by simpa using h2
                            have HR := Lib.hid (Hmiss.out (by rintro ⟨_, h, _⟩; exact h2 h))
                            clear h1
                            go_wp2
                            go_roundw
                            case rel => exact ⟨j + 1, f, tq, by omega, by go_num, by rfl, by rfl, by rw [Htk.out]; exact HR.out, hbj.trans (by repeat' (with_reducible first | exact Later.refl _ | assumption | refine Later.drew ?_ | refine Later.drewN ?_ _ | refine Later.alloc ?_ _ | refine Later.put ?_ (by omega) _ | refine Later.trans ?_ (by assumption)))⟩
                            case measure => simp [intOf]; omega
                        · have e1 : (qa == (k : Int)) = false := by simpa using h1
                          have HR := Lib.hid (Hmiss.out (by rintro ⟨h, _, _⟩; exact h1 h))
                          clear h1
                          go_wp2
                          go_roundw
                          case rel => exact ⟨j + 1, f, tq, by omega, by go_num, by rfl, by rfl, by rw [Htk.out]; exact HR.out, hbj.trans (by repeat' (with_reducible first | exact Later.refl _ | assumption | refine Later.drew ?_ | refine Later.drewN ?_ _ | refine Later.alloc ?_ _ | refine Later.put ?_ (by omega) _ | refine Later.trans ?_ (by assumption)))⟩
                          case measure => simp [intOf]; omega
                      · rw [List.take_of_length_le (by omega)] at Hn
                        obtain ⟨s1, s2, s3, s4, s5⟩ := scan_step HSc.out hat Hn.out
                        have S4 := Lib.hid s4
                        have S5 := Lib.hid s5
                        clear s4 s5
                        by_cases hf : at_ < f
                        · have df : decide (at_ < f) = true := by simpa using hf
                          have HR := Lib.hid (S4.out hf)
                          go_upto_region 28 with fail
                          refine name_world (fun W9 hW9 => ?_)
                          have hl9 : Later W7 W9 := by rw [hW9]; exact hbj.trans (by repeat' (with_reducible first | exact Later.refl _ | assumption | refine Later.drew ?_ | refine Later.drewN ?_ _ | refine Later.alloc ?_ _ | refine Later.put ?_ (by omega) _ | refine Later.trans ?_ (by assumption)))
                          have y0 := hl9.cell y0
                          have zl := World.block_lt_of_cell? _ _ y0
                          clear hW9
                          have HS := Lib.hid (SrcAt.blk (Blk.new W9 68 #[.int .i64 (k : Int), .int .i64 t, .int .i64 at_, .int .i64 f]))
                          go_wp2_with (at_builtin; refine wpList_append_rec slt_rest qd4_len qd4_one rfl (.tmp 111) (.tmp 120) rfl (base := w6.heap.size) (l := acc ++ prod) rfl (OwnR.alloc (Ho7.out.later hl9) _) (A := some ⟨W9.heap.size, 0, none⟩) (c := 1) [⟨(k : Int), t, at_, f⟩] rfl (by intro h; cases h) HS.out (by have := Hal.out; have := Hpl.out; simp; omega) (by have := hb7.size; have := hl9.size; simp; omega) ?_; intro A3 c3' w3 ho3 hg3)
                          have hl3 : Later w6 w3 := Later.grown ((hb7.trans hl9).alloc _) hg3 (fun g hg => (World.ownsRow.lt Ho7.out g hg).1)
                          clear hg3
                          have Ho3 := Lib.hid ho3
                          clear ho3
                          simp only [List.length_append, List.length_singleton] at Ho3
                          go_roundw
                          case rel => exact ⟨prod ++ [⟨(k : Int), t, at_, f⟩], tq, by rfl, by omega, s2, HR.out, by rw [← List.append_assoc]; exact Ho3.out, hl3⟩
                          case measure => simp [intOf]; omega
                        · have df : decide (at_ < f) = false := by simpa using hf
                          have HR := Lib.hid (S5.out hf)
                          go_wp2
                          go_roundw
                          case rel => exact ⟨prod, tq, by rfl, by omega, s2, HR.out, Ho7.out.later (hbj.trans (by repeat' (with_reducible first | exact Later.refl _ | assumption | refine Later.drew ?_ | refine Later.drewN ?_ _ | refine Later.alloc ?_ _ | refine Later.put ?_ (by omega) _ | refine Later.trans ?_ (by assumption)))), hb7.trans (hbj.trans (by repeat' (with_reducible first | exact Later.refl _ | assumption | refine Later.drew ?_ | refine Later.drewN ?_ _ | refine Later.alloc ?_ _ | refine Later.put ?_ (by omega) _ | refine Later.trans ?_ (by assumption))))⟩
                          case measure => simp [intOf]; omega
                  · have dl : decide (at_ < ln) = false := by simpa using hat
                    have HR := Lib.hid (scan_end HSc.out hat)
                    go_wp2
                    go_roundw
                    case rel => exact ⟨k + 1, acc ++ prod, by omega, by go_num, by rw [Hst.out, HR.out, List.append_assoc], Ho2.out, hb2⟩
                    case measure => simp [intOf]; omega
              · have H0 := Lib.hid (show restsFrom parts rs lots 0 = acc by rw [He.out, List.drop_eq_nil_of_le (by omega)]; cases lots.drop k <;> simp [restsFrom])
                obtain ⟨A6, c6, e6, q1, q2, q3⟩ := Ho.out.qds
                subst e6
                go_wp2
                go_ret2
                exact ⟨A6, c6, by rw [HRv.out, H0.out]; rfl, by rw [HRv.out, H0.out]; exact OwnR.base Ho.out hl6.size, hlk⟩
          · have htw : twiceB parts = true := by unfold twiceB; simp [hnt]
            rw [htw] at HT
            have HRv := Lib.hid (Hs4.out hcl hnt)
            clear hnt htw hcl
            go_wp2_with (first | (go_at_call 59; (with_reducible refine (HT.out _ (by repeat' (with_reducible first | exact Later.refl _ | assumption | refine Later.drew ?_ | refine Later.drewN ?_ _ | refine Later.alloc ?_ _ | refine Later.put ?_ (by omega) _ | refine Later.trans ?_ (by assumption)))).mono ?_); rintro e w6 ⟨rfl, hb6⟩))
            go_ret2
            exact rests_err HRv.out rfl (hlw.trans hb6)
  · have dn : (er != 0) = true := by simpa using h0
    have HRv := Lib.hid (Hr1.out h0)
    go_enter Try.func38, Try.ntmps38
    go_wp2_with (first | (go_at_call 56; (with_reducible refine (HK.out _ (by repeat' (with_reducible first | exact Later.refl _ | assumption | refine Later.drew ?_ | refine Later.drewN ?_ _ | refine Later.alloc ?_ _ | refine Later.put ?_ (by omega) _ | refine Later.trans ?_ (by assumption)))).mono ?_); rintro e w1 ⟨rfl, hb1⟩))
    go_ret2
    exact rests_err HRv.out rfl (by repeat' (with_reducible first | exact Later.refl _ | assumption | refine Later.drew ?_ | refine Later.drewN ?_ _ | refine Later.alloc ?_ _ | refine Later.put ?_ (by omega) _ | refine Later.trans ?_ (by assumption)))

end Go.Proofs.Ytpiniflhaokkaaa
