/-
  The walks of damage.isCoord and damage.carries, and of the reference's twins.
  Records in memory: slices of records of any number of cells; rolls and plies.
  A new block at an address that is known by an equation.
-/
import Derived.Test.YtdhakoecjmaebaaHits
import Derived.Test.YtdhakoecjmaebaaAppR
/- The walks of damage.isCoord and damage.carries, and of the reference's twins. -/
namespace Go.Proofs.Ytdhakoecjmaebaa
open Go.RowKit
set_option linter.unusedSimpArgs false
set_option linter.unusedVariables false

/-- Four numbers: a part (roll, from, to, at) or a rectangle (x, y, w, h). -/
structure Qd where
  a : Int
  b : Int
  c : Int
  d : Int
def Qd.agg (p : Qd) : Value := .agg #[.int .i64 p.a, .int .i64 p.b, .int .i64 p.c, .int .i64 p.d]
/-- From offset o on block b holds the rows of four. -/
def QdsAt (w : World) (b o : Nat) (ps : List Qd) : Prop :=
  ∀ i (p : Qd), ps[i]? = some p → w.cell? ⟨b, o + i * 4, none⟩ = some (.int .i64 p.a) ∧ w.cell? ⟨b, o + i * 4 + 1, none⟩ = some (.int .i64 p.b) ∧
    w.cell? ⟨b, o + i * 4 + 2, none⟩ = some (.int .i64 p.c) ∧ w.cell? ⟨b, o + i * 4 + 3, none⟩ = some (.int .i64 p.d)
def Qds (w : World) (A : Option Addr) (ps : List Qd) : Prop := 0 < ps.length → ∃ b o, A = some ⟨b, o, none⟩ ∧ QdsAt w b o ps
theorem QdsAt.later {w w' : World} {b o : Nat} {ps : List Qd} (h : QdsAt w b o ps) (k : Later w w') : QdsAt w' b o ps :=
  fun i p hp => ⟨k.cell (h i p hp).1, k.cell (h i p hp).2.1, k.cell (h i p hp).2.2.1, k.cell (h i p hp).2.2.2⟩
theorem Qds.later {w w' : World} {A : Option Addr} {ps : List Qd} (h : Qds w A ps) (k : Later w w') : Qds w' A ps :=
  fun hn => let ⟨b, o, e, hc⟩ := h hn; ⟨b, o, e, hc.later k⟩
theorem QdsAt.get {w : World} {b o : Nat} {ps : List Qd} (h : QdsAt w b o ps) {k : Nat} (hk : k < ps.length) :
    w.cell? ⟨b, o + k * 4, none⟩ = some (.int .i64 ps[k].a) ∧ w.cell? ⟨b, o + k * 4 + 1, none⟩ = some (.int .i64 ps[k].b) ∧
    w.cell? ⟨b, o + k * 4 + 2, none⟩ = some (.int .i64 ps[k].c) ∧ w.cell? ⟨b, o + k * 4 + 3, none⟩ = some (.int .i64 ps[k].d) :=
  h k _ (List.getElem?_eq_getElem hk)
def coordB (n : Int) : Bool := decide (n ≥ 0) && decide (n ≤ 1048576)
def carriesB (p : Qd) (lo hi : Int) : Bool :=
  coordB p.d && (coordB p.b && (coordB p.c && (decide (p.d ≤ lo) && decide (hi ≤ p.d + p.c - p.b))))
theorem coord_bd {n : Int} (h : coordB n = true) : 0 ≤ n ∧ n ≤ 1048576 := by
  unfold coordB at h
  simp only [Bool.and_eq_true, decide_eq_true_eq] at h
  omega

/-- The first part that carries from lo to hi: its number and the error. -/
def carrierGo (lo hi : Int) : List Qd → Nat → Int × Int
  | [], _ => (0, 20)
  | p :: l, k => if carriesB p lo hi = true then ((k : Int), 0) else carrierGo lo hi l (k + 1)
def carrierR (parts : List Qd) (ps : List Pt) : Int × Int :=
  if checkI ps = 0 then carrierGo (loOf ps).x (hiOf ps).x parts 0 else (0, checkI ps)
theorem carrier_hit {lo hi : Int} {p : Qd} {l : List Qd} {k : Nat} (h : carriesB p lo hi = true) : carrierGo lo hi (p :: l) k = ((k : Int), 0) := by rw [carrierGo, if_pos h]
theorem carrier_miss {lo hi : Int} {p : Qd} {l : List Qd} {k : Nat} (h : carriesB p lo hi = false) : carrierGo lo hi (p :: l) k = carrierGo lo hi l (k + 1) := by rw [carrierGo, if_neg (by simp [h])]

end Go.Proofs.Ytdhakoecjmaebaa

/- Records in memory: slices of records of any number of cells; rolls and plies. -/
namespace Go.Proofs.Ytdhakoecjmaebaa
open Go.RowKit
set_option linter.unusedSimpArgs false
set_option linter.unusedVariables false

def QdI (q : Qd) : Prop := I64 q.a ∧ I64 q.b ∧ I64 q.c ∧ I64 q.d
/-- A ply: its lot and its parts. -/
structure Py where
  lot : Int
  pa : Option Addr
  pc : Nat
  parts : List Qd
def Py.cells (p : Py) : List Value := [.int .i64 p.lot, .slice p.pa p.parts.length p.pc]
def Py.agg (p : Py) : Value := .agg #[.int .i64 p.lot, .slice p.pa p.parts.length p.pc]
def PyOk (w : World) (p : Py) : Prop := p.parts.length ≤ p.pc ∧ p.pc ≤ maxLen ∧ Qds w p.pa p.parts ∧ ∀ q ∈ p.parts, QdI q
theorem PyOk.later {w w' : World} {p : Py} (h : PyOk w p) (k : Later w w') : PyOk w' p := ⟨h.1, h.2.1, h.2.2.1.later k, h.2.2.2⟩
/-- A roll. -/
structure Rl where
  id : ByteArray
  wd : Int
  ln : Int
  tl : Int
  ta : Int
  tb : Int
  fa : Option Addr
  fc : Nat
  fl : List Qd
def Rl.cells (r : Rl) : List Value := [.string r.id, .int .i64 r.wd, .int .i64 r.ln, .int .i64 r.tl, .int .i64 r.ta, .int .i64 r.tb, .slice r.fa r.fl.length r.fc]
def Rl.agg (r : Rl) : Value := .agg #[.string r.id, .int .i64 r.wd, .int .i64 r.ln, .int .i64 r.tl, .int .i64 r.ta, .int .i64 r.tb, .slice r.fa r.fl.length r.fc]
def RlOk (w : World) (r : Rl) : Prop := r.id.size ≤ maxLen ∧ r.fl.length ≤ r.fc ∧ r.fc ≤ maxLen ∧ Qds w r.fa r.fl ∧ (∀ q ∈ r.fl, QdI q) ∧ I64 r.wd ∧ I64 r.ln ∧ I64 r.tl ∧ I64 r.ta ∧ I64 r.tb
theorem RlOk.later {w w' : World} {r : Rl} (h : RlOk w r) (k : Later w w') : RlOk w' r := ⟨h.1, h.2.1, h.2.2.1, h.2.2.2.1.later k, h.2.2.2.2⟩

def Plys (w : World) (A : Option Addr) (l : List Py) : Prop := ListAt w 2 Py.cells PyOk A l
theorem Plys.later {w w' : World} {A : Option Addr} {l : List Py} (h : Plys w A l) (k : Later w w') : Plys w' A l := ListAt.later h (fun _ ho => ho.later k) k
def Rolls (w : World) (A : Option Addr) (l : List Rl) : Prop := ListAt w 7 Rl.cells RlOk A l
theorem Rolls.later {w w' : World} {A : Option Addr} {l : List Rl} (h : Rolls w A l) (k : Later w w') : Rolls w' A l := ListAt.later h (fun _ ho => ho.later k) k
theorem Rolls.at_ {w : World} {A : Option Addr} {l : List Rl} (h : Rolls w A l) {k : Nat} (hk : k < l.length) :
    ∃ b o, A = some ⟨b, o, none⟩ ∧ w.cell? ⟨b, o + k * 7, none⟩ = some (.string (l[k]).id) ∧ w.cell? ⟨b, o + k * 7 + 1, none⟩ = some (.int .i64 (l[k]).wd) ∧ w.cell? ⟨b, o + k * 7 + 2, none⟩ = some (.int .i64 (l[k]).ln) ∧
      w.cell? ⟨b, o + k * 7 + 3, none⟩ = some (.int .i64 (l[k]).tl) ∧ w.cell? ⟨b, o + k * 7 + 4, none⟩ = some (.int .i64 (l[k]).ta) ∧ w.cell? ⟨b, o + k * 7 + 5, none⟩ = some (.int .i64 (l[k]).tb) ∧
      w.cell? ⟨b, o + k * 7 + 6, none⟩ = some (.slice (l[k]).fa (l[k]).fl.length (l[k]).fc) ∧ RlOk w (l[k]) := by
  obtain ⟨b, o, e, hc⟩ := h (by omega)
  obtain ⟨h1, h2⟩ := hc k _ (List.getElem?_eq_getElem hk)
  exact ⟨b, o, e, h1 0 _ rfl, h1 1 _ rfl, h1 2 _ rfl, h1 3 _ rfl, h1 4 _ rfl, h1 5 _ rfl, h1 6 _ rfl, h2⟩
theorem Plys.at_ {w : World} {A : Option Addr} {l : List Py} (h : Plys w A l) {k : Nat} (hk : k < l.length) :
    ∃ b o, A = some ⟨b, o, none⟩ ∧ w.cell? ⟨b, o + k * 2, none⟩ = some (.int .i64 (l[k]).lot) ∧ w.cell? ⟨b, o + k * 2 + 1, none⟩ = some (.slice (l[k]).pa (l[k]).parts.length (l[k]).pc) ∧ PyOk w (l[k]) := by
  obtain ⟨b, o, e, hc⟩ := h (by omega)
  obtain ⟨h1, h2⟩ := hc k _ (List.getElem?_eq_getElem hk)
  exact ⟨b, o, e, h1 0 _ rfl, h1 1 _ rfl, h2⟩

/- The form of an Id. -/
def capB (c : UInt8) : Bool := decide (65 ≤ (c.toNat : Int)) && decide ((c.toNat : Int) ≤ 90)
def othB (c : UInt8) : Bool := (decide (97 ≤ (c.toNat : Int)) && decide ((c.toNat : Int) ≤ 122)) || (decide (48 ≤ (c.toNat : Int)) && decide ((c.toNat : Int) ≤ 57))
def chBad (c : UInt8) (k : Nat) : Bool := !capB c && (decide (k = 0) || !othB c)
def idGo : List UInt8 → Nat → Bool
  | [], _ => true
  | c :: l, k => if chBad c k = true then false else idGo l (k + 1)
def idB (s : ByteArray) : Bool := idGo s.data.toList 0 && (decide (1 ≤ s.size) && decide ((s.size : Int) ≤ 8))
theorem id_drop (s : ByteArray) (k : Nat) (h : k < s.size) : s.data.toList.drop k = s[k] :: s.data.toList.drop (k + 1) := by
  rw [List.drop_eq_getElem_cons (by simpa using h)]; rfl

set_option maxHeartbeats 2000000 in
theorem roll_isId (s : ByteArray) (w : World) (hs : s.size ≤ maxLen) : Calls Try.prog 44 #[.string s] w (Pure (.bool (idB s)) w) := by
  unfold maxLen at hs
  go_enter Try.func44, Try.ntmps44
  go_wp2
  go_loop [2, 3, 4, 5, 6, 9] (fun _ _ _ _ _ i => ∃ k : Nat, k ≤ s.size ∧ i = .int .i64 k ∧ idGo s.data.toList 0 = idGo (s.data.toList.drop k) k) (fun _ _ _ _ _ i => s.size - (intOf i).toNat)
  case atStart => exact ⟨0, Nat.zero_le _, rfl, rfl⟩
  case round =>
    obtain ⟨k, hk, rfl, he⟩ := hrel
    have He := Lib.hid he
    clear he
    by_cases hlt : k < s.size
    · have Hd := Lib.hid (id_drop s k hlt)
      go_wp2
      all_goals
        first
        | (exfalso; omega)
        | (go_ret
           exact ⟨ret_bool (by rw [idB, He.out, Hd.out, idGo, if_pos (by first | (simp [chBad, capB, othB]; omega) | (simp_all [chBad, capB, othB] <;> omega))]; rfl), rfl⟩)
        | (go_round
           case rel => exact ⟨k + 1, by omega, by go_num, by rw [He.out, Hd.out, idGo, if_neg (by first | (simp [chBad, capB, othB]; omega) | (simp_all [chBad, capB, othB] <;> omega))]⟩
           case measure => simp [intOf]; omega)
    · have he : idGo s.data.toList 0 = true := by rw [He.out, List.drop_eq_nil_of_le (by simp; omega)]; rfl
      have He' := Lib.hid he
      clear he
      by_cases h1 : 1 ≤ s.size
      · have d : decide (1 ≤ s.size) = true := by simpa using h1
        have d' : decide ((1 : Int) ≤ (s.size : Int)) = true := by simp; omega
        go_wp2
        go_ret
        exact ⟨ret_bool (by rw [idB, He'.out]; simp [h1]), rfl⟩
      · have d : decide (1 ≤ s.size) = false := by simpa using h1
        have d' : decide ((1 : Int) ≤ (s.size : Int)) = false := by simp; omega
        go_wp2
        go_ret
        exact ⟨ret_bool (by rw [idB, He'.out]; simp [h1]), rfl⟩

end Go.Proofs.Ytdhakoecjmaebaa

/- A new block at an address that is known by an equation. -/
namespace Go.Proofs.Ytdhakoecjmaebaa
open Go.RowKit
theorem Blk.newAt {w : World} {t : TypeId} {cs : Array Value} {g : Nat} (h : w.heap.size = g) : Blk (w.alloc (.cells cs t)) g t cs := by subst h; exact Blk.new w t cs
theorem Blk.at2 {w : World} {o : Obj} {t : TypeId} {cs : Array Value} : Blk ((w.alloc o).alloc (.cells cs t)) (w.heap.size + 1) t cs := Blk.newAt (by simp)
theorem Blk.at3 {w : World} {o o' : Obj} {t : TypeId} {cs : Array Value} : Blk (((w.alloc o).alloc o').alloc (.cells cs t)) (w.heap.size + 1 + 1) t cs := Blk.newAt (by simp)
end Go.Proofs.Ytdhakoecjmaebaa
