/-
  No cell of these rows narrows 'for every input' (looked for: loops, veiled, ifaces, maps, wideKeys, modest, calm, conditions, laid).
  DERIVED. THE GIVEN ROWS OF THIS SEAT. 8 by the template 'for every input the law returns true; each argument reads behind the call as it read before'; 0 by the template 'total and deterministic' (their statements: YtpiniflhaokkaaaTotals.lean).
  GIVEN WITH THE SEED: the statements are not yours to turn. If you find one false, say at which input.
  Laid BY PROGRAM, IN A SANDBOX (cutbox-rows.mjs): the forced cells as the released guide's own fill.sh prints them over the translation 97a74ec0137d47f4… (all of the seat's roots in one cut). By AI agents, Wed Nov 11 2026. No macro, syntax, notation, axiom, sorry.
-/
import Derived.Test.YtpiniflhaokkaaaChecked
import GoSem.Claim
import GoSem.ClaimJoined
import GoSem.ClaimMapViews
import Derived.JoinedTies
import Derived.KernelRfl
namespace Go.Proofs.Ytpiniflhaokkaaa
/- THE CELL 'sum', in the pinned program and in every row, IS THE sha256 OF THE DUMP (.gsa) THAT YtpiniflhaokkaaaProg.lean LOADS. Nothing in Lean hashes anything: it is a label: what it is worth is what the hold of that sum in a sandbox is worth. -/
noncomputable def Try.pinned : Pinned := { name := "ytpiniflhaokkaaa", sum := "97a74ec0137d47f4786b5791989d4772963f1763dc823f68be2078a8edb90a83", checked := Try.checked }
namespace Rows
def none {H : Type} : Left H := { results := [], args := [] }

/-- 'garmentlaw38.SpreadBegins': WHATEVER THE INPUT: true; the input reads as it did. -/
def spreadBeginsSpec : ChangeSpec := { name := "spreadBegins", fn := fun _ => fun
  | [d1, d2, d3] => { results := [.lit (.bool true)], args := [d1, d2, d3] }
  | _ => none }
def spreadBeginsRow : OpenClaim := { program := "ytpiniflhaokkaaa", sum := "97a74ec0137d47f4786b5791989d4772963f1763dc823f68be2078a8edb90a83", func := "garment/garmentlaw38.SpreadBegins", spec := "spreadBegins", unfollowed := true, recurses := true, apart := false }
def SpreadBeginsSaid : Prop := spreadBeginsRow.holds Try.pinned (OpenSpec.ofChange spreadBeginsSpec)

/-- ITS FALSE NEIGHBOUR: 'it returns false'. Refute it at one input. -/
def spreadBeginsWrong : ChangeSpec := { name := "spreadBegins", fn := fun _ => fun
  | [d1, d2, d3] => { results := [.lit (.bool false)], args := [d1, d2, d3] }
  | _ => none }
def SpreadBeginsWrongFalsely : Prop := spreadBeginsRow.holds Try.pinned (OpenSpec.ofChange spreadBeginsWrong)

/-- 'garmentlaw38.SpreadChanges': WHATEVER THE INPUT: true; the input reads as it did. -/
def spreadChangesSpec : ChangeSpec := { name := "spreadChanges", fn := fun _ => fun
  | [d1, d2] => { results := [.lit (.bool true)], args := [d1, d2] }
  | _ => none }
def spreadChangesRow : OpenClaim := { program := "ytpiniflhaokkaaa", sum := "97a74ec0137d47f4786b5791989d4772963f1763dc823f68be2078a8edb90a83", func := "garment/garmentlaw38.SpreadChanges", spec := "spreadChanges", unfollowed := true, recurses := true, apart := false }
def SpreadChangesSaid : Prop := spreadChangesRow.holds Try.pinned (OpenSpec.ofChange spreadChangesSpec)

/-- ITS FALSE NEIGHBOUR: 'it returns false'. Refute it at one input. -/
def spreadChangesWrong : ChangeSpec := { name := "spreadChanges", fn := fun _ => fun
  | [d1, d2] => { results := [.lit (.bool false)], args := [d1, d2] }
  | _ => none }
def SpreadChangesWrongFalsely : Prop := spreadChangesRow.holds Try.pinned (OpenSpec.ofChange spreadChangesWrong)

/-- 'garmentlaw40.AccountRolls': WHATEVER THE INPUT: true; the input reads as it did. -/
def accountRollsSpec : ChangeSpec := { name := "accountRolls", fn := fun _ => fun
  | [d1, d2] => { results := [.lit (.bool true)], args := [d1, d2] }
  | _ => none }
def accountRollsRow : OpenClaim := { program := "ytpiniflhaokkaaa", sum := "97a74ec0137d47f4786b5791989d4772963f1763dc823f68be2078a8edb90a83", func := "garment/garmentlaw40.AccountRolls", spec := "accountRolls", unfollowed := true, recurses := true, apart := false }
def AccountRollsSaid : Prop := accountRollsRow.holds Try.pinned (OpenSpec.ofChange accountRollsSpec)

/-- ITS FALSE NEIGHBOUR: 'it returns false'. Refute it at one input. -/
def accountRollsWrong : ChangeSpec := { name := "accountRolls", fn := fun _ => fun
  | [d1, d2] => { results := [.lit (.bool false)], args := [d1, d2] }
  | _ => none }
def AccountRollsWrongFalsely : Prop := accountRollsRow.holds Try.pinned (OpenSpec.ofChange accountRollsWrong)

/-- 'garmentlaw40.AccountOrder': WHATEVER THE INPUT: true; the input reads as it did. -/
def accountOrderSpec : ChangeSpec := { name := "accountOrder", fn := fun _ => fun
  | [d1, d2] => { results := [.lit (.bool true)], args := [d1, d2] }
  | _ => none }
def accountOrderRow : OpenClaim := { program := "ytpiniflhaokkaaa", sum := "97a74ec0137d47f4786b5791989d4772963f1763dc823f68be2078a8edb90a83", func := "garment/garmentlaw40.AccountOrder", spec := "accountOrder", unfollowed := true, recurses := true, apart := false }
def AccountOrderSaid : Prop := accountOrderRow.holds Try.pinned (OpenSpec.ofChange accountOrderSpec)

/-- ITS FALSE NEIGHBOUR: 'it returns false'. Refute it at one input. -/
def accountOrderWrong : ChangeSpec := { name := "accountOrder", fn := fun _ => fun
  | [d1, d2] => { results := [.lit (.bool false)], args := [d1, d2] }
  | _ => none }
def AccountOrderWrongFalsely : Prop := accountOrderRow.holds Try.pinned (OpenSpec.ofChange accountOrderWrong)

/-- 'garmentlaw40.AccountBalances': WHATEVER THE INPUT: true; the input reads as it did. -/
def accountBalancesSpec : ChangeSpec := { name := "accountBalances", fn := fun _ => fun
  | [d] => { results := [.lit (.bool true)], args := [d] }
  | _ => none }
def accountBalancesRow : OpenClaim := { program := "ytpiniflhaokkaaa", sum := "97a74ec0137d47f4786b5791989d4772963f1763dc823f68be2078a8edb90a83", func := "garment/garmentlaw40.AccountBalances", spec := "accountBalances", unfollowed := true, recurses := true, apart := false }
def AccountBalancesSaid : Prop := accountBalancesRow.holds Try.pinned (OpenSpec.ofChange accountBalancesSpec)

/-- ITS FALSE NEIGHBOUR: 'it returns false'. Refute it at one input. -/
def accountBalancesWrong : ChangeSpec := { name := "accountBalances", fn := fun _ => fun
  | [d] => { results := [.lit (.bool false)], args := [d] }
  | _ => none }
def AccountBalancesWrongFalsely : Prop := accountBalancesRow.holds Try.pinned (OpenSpec.ofChange accountBalancesWrong)

/-- 'garmentlaw40.AccountAreas': WHATEVER THE INPUT: true; the input reads as it did. -/
def accountAreasSpec : ChangeSpec := { name := "accountAreas", fn := fun _ => fun
  | [d1, d2, d3] => { results := [.lit (.bool true)], args := [d1, d2, d3] }
  | _ => none }
def accountAreasRow : OpenClaim := { program := "ytpiniflhaokkaaa", sum := "97a74ec0137d47f4786b5791989d4772963f1763dc823f68be2078a8edb90a83", func := "garment/garmentlaw40.AccountAreas", spec := "accountAreas", unfollowed := true, recurses := true, apart := false }
def AccountAreasSaid : Prop := accountAreasRow.holds Try.pinned (OpenSpec.ofChange accountAreasSpec)

/-- ITS FALSE NEIGHBOUR: 'it returns false'. Refute it at one input. -/
def accountAreasWrong : ChangeSpec := { name := "accountAreas", fn := fun _ => fun
  | [d1, d2, d3] => { results := [.lit (.bool false)], args := [d1, d2, d3] }
  | _ => none }
def AccountAreasWrongFalsely : Prop := accountAreasRow.holds Try.pinned (OpenSpec.ofChange accountAreasWrong)

/-- 'garmentlaw40.AccountCovers': WHATEVER THE INPUT: true; the input reads as it did. -/
def accountCoversSpec : ChangeSpec := { name := "accountCovers", fn := fun _ => fun
  | [d] => { results := [.lit (.bool true)], args := [d] }
  | _ => none }
def accountCoversRow : OpenClaim := { program := "ytpiniflhaokkaaa", sum := "97a74ec0137d47f4786b5791989d4772963f1763dc823f68be2078a8edb90a83", func := "garment/garmentlaw40.AccountCovers", spec := "accountCovers", unfollowed := true, recurses := true, apart := false }
def AccountCoversSaid : Prop := accountCoversRow.holds Try.pinned (OpenSpec.ofChange accountCoversSpec)

/-- ITS FALSE NEIGHBOUR: 'it returns false'. Refute it at one input. -/
def accountCoversWrong : ChangeSpec := { name := "accountCovers", fn := fun _ => fun
  | [d] => { results := [.lit (.bool false)], args := [d] }
  | _ => none }
def AccountCoversWrongFalsely : Prop := accountCoversRow.holds Try.pinned (OpenSpec.ofChange accountCoversWrong)

/-- 'garmentlaw40.AccountSums': WHATEVER THE INPUT: true; the input reads as it did. -/
def accountSumsSpec : ChangeSpec := { name := "accountSums", fn := fun _ => fun
  | [d] => { results := [.lit (.bool true)], args := [d] }
  | _ => none }
def accountSumsRow : OpenClaim := { program := "ytpiniflhaokkaaa", sum := "97a74ec0137d47f4786b5791989d4772963f1763dc823f68be2078a8edb90a83", func := "garment/garmentlaw40.AccountSums", spec := "accountSums", unfollowed := true, recurses := true, apart := false }
def AccountSumsSaid : Prop := accountSumsRow.holds Try.pinned (OpenSpec.ofChange accountSumsSpec)

/-- ITS FALSE NEIGHBOUR: 'it returns false'. Refute it at one input. -/
def accountSumsWrong : ChangeSpec := { name := "accountSums", fn := fun _ => fun
  | [d] => { results := [.lit (.bool false)], args := [d] }
  | _ => none }
def AccountSumsWrongFalsely : Prop := accountSumsRow.holds Try.pinned (OpenSpec.ofChange accountSumsWrong)

/- THE SECOND FORM. 'bulk': how many values and letters a reading holds, each counted each time it is reached (what is shared counts as often as it is met; a slice's spare places count too). A statement '..UptoSaid' is the law's where the arguments, and the package variables that the reading takes, are together of bulk at most 1048576: NARROWER than '..Said'. Prove '..Said' where nothing that the law and all that it calls make is longer than what came in: it says more and counts as full. Else prove '..UptoSaid'. A law counts once. -/
mutual
def uptoBulk {H : Type} : DataW H → Nat
  | .lit (.string bytes) => bytes.length + 1
  | .lit _ => 1
  | .nil => 1
  | .ptr d => uptoBulk d + 1
  | .slice elems spare => uptoBulkAll elems + uptoBulkAll spare + 1
  | .agg parts => uptoBulkAll parts + 1
  | .iface _ d => uptoBulk d + 1
  | .map entries => uptoBulkEntries entries + 1
  | .held _ => 1
def uptoBulkAll {H : Type} : List (DataW H) → Nat
  | [] => 0
  | d :: r => uptoBulk d + uptoBulkAll r
def uptoBulkEntries {H : Type} : List (Lit × DataW H) → Nat
  | [] => 0
  | x :: r => uptoBulkEntry x + uptoBulkEntries r
def uptoBulkEntry {H : Type} : Lit × DataW H → Nat
  | (.string bytes, d) => bytes.length + uptoBulk d + 1
  | (_, d) => uptoBulk d + 1
 end
def uptoSmall : (H : Type) → List (DataW H) → Bool := fun _ ds => decide (uptoBulkAll ds ≤ 1048576)
def OpenSpec.upto (s : _root_.Go.ChangeSpec) : _root_.Go.OpenSpec := { _root_.Go.OpenSpec.ofChange s with cond := some uptoSmall }

/-- 'garmentlaw38.SpreadBegins', WHERE WHAT IT READS IS OF BULK AT MOST 1048576: true; the input reads as it did. -/
def spreadBeginsUptoRow : OpenClaim := { program := "ytpiniflhaokkaaa", sum := "97a74ec0137d47f4786b5791989d4772963f1763dc823f68be2078a8edb90a83", func := "garment/garmentlaw38.SpreadBegins", spec := "spreadBegins", unfollowed := true, recurses := true, apart := false, narrowed := true }
def SpreadBeginsUptoSaid : Prop := spreadBeginsUptoRow.holds Try.pinned (OpenSpec.upto spreadBeginsSpec)

/-- 'garmentlaw38.SpreadChanges', WHERE WHAT IT READS IS OF BULK AT MOST 1048576: true; the input reads as it did. -/
def spreadChangesUptoRow : OpenClaim := { program := "ytpiniflhaokkaaa", sum := "97a74ec0137d47f4786b5791989d4772963f1763dc823f68be2078a8edb90a83", func := "garment/garmentlaw38.SpreadChanges", spec := "spreadChanges", unfollowed := true, recurses := true, apart := false, narrowed := true }
def SpreadChangesUptoSaid : Prop := spreadChangesUptoRow.holds Try.pinned (OpenSpec.upto spreadChangesSpec)

/-- 'garmentlaw40.AccountRolls', WHERE WHAT IT READS IS OF BULK AT MOST 1048576: true; the input reads as it did. -/
def accountRollsUptoRow : OpenClaim := { program := "ytpiniflhaokkaaa", sum := "97a74ec0137d47f4786b5791989d4772963f1763dc823f68be2078a8edb90a83", func := "garment/garmentlaw40.AccountRolls", spec := "accountRolls", unfollowed := true, recurses := true, apart := false, narrowed := true }
def AccountRollsUptoSaid : Prop := accountRollsUptoRow.holds Try.pinned (OpenSpec.upto accountRollsSpec)

/-- 'garmentlaw40.AccountOrder', WHERE WHAT IT READS IS OF BULK AT MOST 1048576: true; the input reads as it did. -/
def accountOrderUptoRow : OpenClaim := { program := "ytpiniflhaokkaaa", sum := "97a74ec0137d47f4786b5791989d4772963f1763dc823f68be2078a8edb90a83", func := "garment/garmentlaw40.AccountOrder", spec := "accountOrder", unfollowed := true, recurses := true, apart := false, narrowed := true }
def AccountOrderUptoSaid : Prop := accountOrderUptoRow.holds Try.pinned (OpenSpec.upto accountOrderSpec)

/-- 'garmentlaw40.AccountBalances', WHERE WHAT IT READS IS OF BULK AT MOST 1048576: true; the input reads as it did. -/
def accountBalancesUptoRow : OpenClaim := { program := "ytpiniflhaokkaaa", sum := "97a74ec0137d47f4786b5791989d4772963f1763dc823f68be2078a8edb90a83", func := "garment/garmentlaw40.AccountBalances", spec := "accountBalances", unfollowed := true, recurses := true, apart := false, narrowed := true }
def AccountBalancesUptoSaid : Prop := accountBalancesUptoRow.holds Try.pinned (OpenSpec.upto accountBalancesSpec)

/-- 'garmentlaw40.AccountAreas', WHERE WHAT IT READS IS OF BULK AT MOST 1048576: true; the input reads as it did. -/
def accountAreasUptoRow : OpenClaim := { program := "ytpiniflhaokkaaa", sum := "97a74ec0137d47f4786b5791989d4772963f1763dc823f68be2078a8edb90a83", func := "garment/garmentlaw40.AccountAreas", spec := "accountAreas", unfollowed := true, recurses := true, apart := false, narrowed := true }
def AccountAreasUptoSaid : Prop := accountAreasUptoRow.holds Try.pinned (OpenSpec.upto accountAreasSpec)

/-- 'garmentlaw40.AccountCovers', WHERE WHAT IT READS IS OF BULK AT MOST 1048576: true; the input reads as it did. -/
def accountCoversUptoRow : OpenClaim := { program := "ytpiniflhaokkaaa", sum := "97a74ec0137d47f4786b5791989d4772963f1763dc823f68be2078a8edb90a83", func := "garment/garmentlaw40.AccountCovers", spec := "accountCovers", unfollowed := true, recurses := true, apart := false, narrowed := true }
def AccountCoversUptoSaid : Prop := accountCoversUptoRow.holds Try.pinned (OpenSpec.upto accountCoversSpec)

/-- 'garmentlaw40.AccountSums', WHERE WHAT IT READS IS OF BULK AT MOST 1048576: true; the input reads as it did. -/
def accountSumsUptoRow : OpenClaim := { program := "ytpiniflhaokkaaa", sum := "97a74ec0137d47f4786b5791989d4772963f1763dc823f68be2078a8edb90a83", func := "garment/garmentlaw40.AccountSums", spec := "accountSums", unfollowed := true, recurses := true, apart := false, narrowed := true }
def AccountSumsUptoSaid : Prop := accountSumsUptoRow.holds Try.pinned (OpenSpec.upto accountSumsSpec)

end Rows
end Go.Proofs.Ytpiniflhaokkaaa
