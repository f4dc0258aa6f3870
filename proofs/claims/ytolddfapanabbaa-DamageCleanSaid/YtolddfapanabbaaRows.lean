/-
  No cell of these rows narrows 'for every input' (looked for: loops, veiled, ifaces, maps, wideKeys, modest, calm, conditions, laid).
  DERIVED. THE GIVEN ROWS OF THIS SEAT. 11 by the template 'for every input the law returns true; each argument reads behind the call as it read before'; 0 by the template 'total and deterministic' (their statements: YtolddfapanabbaaTotals.lean).
  GIVEN WITH THE SEED: the statements are not yours to turn. If you find one false, say at which input.
  Laid BY PROGRAM, IN A SANDBOX (cutbox-rows.mjs): the forced cells as the released guide's own fill.sh prints them over the translation 9ca4c927aa64c6ef… (all of the seat's roots in one cut). By AI agents, Wed Nov 11 2026. No macro, syntax, notation, axiom, sorry.
-/
import Derived.Test.YtolddfapanabbaaChecked
import GoSem.Claim
import GoSem.ClaimJoined
import GoSem.ClaimMapViews
import Derived.JoinedTies
import Derived.KernelRfl
namespace Go.Proofs.Ytolddfapanabbaa
/- THE CELL 'sum', in the pinned program and in every row, IS THE sha256 OF THE DUMP (.gsa) THAT YtolddfapanabbaaProg.lean LOADS. Nothing in Lean hashes anything: it is a label: what it is worth is what the hold of that sum in a sandbox is worth. -/
noncomputable def Try.pinned : Pinned := { name := "ytolddfapanabbaa", sum := "9ca4c927aa64c6ef0e3c6e827889c51dab0d306e5934b28b5766248a0dbd4e3f", checked := Try.checked }
namespace Rows
def none {H : Type} : Left H := { results := [], args := [] }

/-- 'garmentlaw39.DamageCarriers': WHATEVER THE INPUT: true; the input reads as it did. -/
def damageCarriersSpec : ChangeSpec := { name := "damageCarriers", fn := fun _ => fun
  | [d1, d2] => { results := [.lit (.bool true)], args := [d1, d2] }
  | _ => none }
def damageCarriersRow : OpenClaim := { program := "ytolddfapanabbaa", sum := "9ca4c927aa64c6ef0e3c6e827889c51dab0d306e5934b28b5766248a0dbd4e3f", func := "garment/garmentlaw39.DamageCarriers", spec := "damageCarriers", unfollowed := true, recurses := true, apart := false }
def DamageCarriersSaid : Prop := damageCarriersRow.holds Try.pinned (OpenSpec.ofChange damageCarriersSpec)

/-- ITS FALSE NEIGHBOUR: 'it returns false'. Refute it at one input. -/
def damageCarriersWrong : ChangeSpec := { name := "damageCarriers", fn := fun _ => fun
  | [d1, d2] => { results := [.lit (.bool false)], args := [d1, d2] }
  | _ => none }
def DamageCarriersWrongFalsely : Prop := damageCarriersRow.holds Try.pinned (OpenSpec.ofChange damageCarriersWrong)

/-- 'garmentlaw39.DamageHits': WHATEVER THE INPUT: true; the input reads as it did. -/
def damageHitsSpec : ChangeSpec := { name := "damageHits", fn := fun _ => fun
  | [d1, d2, d3] => { results := [.lit (.bool true)], args := [d1, d2, d3] }
  | _ => none }
def damageHitsRow : OpenClaim := { program := "ytolddfapanabbaa", sum := "9ca4c927aa64c6ef0e3c6e827889c51dab0d306e5934b28b5766248a0dbd4e3f", func := "garment/garmentlaw39.DamageHits", spec := "damageHits", unfollowed := true, recurses := true, apart := false }
def DamageHitsSaid : Prop := damageHitsRow.holds Try.pinned (OpenSpec.ofChange damageHitsSpec)

/-- ITS FALSE NEIGHBOUR: 'it returns false'. Refute it at one input. -/
def damageHitsWrong : ChangeSpec := { name := "damageHits", fn := fun _ => fun
  | [d1, d2, d3] => { results := [.lit (.bool false)], args := [d1, d2, d3] }
  | _ => none }
def DamageHitsWrongFalsely : Prop := damageHitsRow.holds Try.pinned (OpenSpec.ofChange damageHitsWrong)

/-- 'garmentlaw39.DamageTables': WHATEVER THE INPUT: true; the input reads as it did. -/
def damageTablesSpec : ChangeSpec := { name := "damageTables", fn := fun _ => fun
  | [d1, d2, d3] => { results := [.lit (.bool true)], args := [d1, d2, d3] }
  | _ => none }
def damageTablesRow : OpenClaim := { program := "ytolddfapanabbaa", sum := "9ca4c927aa64c6ef0e3c6e827889c51dab0d306e5934b28b5766248a0dbd4e3f", func := "garment/garmentlaw39.DamageTables", spec := "damageTables", unfollowed := true, recurses := true, apart := false }
def DamageTablesSaid : Prop := damageTablesRow.holds Try.pinned (OpenSpec.ofChange damageTablesSpec)

/-- ITS FALSE NEIGHBOUR: 'it returns false'. Refute it at one input. -/
def damageTablesWrong : ChangeSpec := { name := "damageTables", fn := fun _ => fun
  | [d1, d2, d3] => { results := [.lit (.bool false)], args := [d1, d2, d3] }
  | _ => none }
def DamageTablesWrongFalsely : Prop := damageTablesRow.holds Try.pinned (OpenSpec.ofChange damageTablesWrong)

/-- 'garmentlaw39.DamageClean': WHATEVER THE INPUT: true; the input reads as it did. -/
def damageCleanSpec : ChangeSpec := { name := "damageClean", fn := fun _ => fun
  | [d1, d2, d3] => { results := [.lit (.bool true)], args := [d1, d2, d3] }
  | _ => none }
def damageCleanRow : OpenClaim := { program := "ytolddfapanabbaa", sum := "9ca4c927aa64c6ef0e3c6e827889c51dab0d306e5934b28b5766248a0dbd4e3f", func := "garment/garmentlaw39.DamageClean", spec := "damageClean", unfollowed := true, recurses := true, apart := false }
def DamageCleanSaid : Prop := damageCleanRow.holds Try.pinned (OpenSpec.ofChange damageCleanSpec)

/-- ITS FALSE NEIGHBOUR: 'it returns false'. Refute it at one input. -/
def damageCleanWrong : ChangeSpec := { name := "damageClean", fn := fun _ => fun
  | [d1, d2, d3] => { results := [.lit (.bool false)], args := [d1, d2, d3] }
  | _ => none }
def DamageCleanWrongFalsely : Prop := damageCleanRow.holds Try.pinned (OpenSpec.ofChange damageCleanWrong)

/-- 'garmentlaw39.DamageFlaws': WHATEVER THE INPUT: true; the input reads as it did. -/
def damageFlawsSpec : ChangeSpec := { name := "damageFlaws", fn := fun _ => fun
  | [d1, d2, d3] => { results := [.lit (.bool true)], args := [d1, d2, d3] }
  | _ => none }
def damageFlawsRow : OpenClaim := { program := "ytolddfapanabbaa", sum := "9ca4c927aa64c6ef0e3c6e827889c51dab0d306e5934b28b5766248a0dbd4e3f", func := "garment/garmentlaw39.DamageFlaws", spec := "damageFlaws", unfollowed := true, recurses := true, apart := false }
def DamageFlawsSaid : Prop := damageFlawsRow.holds Try.pinned (OpenSpec.ofChange damageFlawsSpec)

/-- ITS FALSE NEIGHBOUR: 'it returns false'. Refute it at one input. -/
def damageFlawsWrong : ChangeSpec := { name := "damageFlaws", fn := fun _ => fun
  | [d1, d2, d3] => { results := [.lit (.bool false)], args := [d1, d2, d3] }
  | _ => none }
def DamageFlawsWrongFalsely : Prop := damageFlawsRow.holds Try.pinned (OpenSpec.ofChange damageFlawsWrong)

/-- 'garmentlaw39.DamageMoves': WHATEVER THE INPUT: true; the input reads as it did. -/
def damageMovesSpec : ChangeSpec := { name := "damageMoves", fn := fun _ => fun
  | [d1, d2, d3, d4] => { results := [.lit (.bool true)], args := [d1, d2, d3, d4] }
  | _ => none }
def damageMovesRow : OpenClaim := { program := "ytolddfapanabbaa", sum := "9ca4c927aa64c6ef0e3c6e827889c51dab0d306e5934b28b5766248a0dbd4e3f", func := "garment/garmentlaw39.DamageMoves", spec := "damageMoves", unfollowed := true, recurses := true, apart := false }
def DamageMovesSaid : Prop := damageMovesRow.holds Try.pinned (OpenSpec.ofChange damageMovesSpec)

/-- ITS FALSE NEIGHBOUR: 'it returns false'. Refute it at one input. -/
def damageMovesWrong : ChangeSpec := { name := "damageMoves", fn := fun _ => fun
  | [d1, d2, d3, d4] => { results := [.lit (.bool false)], args := [d1, d2, d3, d4] }
  | _ => none }
def DamageMovesWrongFalsely : Prop := damageMovesRow.holds Try.pinned (OpenSpec.ofChange damageMovesWrong)

/-- 'garmentlaw30.PlacePolys': WHATEVER THE INPUT: true; the input reads as it did. -/
def placePolysSpec : ChangeSpec := { name := "placePolys", fn := fun _ => fun
  | [d] => { results := [.lit (.bool true)], args := [d] }
  | _ => none }
def placePolysRow : OpenClaim := { program := "ytolddfapanabbaa", sum := "9ca4c927aa64c6ef0e3c6e827889c51dab0d306e5934b28b5766248a0dbd4e3f", func := "garment/garmentlaw30.PlacePolys", spec := "placePolys", unfollowed := true, recurses := true, apart := false }
def PlacePolysSaid : Prop := placePolysRow.holds Try.pinned (OpenSpec.ofChange placePolysSpec)

/-- ITS FALSE NEIGHBOUR: 'it returns false'. Refute it at one input. -/
def placePolysWrong : ChangeSpec := { name := "placePolys", fn := fun _ => fun
  | [d] => { results := [.lit (.bool false)], args := [d] }
  | _ => none }
def PlacePolysWrongFalsely : Prop := placePolysRow.holds Try.pinned (OpenSpec.ofChange placePolysWrong)

/-- 'garmentlaw30.PlaceFits': WHATEVER THE INPUT: true; the input reads as it did. -/
def placeFitsSpec : ChangeSpec := { name := "placeFits", fn := fun _ => fun
  | [d1, d2] => { results := [.lit (.bool true)], args := [d1, d2] }
  | _ => none }
def placeFitsRow : OpenClaim := { program := "ytolddfapanabbaa", sum := "9ca4c927aa64c6ef0e3c6e827889c51dab0d306e5934b28b5766248a0dbd4e3f", func := "garment/garmentlaw30.PlaceFits", spec := "placeFits", unfollowed := true, recurses := true, apart := false }
def PlaceFitsSaid : Prop := placeFitsRow.holds Try.pinned (OpenSpec.ofChange placeFitsSpec)

/-- ITS FALSE NEIGHBOUR: 'it returns false'. Refute it at one input. -/
def placeFitsWrong : ChangeSpec := { name := "placeFits", fn := fun _ => fun
  | [d1, d2] => { results := [.lit (.bool false)], args := [d1, d2] }
  | _ => none }
def PlaceFitsWrongFalsely : Prop := placeFitsRow.holds Try.pinned (OpenSpec.ofChange placeFitsWrong)

/-- 'garmentlaw30.PlaceLimits': WHATEVER THE INPUT: true; the input reads as it did. -/
def placeLimitsSpec : ChangeSpec := { name := "placeLimits", fn := fun _ => fun
  | [d1, d2] => { results := [.lit (.bool true)], args := [d1, d2] }
  | _ => none }
def placeLimitsRow : OpenClaim := { program := "ytolddfapanabbaa", sum := "9ca4c927aa64c6ef0e3c6e827889c51dab0d306e5934b28b5766248a0dbd4e3f", func := "garment/garmentlaw30.PlaceLimits", spec := "placeLimits", unfollowed := true, recurses := true, apart := false }
def PlaceLimitsSaid : Prop := placeLimitsRow.holds Try.pinned (OpenSpec.ofChange placeLimitsSpec)

/-- ITS FALSE NEIGHBOUR: 'it returns false'. Refute it at one input. -/
def placeLimitsWrong : ChangeSpec := { name := "placeLimits", fn := fun _ => fun
  | [d1, d2] => { results := [.lit (.bool false)], args := [d1, d2] }
  | _ => none }
def PlaceLimitsWrongFalsely : Prop := placeLimitsRow.holds Try.pinned (OpenSpec.ofChange placeLimitsWrong)

/-- 'garmentlaw30.PlaceParts': WHATEVER THE INPUT: true; the input reads as it did. -/
def placePartsSpec : ChangeSpec := { name := "placeParts", fn := fun _ => fun
  | [d1, d2] => { results := [.lit (.bool true)], args := [d1, d2] }
  | _ => none }
def placePartsRow : OpenClaim := { program := "ytolddfapanabbaa", sum := "9ca4c927aa64c6ef0e3c6e827889c51dab0d306e5934b28b5766248a0dbd4e3f", func := "garment/garmentlaw30.PlaceParts", spec := "placeParts", unfollowed := true, recurses := true, apart := false }
def PlacePartsSaid : Prop := placePartsRow.holds Try.pinned (OpenSpec.ofChange placePartsSpec)

/-- ITS FALSE NEIGHBOUR: 'it returns false'. Refute it at one input. -/
def placePartsWrong : ChangeSpec := { name := "placeParts", fn := fun _ => fun
  | [d1, d2] => { results := [.lit (.bool false)], args := [d1, d2] }
  | _ => none }
def PlacePartsWrongFalsely : Prop := placePartsRow.holds Try.pinned (OpenSpec.ofChange placePartsWrong)

/-- 'garmentlaw30.PlaceGrows': WHATEVER THE INPUT: true; the input reads as it did. -/
def placeGrowsSpec : ChangeSpec := { name := "placeGrows", fn := fun _ => fun
  | [d1, d2] => { results := [.lit (.bool true)], args := [d1, d2] }
  | _ => none }
def placeGrowsRow : OpenClaim := { program := "ytolddfapanabbaa", sum := "9ca4c927aa64c6ef0e3c6e827889c51dab0d306e5934b28b5766248a0dbd4e3f", func := "garment/garmentlaw30.PlaceGrows", spec := "placeGrows", unfollowed := true, recurses := true, apart := false }
def PlaceGrowsSaid : Prop := placeGrowsRow.holds Try.pinned (OpenSpec.ofChange placeGrowsSpec)

/-- ITS FALSE NEIGHBOUR: 'it returns false'. Refute it at one input. -/
def placeGrowsWrong : ChangeSpec := { name := "placeGrows", fn := fun _ => fun
  | [d1, d2] => { results := [.lit (.bool false)], args := [d1, d2] }
  | _ => none }
def PlaceGrowsWrongFalsely : Prop := placeGrowsRow.holds Try.pinned (OpenSpec.ofChange placeGrowsWrong)

/- THE SECOND FORM. 'bulk': how many values and letters a reading holds, each counted each time it is reached (what is shared counts as often as it is met; a slice's spare places count too). A statement '..UptoSaid' is the law's where the arguments, and the package variables that the reading takes, are together of bulk at most 1048576: NARROWER than '..Said'. Prove '..Said' where nothing that the law and all that it calls make is longer than what came in: it says more and counts as full. Else prove '..UptoSaid'. A law counts once. -/
mutual
def uptoBulk {H : Type} : DataW H → Nat
  | .lit (.string bytes) => bytes.length + 1
  | .lit _ => 1
  | .nil => 1
  | .ptr d => uptoBulk d + 1
  | .slice elems spare => uptoBulkAll elems + uptoBulkAll spare + 1
  | .agg parts => uptoBulkAll parts + 1
  | .iface _ d => uptoBulk d + 1
  | .map entries => uptoBulkEntries entries + 1
  | .held _ => 1
def uptoBulkAll {H : Type} : List (DataW H) → Nat
  | [] => 0
  | d :: r => uptoBulk d + uptoBulkAll r
def uptoBulkEntries {H : Type} : List (Lit × DataW H) → Nat
  | [] => 0
  | x :: r => uptoBulkEntry x + uptoBulkEntries r
def uptoBulkEntry {H : Type} : Lit × DataW H → Nat
  | (.string bytes, d) => bytes.length + uptoBulk d + 1
  | (_, d) => uptoBulk d + 1
 end
def uptoSmall : (H : Type) → List (DataW H) → Bool := fun _ ds => decide (uptoBulkAll ds ≤ 1048576)
def OpenSpec.upto (s : _root_.Go.ChangeSpec) : _root_.Go.OpenSpec := { _root_.Go.OpenSpec.ofChange s with cond := some uptoSmall }

/-- 'garmentlaw39.DamageCarriers', WHERE WHAT IT READS IS OF BULK AT MOST 1048576: true; the input reads as it did. -/
def damageCarriersUptoRow : OpenClaim := { program := "ytolddfapanabbaa", sum := "9ca4c927aa64c6ef0e3c6e827889c51dab0d306e5934b28b5766248a0dbd4e3f", func := "garment/garmentlaw39.DamageCarriers", spec := "damageCarriers", unfollowed := true, recurses := true, apart := false, narrowed := true }
def DamageCarriersUptoSaid : Prop := damageCarriersUptoRow.holds Try.pinned (OpenSpec.upto damageCarriersSpec)

/-- 'garmentlaw39.DamageHits', WHERE WHAT IT READS IS OF BULK AT MOST 1048576: true; the input reads as it did. -/
def damageHitsUptoRow : OpenClaim := { program := "ytolddfapanabbaa", sum := "9ca4c927aa64c6ef0e3c6e827889c51dab0d306e5934b28b5766248a0dbd4e3f", func := "garment/garmentlaw39.DamageHits", spec := "damageHits", unfollowed := true, recurses := true, apart := false, narrowed := true }
def DamageHitsUptoSaid : Prop := damageHitsUptoRow.holds Try.pinned (OpenSpec.upto damageHitsSpec)

/-- 'garmentlaw39.DamageTables', WHERE WHAT IT READS IS OF BULK AT MOST 1048576: true; the input reads as it did. -/
def damageTablesUptoRow : OpenClaim := { program := "ytolddfapanabbaa", sum := "9ca4c927aa64c6ef0e3c6e827889c51dab0d306e5934b28b5766248a0dbd4e3f", func := "garment/garmentlaw39.DamageTables", spec := "damageTables", unfollowed := true, recurses := true, apart := false, narrowed := true }
def DamageTablesUptoSaid : Prop := damageTablesUptoRow.holds Try.pinned (OpenSpec.upto damageTablesSpec)

/-- 'garmentlaw39.DamageClean', WHERE WHAT IT READS IS OF BULK AT MOST 1048576: true; the input reads as it did. -/
def damageCleanUptoRow : OpenClaim := { program := "ytolddfapanabbaa", sum := "9ca4c927aa64c6ef0e3c6e827889c51dab0d306e5934b28b5766248a0dbd4e3f", func := "garment/garmentlaw39.DamageClean", spec := "damageClean", unfollowed := true, recurses := true, apart := false, narrowed := true }
def DamageCleanUptoSaid : Prop := damageCleanUptoRow.holds Try.pinned (OpenSpec.upto damageCleanSpec)

/-- 'garmentlaw39.DamageFlaws', WHERE WHAT IT READS IS OF BULK AT MOST 1048576: true; the input reads as it did. -/
def damageFlawsUptoRow : OpenClaim := { program := "ytolddfapanabbaa", sum := "9ca4c927aa64c6ef0e3c6e827889c51dab0d306e5934b28b5766248a0dbd4e3f", func := "garment/garmentlaw39.DamageFlaws", spec := "damageFlaws", unfollowed := true, recurses := true, apart := false, narrowed := true }
def DamageFlawsUptoSaid : Prop := damageFlawsUptoRow.holds Try.pinned (OpenSpec.upto damageFlawsSpec)

/-- 'garmentlaw39.DamageMoves', WHERE WHAT IT READS IS OF BULK AT MOST 1048576: true; the input reads as it did. -/
def damageMovesUptoRow : OpenClaim := { program := "ytolddfapanabbaa", sum := "9ca4c927aa64c6ef0e3c6e827889c51dab0d306e5934b28b5766248a0dbd4e3f", func := "garment/garmentlaw39.DamageMoves", spec := "damageMoves", unfollowed := true, recurses := true, apart := false, narrowed := true }
def DamageMovesUptoSaid : Prop := damageMovesUptoRow.holds Try.pinned (OpenSpec.upto damageMovesSpec)

/-- 'garmentlaw30.PlacePolys', WHERE WHAT IT READS IS OF BULK AT MOST 1048576: true; the input reads as it did. -/
def placePolysUptoRow : OpenClaim := { program := "ytolddfapanabbaa", sum := "9ca4c927aa64c6ef0e3c6e827889c51dab0d306e5934b28b5766248a0dbd4e3f", func := "garment/garmentlaw30.PlacePolys", spec := "placePolys", unfollowed := true, recurses := true, apart := false, narrowed := true }
def PlacePolysUptoSaid : Prop := placePolysUptoRow.holds Try.pinned (OpenSpec.upto placePolysSpec)

/-- 'garmentlaw30.PlaceFits', WHERE WHAT IT READS IS OF BULK AT MOST 1048576: true; the input reads as it did. -/
def placeFitsUptoRow : OpenClaim := { program := "ytolddfapanabbaa", sum := "9ca4c927aa64c6ef0e3c6e827889c51dab0d306e5934b28b5766248a0dbd4e3f", func := "garment/garmentlaw30.PlaceFits", spec := "placeFits", unfollowed := true, recurses := true, apart := false, narrowed := true }
def PlaceFitsUptoSaid : Prop := placeFitsUptoRow.holds Try.pinned (OpenSpec.upto placeFitsSpec)

/-- 'garmentlaw30.PlaceLimits', WHERE WHAT IT READS IS OF BULK AT MOST 1048576: true; the input reads as it did. -/
def placeLimitsUptoRow : OpenClaim := { program := "ytolddfapanabbaa", sum := "9ca4c927aa64c6ef0e3c6e827889c51dab0d306e5934b28b5766248a0dbd4e3f", func := "garment/garmentlaw30.PlaceLimits", spec := "placeLimits", unfollowed := true, recurses := true, apart := false, narrowed := true }
def PlaceLimitsUptoSaid : Prop := placeLimitsUptoRow.holds Try.pinned (OpenSpec.upto placeLimitsSpec)

/-- 'garmentlaw30.PlaceParts', WHERE WHAT IT READS IS OF BULK AT MOST 1048576: true; the input reads as it did. -/
def placePartsUptoRow : OpenClaim := { program := "ytolddfapanabbaa", sum := "9ca4c927aa64c6ef0e3c6e827889c51dab0d306e5934b28b5766248a0dbd4e3f", func := "garment/garmentlaw30.PlaceParts", spec := "placeParts", unfollowed := true, recurses := true, apart := false, narrowed := true }
def PlacePartsUptoSaid : Prop := placePartsUptoRow.holds Try.pinned (OpenSpec.upto placePartsSpec)

/-- 'garmentlaw30.PlaceGrows', WHERE WHAT IT READS IS OF BULK AT MOST 1048576: true; the input reads as it did. -/
def placeGrowsUptoRow : OpenClaim := { program := "ytolddfapanabbaa", sum := "9ca4c927aa64c6ef0e3c6e827889c51dab0d306e5934b28b5766248a0dbd4e3f", func := "garment/garmentlaw30.PlaceGrows", spec := "placeGrows", unfollowed := true, recurses := true, apart := false, narrowed := true }
def PlaceGrowsUptoSaid : Prop := placeGrowsUptoRow.holds Try.pinned (OpenSpec.upto placeGrowsSpec)

end Rows
end Go.Proofs.Ytolddfapanabbaa
