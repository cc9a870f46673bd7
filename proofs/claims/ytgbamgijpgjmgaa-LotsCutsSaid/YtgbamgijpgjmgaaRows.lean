/-
  No cell of these rows narrows 'for every input' (looked for: loops, veiled, ifaces, maps, wideKeys, modest, calm, conditions, laid).
  DERIVED. THE GIVEN ROWS OF THIS SEAT. 9 by the template 'for every input the law returns true; each argument reads behind the call as it read before'; 0 by the template 'total and deterministic' (their statements: YtgbamgijpgjmgaaTotals.lean).
  GIVEN WITH THE SEED: the statements are not yours to turn. If you find one false, say at which input.
  Laid BY PROGRAM, IN A SANDBOX (cutbox-rows.mjs): the forced cells as the released guide's own fill.sh prints them over the translation 53b81e34bf875c50… (all of the seat's roots in one cut). By AI agents, Wed Nov 11 2026. No macro, syntax, notation, axiom, sorry.
-/
import Derived.Test.YtgbamgijpgjmgaaChecked
import GoSem.Claim
import GoSem.ClaimJoined
import GoSem.ClaimMapViews
import Derived.JoinedTies
import Derived.KernelRfl
namespace Go.Proofs.Ytgbamgijpgjmgaa
/- THE CELL 'sum', in the pinned program and in every row, IS THE sha256 OF THE DUMP (.gsa) THAT YtgbamgijpgjmgaaProg.lean LOADS. Nothing in Lean hashes anything: it is a label: what it is worth is what the hold of that sum in a sandbox is worth. -/
noncomputable def Try.pinned : Pinned := { name := "ytgbamgijpgjmgaa", sum := "53b81e34bf875c50cfc68a487e3a2a95e7fc622735a54f3169694ff6bcd53551", checked := Try.checked }
namespace Rows
def none {H : Type} : Left H := { results := [], args := [] }

/-- 'worldmintlaw14.LotsTake': WHATEVER THE INPUT: true; the input reads as it did. -/
def lotsTakeSpec : ChangeSpec := { name := "lotsTake", fn := fun _ => fun
  | [d1, d2, d3] => { results := [.lit (.bool true)], args := [d1, d2, d3] }
  | _ => none }
def lotsTakeRow : OpenClaim := { program := "ytgbamgijpgjmgaa", sum := "53b81e34bf875c50cfc68a487e3a2a95e7fc622735a54f3169694ff6bcd53551", func := "worldmint/worldmintlaw14.LotsTake", spec := "lotsTake", unfollowed := true, recurses := true, named := ["math/bits.divideError", "math/bits.overflowError"], apart := false }
def LotsTakeSaid : Prop := lotsTakeRow.holds Try.pinned (OpenSpec.ofChange lotsTakeSpec)

/-- ITS FALSE NEIGHBOUR: 'it returns false'. Refute it at one input. -/
def lotsTakeWrong : ChangeSpec := { name := "lotsTake", fn := fun _ => fun
  | [d1, d2, d3] => { results := [.lit (.bool false)], args := [d1, d2, d3] }
  | _ => none }
def LotsTakeWrongFalsely : Prop := lotsTakeRow.holds Try.pinned (OpenSpec.ofChange lotsTakeWrong)

/-- 'worldmintlaw14.LotsSlice': WHATEVER THE INPUT: true; the input reads as it did. -/
def lotsSliceSpec : ChangeSpec := { name := "lotsSlice", fn := fun _ => fun
  | [d1, d2, d3, d4] => { results := [.lit (.bool true)], args := [d1, d2, d3, d4] }
  | _ => none }
def lotsSliceRow : OpenClaim := { program := "ytgbamgijpgjmgaa", sum := "53b81e34bf875c50cfc68a487e3a2a95e7fc622735a54f3169694ff6bcd53551", func := "worldmint/worldmintlaw14.LotsSlice", spec := "lotsSlice", unfollowed := true, recurses := true, named := ["math/bits.divideError", "math/bits.overflowError"], apart := false }
def LotsSliceSaid : Prop := lotsSliceRow.holds Try.pinned (OpenSpec.ofChange lotsSliceSpec)

/-- ITS FALSE NEIGHBOUR: 'it returns false'. Refute it at one input. -/
def lotsSliceWrong : ChangeSpec := { name := "lotsSlice", fn := fun _ => fun
  | [d1, d2, d3, d4] => { results := [.lit (.bool false)], args := [d1, d2, d3, d4] }
  | _ => none }
def LotsSliceWrongFalsely : Prop := lotsSliceRow.holds Try.pinned (OpenSpec.ofChange lotsSliceWrong)

/-- 'worldmintlaw14.LotsStacks': WHATEVER THE INPUT: true; the input reads as it did. -/
def lotsStacksSpec : ChangeSpec := { name := "lotsStacks", fn := fun _ => fun
  | [d1, d2, d3] => { results := [.lit (.bool true)], args := [d1, d2, d3] }
  | _ => none }
def lotsStacksRow : OpenClaim := { program := "ytgbamgijpgjmgaa", sum := "53b81e34bf875c50cfc68a487e3a2a95e7fc622735a54f3169694ff6bcd53551", func := "worldmint/worldmintlaw14.LotsStacks", spec := "lotsStacks", unfollowed := true, recurses := true, named := ["math/bits.divideError", "math/bits.overflowError"], apart := false }
def LotsStacksSaid : Prop := lotsStacksRow.holds Try.pinned (OpenSpec.ofChange lotsStacksSpec)

/-- ITS FALSE NEIGHBOUR: 'it returns false'. Refute it at one input. -/
def lotsStacksWrong : ChangeSpec := { name := "lotsStacks", fn := fun _ => fun
  | [d1, d2, d3] => { results := [.lit (.bool false)], args := [d1, d2, d3] }
  | _ => none }
def LotsStacksWrongFalsely : Prop := lotsStacksRow.holds Try.pinned (OpenSpec.ofChange lotsStacksWrong)

/-- 'worldmintlaw14.LotsMixed': WHATEVER THE INPUT: true; the input reads as it did. -/
def lotsMixedSpec : ChangeSpec := { name := "lotsMixed", fn := fun _ => fun
  | [d1, d2] => { results := [.lit (.bool true)], args := [d1, d2] }
  | _ => none }
def lotsMixedRow : OpenClaim := { program := "ytgbamgijpgjmgaa", sum := "53b81e34bf875c50cfc68a487e3a2a95e7fc622735a54f3169694ff6bcd53551", func := "worldmint/worldmintlaw14.LotsMixed", spec := "lotsMixed", unfollowed := true, recurses := true, named := ["math/bits.divideError", "math/bits.overflowError"], apart := false }
def LotsMixedSaid : Prop := lotsMixedRow.holds Try.pinned (OpenSpec.ofChange lotsMixedSpec)

/-- ITS FALSE NEIGHBOUR: 'it returns false'. Refute it at one input. -/
def lotsMixedWrong : ChangeSpec := { name := "lotsMixed", fn := fun _ => fun
  | [d1, d2] => { results := [.lit (.bool false)], args := [d1, d2] }
  | _ => none }
def LotsMixedWrongFalsely : Prop := lotsMixedRow.holds Try.pinned (OpenSpec.ofChange lotsMixedWrong)

/-- 'worldmintlaw14.LotsParts': WHATEVER THE INPUT: true; the input reads as it did. -/
def lotsPartsSpec : ChangeSpec := { name := "lotsParts", fn := fun _ => fun
  | [d1, d2, d3, d4] => { results := [.lit (.bool true)], args := [d1, d2, d3, d4] }
  | _ => none }
def lotsPartsRow : OpenClaim := { program := "ytgbamgijpgjmgaa", sum := "53b81e34bf875c50cfc68a487e3a2a95e7fc622735a54f3169694ff6bcd53551", func := "worldmint/worldmintlaw14.LotsParts", spec := "lotsParts", unfollowed := true, recurses := true, named := ["math/bits.divideError", "math/bits.overflowError"], apart := false }
def LotsPartsSaid : Prop := lotsPartsRow.holds Try.pinned (OpenSpec.ofChange lotsPartsSpec)

/-- ITS FALSE NEIGHBOUR: 'it returns false'. Refute it at one input. -/
def lotsPartsWrong : ChangeSpec := { name := "lotsParts", fn := fun _ => fun
  | [d1, d2, d3, d4] => { results := [.lit (.bool false)], args := [d1, d2, d3, d4] }
  | _ => none }
def LotsPartsWrongFalsely : Prop := lotsPartsRow.holds Try.pinned (OpenSpec.ofChange lotsPartsWrong)

/-- 'worldmintlaw14.LotsAlgebra': WHATEVER THE INPUT: true; the input reads as it did. -/
def lotsAlgebraSpec : ChangeSpec := { name := "lotsAlgebra", fn := fun _ => fun
  | [d1, d2, d3] => { results := [.lit (.bool true)], args := [d1, d2, d3] }
  | _ => none }
def lotsAlgebraRow : OpenClaim := { program := "ytgbamgijpgjmgaa", sum := "53b81e34bf875c50cfc68a487e3a2a95e7fc622735a54f3169694ff6bcd53551", func := "worldmint/worldmintlaw14.LotsAlgebra", spec := "lotsAlgebra", unfollowed := true, recurses := true, named := ["math/bits.divideError", "math/bits.overflowError"], apart := false }
def LotsAlgebraSaid : Prop := lotsAlgebraRow.holds Try.pinned (OpenSpec.ofChange lotsAlgebraSpec)

/-- ITS FALSE NEIGHBOUR: 'it returns false'. Refute it at one input. -/
def lotsAlgebraWrong : ChangeSpec := { name := "lotsAlgebra", fn := fun _ => fun
  | [d1, d2, d3] => { results := [.lit (.bool false)], args := [d1, d2, d3] }
  | _ => none }
def LotsAlgebraWrongFalsely : Prop := lotsAlgebraRow.holds Try.pinned (OpenSpec.ofChange lotsAlgebraWrong)

/-- 'worldmintlaw14.LotsSets': WHATEVER THE INPUT: true; the input reads as it did. -/
def lotsSetsSpec : ChangeSpec := { name := "lotsSets", fn := fun _ => fun
  | [d1, d2, d3] => { results := [.lit (.bool true)], args := [d1, d2, d3] }
  | _ => none }
def lotsSetsRow : OpenClaim := { program := "ytgbamgijpgjmgaa", sum := "53b81e34bf875c50cfc68a487e3a2a95e7fc622735a54f3169694ff6bcd53551", func := "worldmint/worldmintlaw14.LotsSets", spec := "lotsSets", unfollowed := true, recurses := true, named := ["math/bits.divideError", "math/bits.overflowError"], apart := false }
def LotsSetsSaid : Prop := lotsSetsRow.holds Try.pinned (OpenSpec.ofChange lotsSetsSpec)

/-- ITS FALSE NEIGHBOUR: 'it returns false'. Refute it at one input. -/
def lotsSetsWrong : ChangeSpec := { name := "lotsSets", fn := fun _ => fun
  | [d1, d2, d3] => { results := [.lit (.bool false)], args := [d1, d2, d3] }
  | _ => none }
def LotsSetsWrongFalsely : Prop := lotsSetsRow.holds Try.pinned (OpenSpec.ofChange lotsSetsWrong)

/-- 'worldmintlaw14.LotsUnits': WHATEVER THE INPUT: true; the input reads as it did. -/
def lotsUnitsSpec : ChangeSpec := { name := "lotsUnits", fn := fun _ => fun
  | [d1, d2] => { results := [.lit (.bool true)], args := [d1, d2] }
  | _ => none }
def lotsUnitsRow : OpenClaim := { program := "ytgbamgijpgjmgaa", sum := "53b81e34bf875c50cfc68a487e3a2a95e7fc622735a54f3169694ff6bcd53551", func := "worldmint/worldmintlaw14.LotsUnits", spec := "lotsUnits", unfollowed := true, recurses := true, named := ["math/bits.divideError", "math/bits.overflowError"], apart := false }
def LotsUnitsSaid : Prop := lotsUnitsRow.holds Try.pinned (OpenSpec.ofChange lotsUnitsSpec)

/-- ITS FALSE NEIGHBOUR: 'it returns false'. Refute it at one input. -/
def lotsUnitsWrong : ChangeSpec := { name := "lotsUnits", fn := fun _ => fun
  | [d1, d2] => { results := [.lit (.bool false)], args := [d1, d2] }
  | _ => none }
def LotsUnitsWrongFalsely : Prop := lotsUnitsRow.holds Try.pinned (OpenSpec.ofChange lotsUnitsWrong)

/-- 'worldmintlaw14.LotsCuts': WHATEVER THE INPUT: true; the input reads as it did. -/
def lotsCutsSpec : ChangeSpec := { name := "lotsCuts", fn := fun _ => fun
  | [d1, d2, d3, d4] => { results := [.lit (.bool true)], args := [d1, d2, d3, d4] }
  | _ => none }
def lotsCutsRow : OpenClaim := { program := "ytgbamgijpgjmgaa", sum := "53b81e34bf875c50cfc68a487e3a2a95e7fc622735a54f3169694ff6bcd53551", func := "worldmint/worldmintlaw14.LotsCuts", spec := "lotsCuts", unfollowed := true, recurses := true, named := ["math/bits.divideError", "math/bits.overflowError"], apart := false }
def LotsCutsSaid : Prop := lotsCutsRow.holds Try.pinned (OpenSpec.ofChange lotsCutsSpec)

/-- ITS FALSE NEIGHBOUR: 'it returns false'. Refute it at one input. -/
def lotsCutsWrong : ChangeSpec := { name := "lotsCuts", fn := fun _ => fun
  | [d1, d2, d3, d4] => { results := [.lit (.bool false)], args := [d1, d2, d3, d4] }
  | _ => none }
def LotsCutsWrongFalsely : Prop := lotsCutsRow.holds Try.pinned (OpenSpec.ofChange lotsCutsWrong)

/- THE SECOND FORM. 'bulk': how many values and letters a reading holds, each counted each time it is reached (what is shared counts as often as it is met; a slice's spare places count too). A statement '..UptoSaid' is the law's where the arguments, and the package variables that the reading takes, are together of bulk at most 1048576: NARROWER than '..Said'. Prove '..Said' where nothing that the law and all that it calls make is longer than what came in: it says more and counts as full. Else prove '..UptoSaid'. A law counts once. -/
mutual
def uptoBulk {H : Type} : DataW H → Nat
  | .lit (.string bytes) => bytes.length + 1
  | .lit _ => 1
  | .nil => 1
  | .ptr d => uptoBulk d + 1
  | .slice elems spare => uptoBulkAll elems + uptoBulkAll spare + 1
  | .agg parts => uptoBulkAll parts + 1
  | .iface _ d => uptoBulk d + 1
  | .map entries => uptoBulkEntries entries + 1
  | .held _ => 1
def uptoBulkAll {H : Type} : List (DataW H) → Nat
  | [] => 0
  | d :: r => uptoBulk d + uptoBulkAll r
def uptoBulkEntries {H : Type} : List (Lit × DataW H) → Nat
  | [] => 0
  | x :: r => uptoBulkEntry x + uptoBulkEntries r
def uptoBulkEntry {H : Type} : Lit × DataW H → Nat
  | (.string bytes, d) => bytes.length + uptoBulk d + 1
  | (_, d) => uptoBulk d + 1
 end
def uptoSmall : (H : Type) → List (DataW H) → Bool := fun _ ds => decide (uptoBulkAll ds ≤ 1048576)
def OpenSpec.upto (s : _root_.Go.ChangeSpec) : _root_.Go.OpenSpec := { _root_.Go.OpenSpec.ofChange s with cond := some uptoSmall }

/-- 'worldmintlaw14.LotsTake', WHERE WHAT IT READS IS OF BULK AT MOST 1048576: true; the input reads as it did. -/
def lotsTakeUptoRow : OpenClaim := { program := "ytgbamgijpgjmgaa", sum := "53b81e34bf875c50cfc68a487e3a2a95e7fc622735a54f3169694ff6bcd53551", func := "worldmint/worldmintlaw14.LotsTake", spec := "lotsTake", unfollowed := true, recurses := true, named := ["math/bits.divideError", "math/bits.overflowError"], apart := false, narrowed := true }
def LotsTakeUptoSaid : Prop := lotsTakeUptoRow.holds Try.pinned (OpenSpec.upto lotsTakeSpec)

/-- 'worldmintlaw14.LotsSlice', WHERE WHAT IT READS IS OF BULK AT MOST 1048576: true; the input reads as it did. -/
def lotsSliceUptoRow : OpenClaim := { program := "ytgbamgijpgjmgaa", sum := "53b81e34bf875c50cfc68a487e3a2a95e7fc622735a54f3169694ff6bcd53551", func := "worldmint/worldmintlaw14.LotsSlice", spec := "lotsSlice", unfollowed := true, recurses := true, named := ["math/bits.divideError", "math/bits.overflowError"], apart := false, narrowed := true }
def LotsSliceUptoSaid : Prop := lotsSliceUptoRow.holds Try.pinned (OpenSpec.upto lotsSliceSpec)

/-- 'worldmintlaw14.LotsStacks', WHERE WHAT IT READS IS OF BULK AT MOST 1048576: true; the input reads as it did. -/
def lotsStacksUptoRow : OpenClaim := { program := "ytgbamgijpgjmgaa", sum := "53b81e34bf875c50cfc68a487e3a2a95e7fc622735a54f3169694ff6bcd53551", func := "worldmint/worldmintlaw14.LotsStacks", spec := "lotsStacks", unfollowed := true, recurses := true, named := ["math/bits.divideError", "math/bits.overflowError"], apart := false, narrowed := true }
def LotsStacksUptoSaid : Prop := lotsStacksUptoRow.holds Try.pinned (OpenSpec.upto lotsStacksSpec)

/-- 'worldmintlaw14.LotsMixed', WHERE WHAT IT READS IS OF BULK AT MOST 1048576: true; the input reads as it did. -/
def lotsMixedUptoRow : OpenClaim := { program := "ytgbamgijpgjmgaa", sum := "53b81e34bf875c50cfc68a487e3a2a95e7fc622735a54f3169694ff6bcd53551", func := "worldmint/worldmintlaw14.LotsMixed", spec := "lotsMixed", unfollowed := true, recurses := true, named := ["math/bits.divideError", "math/bits.overflowError"], apart := false, narrowed := true }
def LotsMixedUptoSaid : Prop := lotsMixedUptoRow.holds Try.pinned (OpenSpec.upto lotsMixedSpec)

/-- 'worldmintlaw14.LotsParts', WHERE WHAT IT READS IS OF BULK AT MOST 1048576: true; the input reads as it did. -/
def lotsPartsUptoRow : OpenClaim := { program := "ytgbamgijpgjmgaa", sum := "53b81e34bf875c50cfc68a487e3a2a95e7fc622735a54f3169694ff6bcd53551", func := "worldmint/worldmintlaw14.LotsParts", spec := "lotsParts", unfollowed := true, recurses := true, named := ["math/bits.divideError", "math/bits.overflowError"], apart := false, narrowed := true }
def LotsPartsUptoSaid : Prop := lotsPartsUptoRow.holds Try.pinned (OpenSpec.upto lotsPartsSpec)

/-- 'worldmintlaw14.LotsAlgebra', WHERE WHAT IT READS IS OF BULK AT MOST 1048576: true; the input reads as it did. -/
def lotsAlgebraUptoRow : OpenClaim := { program := "ytgbamgijpgjmgaa", sum := "53b81e34bf875c50cfc68a487e3a2a95e7fc622735a54f3169694ff6bcd53551", func := "worldmint/worldmintlaw14.LotsAlgebra", spec := "lotsAlgebra", unfollowed := true, recurses := true, named := ["math/bits.divideError", "math/bits.overflowError"], apart := false, narrowed := true }
def LotsAlgebraUptoSaid : Prop := lotsAlgebraUptoRow.holds Try.pinned (OpenSpec.upto lotsAlgebraSpec)

/-- 'worldmintlaw14.LotsSets', WHERE WHAT IT READS IS OF BULK AT MOST 1048576: true; the input reads as it did. -/
def lotsSetsUptoRow : OpenClaim := { program := "ytgbamgijpgjmgaa", sum := "53b81e34bf875c50cfc68a487e3a2a95e7fc622735a54f3169694ff6bcd53551", func := "worldmint/worldmintlaw14.LotsSets", spec := "lotsSets", unfollowed := true, recurses := true, named := ["math/bits.divideError", "math/bits.overflowError"], apart := false, narrowed := true }
def LotsSetsUptoSaid : Prop := lotsSetsUptoRow.holds Try.pinned (OpenSpec.upto lotsSetsSpec)

/-- 'worldmintlaw14.LotsUnits', WHERE WHAT IT READS IS OF BULK AT MOST 1048576: true; the input reads as it did. -/
def lotsUnitsUptoRow : OpenClaim := { program := "ytgbamgijpgjmgaa", sum := "53b81e34bf875c50cfc68a487e3a2a95e7fc622735a54f3169694ff6bcd53551", func := "worldmint/worldmintlaw14.LotsUnits", spec := "lotsUnits", unfollowed := true, recurses := true, named := ["math/bits.divideError", "math/bits.overflowError"], apart := false, narrowed := true }
def LotsUnitsUptoSaid : Prop := lotsUnitsUptoRow.holds Try.pinned (OpenSpec.upto lotsUnitsSpec)

/-- 'worldmintlaw14.LotsCuts', WHERE WHAT IT READS IS OF BULK AT MOST 1048576: true; the input reads as it did. -/
def lotsCutsUptoRow : OpenClaim := { program := "ytgbamgijpgjmgaa", sum := "53b81e34bf875c50cfc68a487e3a2a95e7fc622735a54f3169694ff6bcd53551", func := "worldmint/worldmintlaw14.LotsCuts", spec := "lotsCuts", unfollowed := true, recurses := true, named := ["math/bits.divideError", "math/bits.overflowError"], apart := false, narrowed := true }
def LotsCutsUptoSaid : Prop := lotsCutsUptoRow.holds Try.pinned (OpenSpec.upto lotsCutsSpec)

end Rows
end Go.Proofs.Ytgbamgijpgjmgaa
