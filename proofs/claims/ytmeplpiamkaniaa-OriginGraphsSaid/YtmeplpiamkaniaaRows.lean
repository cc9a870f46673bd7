/-
  No cell of these rows narrows 'for every input' (looked for: loops, veiled, ifaces, maps, wideKeys, modest, calm, conditions, laid).
  DERIVED. THE GIVEN ROWS OF THIS SEAT. 6 by the template 'for every input the law returns true; each argument reads behind the call as it read before'; 0 by the template 'total and deterministic' (their statements: YtmeplpiamkaniaaTotals.lean).
  GIVEN WITH THE SEED: the statements are not yours to turn. If you find one false, say at which input.
  Laid BY PROGRAM, IN A SANDBOX (cutbox-rows.mjs): the forced cells as the released guide's own fill.sh prints them over the translation 5e314ce64c36c2ab… (all of the seat's roots in one cut). By AI agents, Wed Nov 11 2026. No macro, syntax, notation, axiom, sorry.
-/
import Derived.Test.YtmeplpiamkaniaaChecked
import GoSem.Claim
import GoSem.ClaimJoined
import GoSem.ClaimMapViews
import Derived.JoinedTies
import Derived.KernelRfl
namespace Go.Proofs.Ytmeplpiamkaniaa
/- THE CELL 'sum', in the pinned program and in every row, IS THE sha256 OF THE DUMP (.gsa) THAT YtmeplpiamkaniaaProg.lean LOADS. Nothing in Lean hashes anything: it is a label: what it is worth is what the hold of that sum in a sandbox is worth. -/
noncomputable def Try.pinned : Pinned := { name := "ytmeplpiamkaniaa", sum := "5e314ce64c36c2ab3c9e18f783379fd917fb5afe9b373a24e4901de356772a72", checked := Try.checked }
namespace Rows
def none {H : Type} : Left H := { results := [], args := [] }

/-- 'worldmintlaw15.OriginLater': WHATEVER THE INPUT: true; the input reads as it did. -/
def originLaterSpec : ChangeSpec := { name := "originLater", fn := fun _ => fun
  | [d1, d2, d3] => { results := [.lit (.bool true)], args := [d1, d2, d3] }
  | _ => none }
def originLaterRow : OpenClaim := { program := "ytmeplpiamkaniaa", sum := "5e314ce64c36c2ab3c9e18f783379fd917fb5afe9b373a24e4901de356772a72", func := "worldmint/worldmintlaw15.OriginLater", spec := "originLater", unfollowed := true, recurses := true, apart := false }
def OriginLaterSaid : Prop := originLaterRow.holds Try.pinned (OpenSpec.ofChange originLaterSpec)

/-- ITS FALSE NEIGHBOUR: 'it returns false'. Refute it at one input. -/
def originLaterWrong : ChangeSpec := { name := "originLater", fn := fun _ => fun
  | [d1, d2, d3] => { results := [.lit (.bool false)], args := [d1, d2, d3] }
  | _ => none }
def OriginLaterWrongFalsely : Prop := originLaterRow.holds Try.pinned (OpenSpec.ofChange originLaterWrong)

/-- 'worldmintlaw15.OriginUnits': WHATEVER THE INPUT: true; the input reads as it did. -/
def originUnitsSpec : ChangeSpec := { name := "originUnits", fn := fun _ => fun
  | [d1, d2] => { results := [.lit (.bool true)], args := [d1, d2] }
  | _ => none }
def originUnitsRow : OpenClaim := { program := "ytmeplpiamkaniaa", sum := "5e314ce64c36c2ab3c9e18f783379fd917fb5afe9b373a24e4901de356772a72", func := "worldmint/worldmintlaw15.OriginUnits", spec := "originUnits", unfollowed := true, recurses := true, apart := false }
def OriginUnitsSaid : Prop := originUnitsRow.holds Try.pinned (OpenSpec.ofChange originUnitsSpec)

/-- ITS FALSE NEIGHBOUR: 'it returns false'. Refute it at one input. -/
def originUnitsWrong : ChangeSpec := { name := "originUnits", fn := fun _ => fun
  | [d1, d2] => { results := [.lit (.bool false)], args := [d1, d2] }
  | _ => none }
def OriginUnitsWrongFalsely : Prop := originUnitsRow.holds Try.pinned (OpenSpec.ofChange originUnitsWrong)

/-- 'worldmintlaw15.OriginSpreads': WHATEVER THE INPUT: true; the input reads as it did. -/
def originSpreadsSpec : ChangeSpec := { name := "originSpreads", fn := fun _ => fun
  | [d1, d2] => { results := [.lit (.bool true)], args := [d1, d2] }
  | _ => none }
def originSpreadsRow : OpenClaim := { program := "ytmeplpiamkaniaa", sum := "5e314ce64c36c2ab3c9e18f783379fd917fb5afe9b373a24e4901de356772a72", func := "worldmint/worldmintlaw15.OriginSpreads", spec := "originSpreads", unfollowed := true, recurses := true, apart := false }
def OriginSpreadsSaid : Prop := originSpreadsRow.holds Try.pinned (OpenSpec.ofChange originSpreadsSpec)

/-- ITS FALSE NEIGHBOUR: 'it returns false'. Refute it at one input. -/
def originSpreadsWrong : ChangeSpec := { name := "originSpreads", fn := fun _ => fun
  | [d1, d2] => { results := [.lit (.bool false)], args := [d1, d2] }
  | _ => none }
def OriginSpreadsWrongFalsely : Prop := originSpreadsRow.holds Try.pinned (OpenSpec.ofChange originSpreadsWrong)

/-- 'worldmintlaw15.OriginOrder': WHATEVER THE INPUT: true; the input reads as it did. -/
def originOrderSpec : ChangeSpec := { name := "originOrder", fn := fun _ => fun
  | [d1, d2, d3] => { results := [.lit (.bool true)], args := [d1, d2, d3] }
  | _ => none }
def originOrderRow : OpenClaim := { program := "ytmeplpiamkaniaa", sum := "5e314ce64c36c2ab3c9e18f783379fd917fb5afe9b373a24e4901de356772a72", func := "worldmint/worldmintlaw15.OriginOrder", spec := "originOrder", unfollowed := true, recurses := true, apart := false }
def OriginOrderSaid : Prop := originOrderRow.holds Try.pinned (OpenSpec.ofChange originOrderSpec)

/-- ITS FALSE NEIGHBOUR: 'it returns false'. Refute it at one input. -/
def originOrderWrong : ChangeSpec := { name := "originOrder", fn := fun _ => fun
  | [d1, d2, d3] => { results := [.lit (.bool false)], args := [d1, d2, d3] }
  | _ => none }
def OriginOrderWrongFalsely : Prop := originOrderRow.holds Try.pinned (OpenSpec.ofChange originOrderWrong)

/-- 'worldmintlaw15.OriginGraphs': WHATEVER THE INPUT: true; the input reads as it did. -/
def originGraphsSpec : ChangeSpec := { name := "originGraphs", fn := fun _ => fun
  | [d1, d2, d3, d4, d5] => { results := [.lit (.bool true)], args := [d1, d2, d3, d4, d5] }
  | _ => none }
def originGraphsRow : OpenClaim := { program := "ytmeplpiamkaniaa", sum := "5e314ce64c36c2ab3c9e18f783379fd917fb5afe9b373a24e4901de356772a72", func := "worldmint/worldmintlaw15.OriginGraphs", spec := "originGraphs", unfollowed := true, recurses := true, apart := false }
def OriginGraphsSaid : Prop := originGraphsRow.holds Try.pinned (OpenSpec.ofChange originGraphsSpec)

/-- ITS FALSE NEIGHBOUR: 'it returns false'. Refute it at one input. -/
def originGraphsWrong : ChangeSpec := { name := "originGraphs", fn := fun _ => fun
  | [d1, d2, d3, d4, d5] => { results := [.lit (.bool false)], args := [d1, d2, d3, d4, d5] }
  | _ => none }
def OriginGraphsWrongFalsely : Prop := originGraphsRow.holds Try.pinned (OpenSpec.ofChange originGraphsWrong)

/-- 'worldmintlaw15.OriginRoots': WHATEVER THE INPUT: true; the input reads as it did. -/
def originRootsSpec : ChangeSpec := { name := "originRoots", fn := fun _ => fun
  | [d1, d2, d3] => { results := [.lit (.bool true)], args := [d1, d2, d3] }
  | _ => none }
def originRootsRow : OpenClaim := { program := "ytmeplpiamkaniaa", sum := "5e314ce64c36c2ab3c9e18f783379fd917fb5afe9b373a24e4901de356772a72", func := "worldmint/worldmintlaw15.OriginRoots", spec := "originRoots", unfollowed := true, recurses := true, apart := false }
def OriginRootsSaid : Prop := originRootsRow.holds Try.pinned (OpenSpec.ofChange originRootsSpec)

/-- ITS FALSE NEIGHBOUR: 'it returns false'. Refute it at one input. -/
def originRootsWrong : ChangeSpec := { name := "originRoots", fn := fun _ => fun
  | [d1, d2, d3] => { results := [.lit (.bool false)], args := [d1, d2, d3] }
  | _ => none }
def OriginRootsWrongFalsely : Prop := originRootsRow.holds Try.pinned (OpenSpec.ofChange originRootsWrong)

/- THE SECOND FORM. 'bulk': how many values and letters a reading holds, each counted each time it is reached (what is shared counts as often as it is met; a slice's spare places count too). A statement '..UptoSaid' is the law's where the arguments, and the package variables that the reading takes, are together of bulk at most 1048576: NARROWER than '..Said'. Prove '..Said' where nothing that the law and all that it calls make is longer than what came in: it says more and counts as full. Else prove '..UptoSaid'. A law counts once. -/
mutual
def uptoBulk {H : Type} : DataW H → Nat
  | .lit (.string bytes) => bytes.length + 1
  | .lit _ => 1
  | .nil => 1
  | .ptr d => uptoBulk d + 1
  | .slice elems spare => uptoBulkAll elems + uptoBulkAll spare + 1
  | .agg parts => uptoBulkAll parts + 1
  | .iface _ d => uptoBulk d + 1
  | .map entries => uptoBulkEntries entries + 1
  | .held _ => 1
def uptoBulkAll {H : Type} : List (DataW H) → Nat
  | [] => 0
  | d :: r => uptoBulk d + uptoBulkAll r
def uptoBulkEntries {H : Type} : List (Lit × DataW H) → Nat
  | [] => 0
  | x :: r => uptoBulkEntry x + uptoBulkEntries r
def uptoBulkEntry {H : Type} : Lit × DataW H → Nat
  | (.string bytes, d) => bytes.length + uptoBulk d + 1
  | (_, d) => uptoBulk d + 1
 end
def uptoSmall : (H : Type) → List (DataW H) → Bool := fun _ ds => decide (uptoBulkAll ds ≤ 1048576)
def OpenSpec.upto (s : _root_.Go.ChangeSpec) : _root_.Go.OpenSpec := { _root_.Go.OpenSpec.ofChange s with cond := some uptoSmall }

/-- 'worldmintlaw15.OriginLater', WHERE WHAT IT READS IS OF BULK AT MOST 1048576: true; the input reads as it did. -/
def originLaterUptoRow : OpenClaim := { program := "ytmeplpiamkaniaa", sum := "5e314ce64c36c2ab3c9e18f783379fd917fb5afe9b373a24e4901de356772a72", func := "worldmint/worldmintlaw15.OriginLater", spec := "originLater", unfollowed := true, recurses := true, apart := false, narrowed := true }
def OriginLaterUptoSaid : Prop := originLaterUptoRow.holds Try.pinned (OpenSpec.upto originLaterSpec)

/-- 'worldmintlaw15.OriginUnits', WHERE WHAT IT READS IS OF BULK AT MOST 1048576: true; the input reads as it did. -/
def originUnitsUptoRow : OpenClaim := { program := "ytmeplpiamkaniaa", sum := "5e314ce64c36c2ab3c9e18f783379fd917fb5afe9b373a24e4901de356772a72", func := "worldmint/worldmintlaw15.OriginUnits", spec := "originUnits", unfollowed := true, recurses := true, apart := false, narrowed := true }
def OriginUnitsUptoSaid : Prop := originUnitsUptoRow.holds Try.pinned (OpenSpec.upto originUnitsSpec)

/-- 'worldmintlaw15.OriginSpreads', WHERE WHAT IT READS IS OF BULK AT MOST 1048576: true; the input reads as it did. -/
def originSpreadsUptoRow : OpenClaim := { program := "ytmeplpiamkaniaa", sum := "5e314ce64c36c2ab3c9e18f783379fd917fb5afe9b373a24e4901de356772a72", func := "worldmint/worldmintlaw15.OriginSpreads", spec := "originSpreads", unfollowed := true, recurses := true, apart := false, narrowed := true }
def OriginSpreadsUptoSaid : Prop := originSpreadsUptoRow.holds Try.pinned (OpenSpec.upto originSpreadsSpec)

/-- 'worldmintlaw15.OriginOrder', WHERE WHAT IT READS IS OF BULK AT MOST 1048576: true; the input reads as it did. -/
def originOrderUptoRow : OpenClaim := { program := "ytmeplpiamkaniaa", sum := "5e314ce64c36c2ab3c9e18f783379fd917fb5afe9b373a24e4901de356772a72", func := "worldmint/worldmintlaw15.OriginOrder", spec := "originOrder", unfollowed := true, recurses := true, apart := false, narrowed := true }
def OriginOrderUptoSaid : Prop := originOrderUptoRow.holds Try.pinned (OpenSpec.upto originOrderSpec)

/-- 'worldmintlaw15.OriginGraphs', WHERE WHAT IT READS IS OF BULK AT MOST 1048576: true; the input reads as it did. -/
def originGraphsUptoRow : OpenClaim := { program := "ytmeplpiamkaniaa", sum := "5e314ce64c36c2ab3c9e18f783379fd917fb5afe9b373a24e4901de356772a72", func := "worldmint/worldmintlaw15.OriginGraphs", spec := "originGraphs", unfollowed := true, recurses := true, apart := false, narrowed := true }
def OriginGraphsUptoSaid : Prop := originGraphsUptoRow.holds Try.pinned (OpenSpec.upto originGraphsSpec)

/-- 'worldmintlaw15.OriginRoots', WHERE WHAT IT READS IS OF BULK AT MOST 1048576: true; the input reads as it did. -/
def originRootsUptoRow : OpenClaim := { program := "ytmeplpiamkaniaa", sum := "5e314ce64c36c2ab3c9e18f783379fd917fb5afe9b373a24e4901de356772a72", func := "worldmint/worldmintlaw15.OriginRoots", spec := "originRoots", unfollowed := true, recurses := true, apart := false, narrowed := true }
def OriginRootsUptoSaid : Prop := originRootsUptoRow.holds Try.pinned (OpenSpec.upto originRootsSpec)

end Rows
end Go.Proofs.Ytmeplpiamkaniaa
