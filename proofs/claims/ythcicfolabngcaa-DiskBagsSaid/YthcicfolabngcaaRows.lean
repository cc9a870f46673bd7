/-
  No cell of these rows narrows 'for every input' (looked for: loops, veiled, ifaces, maps, wideKeys, modest, calm, conditions, laid).
  DERIVED. THE GIVEN ROWS OF THIS SEAT. 8 by the template 'for every input the law returns true; each argument reads behind the call as it read before'; 0 by the template 'total and deterministic' (their statements: YthcicfolabngcaaTotals.lean).
  GIVEN WITH THE SEED: the statements are not yours to turn. If you find one false, say at which input.
  Laid BY PROGRAM, IN A SANDBOX (cutbox-rows.mjs): the forced cells as the released guide's own fill.sh prints them over the translation ca10a4983264c807… (all of the seat's roots in one cut). By AI agents, Wed Nov 11 2026. No macro, syntax, notation, axiom, sorry.
-/
import Derived.Test.YthcicfolabngcaaChecked
import GoSem.Claim
import GoSem.ClaimJoined
import GoSem.ClaimMapViews
import Derived.JoinedTies
import Derived.KernelRfl
namespace Go.Proofs.Ythcicfolabngcaa
/- THE CELL 'sum', in the pinned program and in every row, IS THE sha256 OF THE DUMP (.gsa) THAT YthcicfolabngcaaProg.lean LOADS. Nothing in Lean hashes anything: it is a label: what it is worth is what the hold of that sum in a sandbox is worth. -/
noncomputable def Try.pinned : Pinned := { name := "ythcicfolabngcaa", sum := "ca10a4983264c807e0b4303928ea36ef23d03869bc960b3479e07707fa8d6db3", checked := Try.checked }
namespace Rows
def none {H : Type} : Left H := { results := [], args := [] }

/-- 'worldmintlaw24.DiskPrefix': WHATEVER THE INPUT: true; the input reads as it did. -/
def diskPrefixSpec : ChangeSpec := { name := "diskPrefix", fn := fun _ => fun
  | [d1, d2, d3, d4] => { results := [.lit (.bool true)], args := [d1, d2, d3, d4] }
  | _ => none }
def diskPrefixRow : OpenClaim := { program := "ythcicfolabngcaa", sum := "ca10a4983264c807e0b4303928ea36ef23d03869bc960b3479e07707fa8d6db3", func := "worldmint/worldmintlaw24.DiskPrefix", spec := "diskPrefix", unfollowed := true, recurses := true, apart := false }
def DiskPrefixSaid : Prop := diskPrefixRow.holds Try.pinned (OpenSpec.ofChange diskPrefixSpec)

/-- ITS FALSE NEIGHBOUR: 'it returns false'. Refute it at one input. -/
def diskPrefixWrong : ChangeSpec := { name := "diskPrefix", fn := fun _ => fun
  | [d1, d2, d3, d4] => { results := [.lit (.bool false)], args := [d1, d2, d3, d4] }
  | _ => none }
def DiskPrefixWrongFalsely : Prop := diskPrefixRow.holds Try.pinned (OpenSpec.ofChange diskPrefixWrong)

/-- 'worldmintlaw24.DiskArguments': WHATEVER THE INPUT: true; the input reads as it did. -/
def diskArgumentsSpec : ChangeSpec := { name := "diskArguments", fn := fun _ => fun
  | [d1, d2, d3, d4] => { results := [.lit (.bool true)], args := [d1, d2, d3, d4] }
  | _ => none }
def diskArgumentsRow : OpenClaim := { program := "ythcicfolabngcaa", sum := "ca10a4983264c807e0b4303928ea36ef23d03869bc960b3479e07707fa8d6db3", func := "worldmint/worldmintlaw24.DiskArguments", spec := "diskArguments", unfollowed := true, recurses := true, apart := false }
def DiskArgumentsSaid : Prop := diskArgumentsRow.holds Try.pinned (OpenSpec.ofChange diskArgumentsSpec)

/-- ITS FALSE NEIGHBOUR: 'it returns false'. Refute it at one input. -/
def diskArgumentsWrong : ChangeSpec := { name := "diskArguments", fn := fun _ => fun
  | [d1, d2, d3, d4] => { results := [.lit (.bool false)], args := [d1, d2, d3, d4] }
  | _ => none }
def DiskArgumentsWrongFalsely : Prop := diskArgumentsRow.holds Try.pinned (OpenSpec.ofChange diskArgumentsWrong)

/-- 'worldmintlaw24.DiskDurable': WHATEVER THE INPUT: true; the input reads as it did. -/
def diskDurableSpec : ChangeSpec := { name := "diskDurable", fn := fun _ => fun
  | [d1, d2, d3, d4, d5] => { results := [.lit (.bool true)], args := [d1, d2, d3, d4, d5] }
  | _ => none }
def diskDurableRow : OpenClaim := { program := "ythcicfolabngcaa", sum := "ca10a4983264c807e0b4303928ea36ef23d03869bc960b3479e07707fa8d6db3", func := "worldmint/worldmintlaw24.DiskDurable", spec := "diskDurable", unfollowed := true, recurses := true, apart := false }
def DiskDurableSaid : Prop := diskDurableRow.holds Try.pinned (OpenSpec.ofChange diskDurableSpec)

/-- ITS FALSE NEIGHBOUR: 'it returns false'. Refute it at one input. -/
def diskDurableWrong : ChangeSpec := { name := "diskDurable", fn := fun _ => fun
  | [d1, d2, d3, d4, d5] => { results := [.lit (.bool false)], args := [d1, d2, d3, d4, d5] }
  | _ => none }
def DiskDurableWrongFalsely : Prop := diskDurableRow.holds Try.pinned (OpenSpec.ofChange diskDurableWrong)

/-- 'worldmintlaw24.DiskRuns': WHATEVER THE INPUT: true; the input reads as it did. -/
def diskRunsSpec : ChangeSpec := { name := "diskRuns", fn := fun _ => fun
  | [d1, d2] => { results := [.lit (.bool true)], args := [d1, d2] }
  | _ => none }
def diskRunsRow : OpenClaim := { program := "ythcicfolabngcaa", sum := "ca10a4983264c807e0b4303928ea36ef23d03869bc960b3479e07707fa8d6db3", func := "worldmint/worldmintlaw24.DiskRuns", spec := "diskRuns", unfollowed := true, recurses := true, apart := false }
def DiskRunsSaid : Prop := diskRunsRow.holds Try.pinned (OpenSpec.ofChange diskRunsSpec)

/-- ITS FALSE NEIGHBOUR: 'it returns false'. Refute it at one input. -/
def diskRunsWrong : ChangeSpec := { name := "diskRuns", fn := fun _ => fun
  | [d1, d2] => { results := [.lit (.bool false)], args := [d1, d2] }
  | _ => none }
def DiskRunsWrongFalsely : Prop := diskRunsRow.holds Try.pinned (OpenSpec.ofChange diskRunsWrong)

/-- 'worldmintlaw24.DiskPlan': WHATEVER THE INPUT: true; the input reads as it did. -/
def diskPlanSpec : ChangeSpec := { name := "diskPlan", fn := fun _ => fun
  | [d1, d2] => { results := [.lit (.bool true)], args := [d1, d2] }
  | _ => none }
def diskPlanRow : OpenClaim := { program := "ythcicfolabngcaa", sum := "ca10a4983264c807e0b4303928ea36ef23d03869bc960b3479e07707fa8d6db3", func := "worldmint/worldmintlaw24.DiskPlan", spec := "diskPlan", unfollowed := true, recurses := true, apart := false }
def DiskPlanSaid : Prop := diskPlanRow.holds Try.pinned (OpenSpec.ofChange diskPlanSpec)

/-- ITS FALSE NEIGHBOUR: 'it returns false'. Refute it at one input. -/
def diskPlanWrong : ChangeSpec := { name := "diskPlan", fn := fun _ => fun
  | [d1, d2] => { results := [.lit (.bool false)], args := [d1, d2] }
  | _ => none }
def DiskPlanWrongFalsely : Prop := diskPlanRow.holds Try.pinned (OpenSpec.ofChange diskPlanWrong)

/-- 'worldmintlaw24.DiskCopies': WHATEVER THE INPUT: true; the input reads as it did. -/
def diskCopiesSpec : ChangeSpec := { name := "diskCopies", fn := fun _ => fun
  | [d1, d2, d3] => { results := [.lit (.bool true)], args := [d1, d2, d3] }
  | _ => none }
def diskCopiesRow : OpenClaim := { program := "ythcicfolabngcaa", sum := "ca10a4983264c807e0b4303928ea36ef23d03869bc960b3479e07707fa8d6db3", func := "worldmint/worldmintlaw24.DiskCopies", spec := "diskCopies", unfollowed := true, recurses := true, apart := false }
def DiskCopiesSaid : Prop := diskCopiesRow.holds Try.pinned (OpenSpec.ofChange diskCopiesSpec)

/-- ITS FALSE NEIGHBOUR: 'it returns false'. Refute it at one input. -/
def diskCopiesWrong : ChangeSpec := { name := "diskCopies", fn := fun _ => fun
  | [d1, d2, d3] => { results := [.lit (.bool false)], args := [d1, d2, d3] }
  | _ => none }
def DiskCopiesWrongFalsely : Prop := diskCopiesRow.holds Try.pinned (OpenSpec.ofChange diskCopiesWrong)

/-- 'worldmintlaw24.DiskHash': WHATEVER THE INPUT: true; the input reads as it did. -/
def diskHashSpec : ChangeSpec := { name := "diskHash", fn := fun _ => fun
  | [d1, d2, d3] => { results := [.lit (.bool true)], args := [d1, d2, d3] }
  | _ => none }
def diskHashRow : OpenClaim := { program := "ythcicfolabngcaa", sum := "ca10a4983264c807e0b4303928ea36ef23d03869bc960b3479e07707fa8d6db3", func := "worldmint/worldmintlaw24.DiskHash", spec := "diskHash", unfollowed := true, recurses := true, apart := false }
def DiskHashSaid : Prop := diskHashRow.holds Try.pinned (OpenSpec.ofChange diskHashSpec)

/-- ITS FALSE NEIGHBOUR: 'it returns false'. Refute it at one input. -/
def diskHashWrong : ChangeSpec := { name := "diskHash", fn := fun _ => fun
  | [d1, d2, d3] => { results := [.lit (.bool false)], args := [d1, d2, d3] }
  | _ => none }
def DiskHashWrongFalsely : Prop := diskHashRow.holds Try.pinned (OpenSpec.ofChange diskHashWrong)

/-- 'worldmintlaw24.DiskBags': WHATEVER THE INPUT: true; the input reads as it did. -/
def diskBagsSpec : ChangeSpec := { name := "diskBags", fn := fun _ => fun
  | [d1, d2, d3, d4, d5] => { results := [.lit (.bool true)], args := [d1, d2, d3, d4, d5] }
  | _ => none }
def diskBagsRow : OpenClaim := { program := "ythcicfolabngcaa", sum := "ca10a4983264c807e0b4303928ea36ef23d03869bc960b3479e07707fa8d6db3", func := "worldmint/worldmintlaw24.DiskBags", spec := "diskBags", unfollowed := true, recurses := true, apart := false }
def DiskBagsSaid : Prop := diskBagsRow.holds Try.pinned (OpenSpec.ofChange diskBagsSpec)

/-- ITS FALSE NEIGHBOUR: 'it returns false'. Refute it at one input. -/
def diskBagsWrong : ChangeSpec := { name := "diskBags", fn := fun _ => fun
  | [d1, d2, d3, d4, d5] => { results := [.lit (.bool false)], args := [d1, d2, d3, d4, d5] }
  | _ => none }
def DiskBagsWrongFalsely : Prop := diskBagsRow.holds Try.pinned (OpenSpec.ofChange diskBagsWrong)

/- THE SECOND FORM. 'bulk': how many values and letters a reading holds, each counted each time it is reached (what is shared counts as often as it is met; a slice's spare places count too). A statement '..UptoSaid' is the law's where the arguments, and the package variables that the reading takes, are together of bulk at most 1048576: NARROWER than '..Said'. Prove '..Said' where nothing that the law and all that it calls make is longer than what came in: it says more and counts as full. Else prove '..UptoSaid'. A law counts once. -/
mutual
def uptoBulk {H : Type} : DataW H → Nat
  | .lit (.string bytes) => bytes.length + 1
  | .lit _ => 1
  | .nil => 1
  | .ptr d => uptoBulk d + 1
  | .slice elems spare => uptoBulkAll elems + uptoBulkAll spare + 1
  | .agg parts => uptoBulkAll parts + 1
  | .iface _ d => uptoBulk d + 1
  | .map entries => uptoBulkEntries entries + 1
  | .held _ => 1
def uptoBulkAll {H : Type} : List (DataW H) → Nat
  | [] => 0
  | d :: r => uptoBulk d + uptoBulkAll r
def uptoBulkEntries {H : Type} : List (Lit × DataW H) → Nat
  | [] => 0
  | x :: r => uptoBulkEntry x + uptoBulkEntries r
def uptoBulkEntry {H : Type} : Lit × DataW H → Nat
  | (.string bytes, d) => bytes.length + uptoBulk d + 1
  | (_, d) => uptoBulk d + 1
 end
def uptoSmall : (H : Type) → List (DataW H) → Bool := fun _ ds => decide (uptoBulkAll ds ≤ 1048576)
def OpenSpec.upto (s : _root_.Go.ChangeSpec) : _root_.Go.OpenSpec := { _root_.Go.OpenSpec.ofChange s with cond := some uptoSmall }

/-- 'worldmintlaw24.DiskPrefix', WHERE WHAT IT READS IS OF BULK AT MOST 1048576: true; the input reads as it did. -/
def diskPrefixUptoRow : OpenClaim := { program := "ythcicfolabngcaa", sum := "ca10a4983264c807e0b4303928ea36ef23d03869bc960b3479e07707fa8d6db3", func := "worldmint/worldmintlaw24.DiskPrefix", spec := "diskPrefix", unfollowed := true, recurses := true, apart := false, narrowed := true }
def DiskPrefixUptoSaid : Prop := diskPrefixUptoRow.holds Try.pinned (OpenSpec.upto diskPrefixSpec)

/-- 'worldmintlaw24.DiskArguments', WHERE WHAT IT READS IS OF BULK AT MOST 1048576: true; the input reads as it did. -/
def diskArgumentsUptoRow : OpenClaim := { program := "ythcicfolabngcaa", sum := "ca10a4983264c807e0b4303928ea36ef23d03869bc960b3479e07707fa8d6db3", func := "worldmint/worldmintlaw24.DiskArguments", spec := "diskArguments", unfollowed := true, recurses := true, apart := false, narrowed := true }
def DiskArgumentsUptoSaid : Prop := diskArgumentsUptoRow.holds Try.pinned (OpenSpec.upto diskArgumentsSpec)

/-- 'worldmintlaw24.DiskDurable', WHERE WHAT IT READS IS OF BULK AT MOST 1048576: true; the input reads as it did. -/
def diskDurableUptoRow : OpenClaim := { program := "ythcicfolabngcaa", sum := "ca10a4983264c807e0b4303928ea36ef23d03869bc960b3479e07707fa8d6db3", func := "worldmint/worldmintlaw24.DiskDurable", spec := "diskDurable", unfollowed := true, recurses := true, apart := false, narrowed := true }
def DiskDurableUptoSaid : Prop := diskDurableUptoRow.holds Try.pinned (OpenSpec.upto diskDurableSpec)

/-- 'worldmintlaw24.DiskRuns', WHERE WHAT IT READS IS OF BULK AT MOST 1048576: true; the input reads as it did. -/
def diskRunsUptoRow : OpenClaim := { program := "ythcicfolabngcaa", sum := "ca10a4983264c807e0b4303928ea36ef23d03869bc960b3479e07707fa8d6db3", func := "worldmint/worldmintlaw24.DiskRuns", spec := "diskRuns", unfollowed := true, recurses := true, apart := false, narrowed := true }
def DiskRunsUptoSaid : Prop := diskRunsUptoRow.holds Try.pinned (OpenSpec.upto diskRunsSpec)

/-- 'worldmintlaw24.DiskPlan', WHERE WHAT IT READS IS OF BULK AT MOST 1048576: true; the input reads as it did. -/
def diskPlanUptoRow : OpenClaim := { program := "ythcicfolabngcaa", sum := "ca10a4983264c807e0b4303928ea36ef23d03869bc960b3479e07707fa8d6db3", func := "worldmint/worldmintlaw24.DiskPlan", spec := "diskPlan", unfollowed := true, recurses := true, apart := false, narrowed := true }
def DiskPlanUptoSaid : Prop := diskPlanUptoRow.holds Try.pinned (OpenSpec.upto diskPlanSpec)

/-- 'worldmintlaw24.DiskCopies', WHERE WHAT IT READS IS OF BULK AT MOST 1048576: true; the input reads as it did. -/
def diskCopiesUptoRow : OpenClaim := { program := "ythcicfolabngcaa", sum := "ca10a4983264c807e0b4303928ea36ef23d03869bc960b3479e07707fa8d6db3", func := "worldmint/worldmintlaw24.DiskCopies", spec := "diskCopies", unfollowed := true, recurses := true, apart := false, narrowed := true }
def DiskCopiesUptoSaid : Prop := diskCopiesUptoRow.holds Try.pinned (OpenSpec.upto diskCopiesSpec)

/-- 'worldmintlaw24.DiskHash', WHERE WHAT IT READS IS OF BULK AT MOST 1048576: true; the input reads as it did. -/
def diskHashUptoRow : OpenClaim := { program := "ythcicfolabngcaa", sum := "ca10a4983264c807e0b4303928ea36ef23d03869bc960b3479e07707fa8d6db3", func := "worldmint/worldmintlaw24.DiskHash", spec := "diskHash", unfollowed := true, recurses := true, apart := false, narrowed := true }
def DiskHashUptoSaid : Prop := diskHashUptoRow.holds Try.pinned (OpenSpec.upto diskHashSpec)

/-- 'worldmintlaw24.DiskBags', WHERE WHAT IT READS IS OF BULK AT MOST 1048576: true; the input reads as it did. -/
def diskBagsUptoRow : OpenClaim := { program := "ythcicfolabngcaa", sum := "ca10a4983264c807e0b4303928ea36ef23d03869bc960b3479e07707fa8d6db3", func := "worldmint/worldmintlaw24.DiskBags", spec := "diskBags", unfollowed := true, recurses := true, apart := false, narrowed := true }
def DiskBagsUptoSaid : Prop := diskBagsUptoRow.holds Try.pinned (OpenSpec.upto diskBagsSpec)

end Rows
end Go.Proofs.Ythcicfolabngcaa
