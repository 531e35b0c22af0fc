/-
  No cell of these rows narrows 'for every input' (looked for: loops, veiled, ifaces, maps, wideKeys, modest, calm, conditions, laid).
  DERIVED. THE GIVEN ROWS OF THIS SEAT. 4 by the template 'for every input the law returns true; each argument reads behind the call as it read before'; 0 by the template 'total and deterministic' (their statements: YtdokipdchlcmeaaGreatTotals.lean).
  GIVEN WITH THE SEED: the statements are not yours to turn. If you find one false, say at which input.
  Laid BY PROGRAM, IN A SANDBOX (cutbox-rows.mjs): the forced cells as the released guide's own fill.sh prints them over the translation f17738ba62c7a606… (all of the seat's roots in one cut). By AI agents, Wed Nov 11 2026. No macro, syntax, notation, axiom, sorry.
-/
import Derived.Test.YtdokipdchlcmeaaGreatChecked
import GoSem.Claim
import GoSem.ClaimJoined
import GoSem.ClaimMapViews
import Derived.JoinedTies
import Derived.KernelRfl
namespace Go.Proofs.YtdokipdchlcmeaaGreat
/- THE CELL 'sum', in the pinned program and in every row, IS THE sha256 OF THE DUMP (.gsa) THAT YtdokipdchlcmeaaGreatProg.lean LOADS. Nothing in Lean hashes anything: it is a label: what it is worth is what the hold of that sum in a sandbox is worth. -/
noncomputable def Tryz.pinned : Pinned := { name := "ytdokipdchlcmeaagreat", sum := "f17738ba62c7a606e9899adbb38db46f5a06d113c9b60fa30b4f7e15542f7966", checked := Tryz.checked }
namespace Rows
def none {H : Type} : Left H := { results := [], args := [] }

/-- 'complinelaw30.CycleLoses': WHATEVER THE INPUT: true; the input reads as it did. -/
def cycleLosesSpec : ChangeSpec := { name := "cycleLoses", fn := fun _ => fun
  | [d1, d2] => { results := [.lit (.bool true)], args := [d1, d2] }
  | _ => none }
def cycleLosesRow : OpenClaim := { program := "ytdokipdchlcmeaagreat", sum := "f17738ba62c7a606e9899adbb38db46f5a06d113c9b60fa30b4f7e15542f7966", func := "compline/complinelaw30.CycleLoses", spec := "cycleLoses", inPlace := ["math/bits.Add64", "slices.overlaps[compline/table.Row[compline/api.Hold]]"], unfollowed := true, recurses := true, named := ["math/bits.divideError", "math/bits.overflowError"], plainKeys := false, apart := false }
def CycleLosesSaid : Prop := cycleLosesRow.holds Tryz.pinned (OpenSpec.ofChange cycleLosesSpec)

/-- ITS FALSE NEIGHBOUR: 'it returns false'. Refute it at one input. -/
def cycleLosesWrong : ChangeSpec := { name := "cycleLoses", fn := fun _ => fun
  | [d1, d2] => { results := [.lit (.bool false)], args := [d1, d2] }
  | _ => none }
def CycleLosesWrongFalsely : Prop := cycleLosesRow.holds Tryz.pinned (OpenSpec.ofChange cycleLosesWrong)

/-- 'complinelaw30.CycleFlows': WHATEVER THE INPUT: true; the input reads as it did. -/
def cycleFlowsSpec : ChangeSpec := { name := "cycleFlows", fn := fun _ => fun
  | [d1, d2] => { results := [.lit (.bool true)], args := [d1, d2] }
  | _ => none }
def cycleFlowsRow : OpenClaim := { program := "ytdokipdchlcmeaagreat", sum := "f17738ba62c7a606e9899adbb38db46f5a06d113c9b60fa30b4f7e15542f7966", func := "compline/complinelaw30.CycleFlows", spec := "cycleFlows", inPlace := ["math/bits.Add64", "slices.overlaps[compline/table.Row[compline/api.Hold]]"], unfollowed := true, recurses := true, named := ["math/bits.divideError", "math/bits.overflowError"], plainKeys := false, apart := false }
def CycleFlowsSaid : Prop := cycleFlowsRow.holds Tryz.pinned (OpenSpec.ofChange cycleFlowsSpec)

/-- ITS FALSE NEIGHBOUR: 'it returns false'. Refute it at one input. -/
def cycleFlowsWrong : ChangeSpec := { name := "cycleFlows", fn := fun _ => fun
  | [d1, d2] => { results := [.lit (.bool false)], args := [d1, d2] }
  | _ => none }
def CycleFlowsWrongFalsely : Prop := cycleFlowsRow.holds Tryz.pinned (OpenSpec.ofChange cycleFlowsWrong)

/-- 'complinelaw30.CycleFates': WHATEVER THE INPUT: true; the input reads as it did. -/
def cycleFatesSpec : ChangeSpec := { name := "cycleFates", fn := fun _ => fun
  | [d1, d2] => { results := [.lit (.bool true)], args := [d1, d2] }
  | _ => none }
def cycleFatesRow : OpenClaim := { program := "ytdokipdchlcmeaagreat", sum := "f17738ba62c7a606e9899adbb38db46f5a06d113c9b60fa30b4f7e15542f7966", func := "compline/complinelaw30.CycleFates", spec := "cycleFates", inPlace := ["math/bits.Add64", "slices.overlaps[compline/table.Row[compline/api.Hold]]"], unfollowed := true, recurses := true, named := ["math/bits.divideError", "math/bits.overflowError"], plainKeys := false, apart := false }
def CycleFatesSaid : Prop := cycleFatesRow.holds Tryz.pinned (OpenSpec.ofChange cycleFatesSpec)

/-- ITS FALSE NEIGHBOUR: 'it returns false'. Refute it at one input. -/
def cycleFatesWrong : ChangeSpec := { name := "cycleFates", fn := fun _ => fun
  | [d1, d2] => { results := [.lit (.bool false)], args := [d1, d2] }
  | _ => none }
def CycleFatesWrongFalsely : Prop := cycleFatesRow.holds Tryz.pinned (OpenSpec.ofChange cycleFatesWrong)

/-- 'complinelaw30.CycleBalances': WHATEVER THE INPUT: true; the input reads as it did. -/
def cycleBalancesSpec : ChangeSpec := { name := "cycleBalances", fn := fun _ => fun
  | [d1, d2] => { results := [.lit (.bool true)], args := [d1, d2] }
  | _ => none }
def cycleBalancesRow : OpenClaim := { program := "ytdokipdchlcmeaagreat", sum := "f17738ba62c7a606e9899adbb38db46f5a06d113c9b60fa30b4f7e15542f7966", func := "compline/complinelaw30.CycleBalances", spec := "cycleBalances", inPlace := ["math/bits.Add64", "slices.overlaps[compline/table.Row[compline/api.Hold]]"], unfollowed := true, recurses := true, named := ["math/bits.divideError", "math/bits.overflowError"], plainKeys := false, apart := false }
def CycleBalancesSaid : Prop := cycleBalancesRow.holds Tryz.pinned (OpenSpec.ofChange cycleBalancesSpec)

/-- ITS FALSE NEIGHBOUR: 'it returns false'. Refute it at one input. -/
def cycleBalancesWrong : ChangeSpec := { name := "cycleBalances", fn := fun _ => fun
  | [d1, d2] => { results := [.lit (.bool false)], args := [d1, d2] }
  | _ => none }
def CycleBalancesWrongFalsely : Prop := cycleBalancesRow.holds Tryz.pinned (OpenSpec.ofChange cycleBalancesWrong)

/- THE SECOND FORM. 'bulk': how many values and letters a reading holds, each counted each time it is reached (what is shared counts as often as it is met; a slice's spare places count too). A statement '..UptoSaid' is the law's where the arguments, and the package variables that the reading takes, are together of bulk at most 1048576: NARROWER than '..Said'. Prove '..Said' where nothing that the law and all that it calls make is longer than what came in: it says more and counts as full. Else prove '..UptoSaid'. A law counts once. -/
mutual
def uptoBulk {H : Type} : DataW H → Nat
  | .lit (.string bytes) => bytes.length + 1
  | .lit _ => 1
  | .nil => 1
  | .ptr d => uptoBulk d + 1
  | .slice elems spare => uptoBulkAll elems + uptoBulkAll spare + 1
  | .agg parts => uptoBulkAll parts + 1
  | .iface _ d => uptoBulk d + 1
  | .map entries => uptoBulkEntries entries + 1
  | .held _ => 1
def uptoBulkAll {H : Type} : List (DataW H) → Nat
  | [] => 0
  | d :: r => uptoBulk d + uptoBulkAll r
def uptoBulkEntries {H : Type} : List (Lit × DataW H) → Nat
  | [] => 0
  | x :: r => uptoBulkEntry x + uptoBulkEntries r
def uptoBulkEntry {H : Type} : Lit × DataW H → Nat
  | (.string bytes, d) => bytes.length + uptoBulk d + 1
  | (_, d) => uptoBulk d + 1
 end
def uptoSmall : (H : Type) → List (DataW H) → Bool := fun _ ds => decide (uptoBulkAll ds ≤ 1048576)
def OpenSpec.upto (s : _root_.Go.ChangeSpec) : _root_.Go.OpenSpec := { _root_.Go.OpenSpec.ofChange s with cond := some uptoSmall }

/-- 'complinelaw30.CycleLoses', WHERE WHAT IT READS IS OF BULK AT MOST 1048576: true; the input reads as it did. -/
def cycleLosesUptoRow : OpenClaim := { program := "ytdokipdchlcmeaagreat", sum := "f17738ba62c7a606e9899adbb38db46f5a06d113c9b60fa30b4f7e15542f7966", func := "compline/complinelaw30.CycleLoses", spec := "cycleLoses", inPlace := ["math/bits.Add64", "slices.overlaps[compline/table.Row[compline/api.Hold]]"], unfollowed := true, recurses := true, named := ["math/bits.divideError", "math/bits.overflowError"], plainKeys := false, apart := false, narrowed := true }
def CycleLosesUptoSaid : Prop := cycleLosesUptoRow.holds Tryz.pinned (OpenSpec.upto cycleLosesSpec)

/-- 'complinelaw30.CycleFlows', WHERE WHAT IT READS IS OF BULK AT MOST 1048576: true; the input reads as it did. -/
def cycleFlowsUptoRow : OpenClaim := { program := "ytdokipdchlcmeaagreat", sum := "f17738ba62c7a606e9899adbb38db46f5a06d113c9b60fa30b4f7e15542f7966", func := "compline/complinelaw30.CycleFlows", spec := "cycleFlows", inPlace := ["math/bits.Add64", "slices.overlaps[compline/table.Row[compline/api.Hold]]"], unfollowed := true, recurses := true, named := ["math/bits.divideError", "math/bits.overflowError"], plainKeys := false, apart := false, narrowed := true }
def CycleFlowsUptoSaid : Prop := cycleFlowsUptoRow.holds Tryz.pinned (OpenSpec.upto cycleFlowsSpec)

/-- 'complinelaw30.CycleFates', WHERE WHAT IT READS IS OF BULK AT MOST 1048576: true; the input reads as it did. -/
def cycleFatesUptoRow : OpenClaim := { program := "ytdokipdchlcmeaagreat", sum := "f17738ba62c7a606e9899adbb38db46f5a06d113c9b60fa30b4f7e15542f7966", func := "compline/complinelaw30.CycleFates", spec := "cycleFates", inPlace := ["math/bits.Add64", "slices.overlaps[compline/table.Row[compline/api.Hold]]"], unfollowed := true, recurses := true, named := ["math/bits.divideError", "math/bits.overflowError"], plainKeys := false, apart := false, narrowed := true }
def CycleFatesUptoSaid : Prop := cycleFatesUptoRow.holds Tryz.pinned (OpenSpec.upto cycleFatesSpec)

/-- 'complinelaw30.CycleBalances', WHERE WHAT IT READS IS OF BULK AT MOST 1048576: true; the input reads as it did. -/
def cycleBalancesUptoRow : OpenClaim := { program := "ytdokipdchlcmeaagreat", sum := "f17738ba62c7a606e9899adbb38db46f5a06d113c9b60fa30b4f7e15542f7966", func := "compline/complinelaw30.CycleBalances", spec := "cycleBalances", inPlace := ["math/bits.Add64", "slices.overlaps[compline/table.Row[compline/api.Hold]]"], unfollowed := true, recurses := true, named := ["math/bits.divideError", "math/bits.overflowError"], plainKeys := false, apart := false, narrowed := true }
def CycleBalancesUptoSaid : Prop := cycleBalancesUptoRow.holds Tryz.pinned (OpenSpec.upto cycleBalancesSpec)

end Rows
end Go.Proofs.YtdokipdchlcmeaaGreat
