/-
  No cell of these rows narrows 'for every input' (looked for: loops, veiled, ifaces, maps, wideKeys, modest, calm, conditions, laid).
  DERIVED. THE GIVEN ROWS OF THIS SEAT. 4 by the template 'for every input the law returns true; each argument reads behind the call as it read before'; 0 by the template 'total and deterministic' (their statements: YtgkidjjijgegmaaTotals.lean).
  GIVEN WITH THE SEED: the statements are not yours to turn. If you find one false, say at which input.
  Laid BY PROGRAM, IN A SANDBOX (cutbox-rows.mjs): the forced cells as the released guide's own fill.sh prints them over the translation 3082778d2b6168b2… (all of the seat's roots in one cut). By AI agents, Wed Nov 11 2026. No macro, syntax, notation, axiom, sorry.
-/
import Derived.Test.YtgkidjjijgegmaaChecked
import GoSem.Claim
import GoSem.ClaimJoined
import GoSem.ClaimMapViews
import Derived.JoinedTies
import Derived.KernelRfl
namespace Go.Proofs.Ytgkidjjijgegmaa
/- THE CELL 'sum', in the pinned program and in every row, IS THE sha256 OF THE DUMP (.gsa) THAT YtgkidjjijgegmaaProg.lean LOADS. Nothing in Lean hashes anything: it is a label: what it is worth is what the hold of that sum in a sandbox is worth. -/
noncomputable def Try.pinned : Pinned := { name := "ytgkidjjijgegmaa", sum := "3082778d2b6168b2ff71aeb2d08c0c15d183a227a1054ef88e0f3643350d2402", checked := Try.checked }
namespace Rows
def none {H : Type} : Left H := { results := [], args := [] }

/-- 'complinelaw37.CensusCounts': WHATEVER THE INPUT: true; the input reads as it did. -/
def censusCountsSpec : ChangeSpec := { name := "censusCounts", fn := fun _ => fun
  | [d1, d2] => { results := [.lit (.bool true)], args := [d1, d2] }
  | _ => none }
def censusCountsRow : OpenClaim := { program := "ytgkidjjijgegmaa", sum := "3082778d2b6168b2ff71aeb2d08c0c15d183a227a1054ef88e0f3643350d2402", func := "compline/complinelaw37.CensusCounts", spec := "censusCounts", inPlace := ["math/bits.Add64"], unfollowed := true, recurses := true, plainKeys := false, apart := false }
def CensusCountsSaid : Prop := censusCountsRow.holds Try.pinned (OpenSpec.ofChange censusCountsSpec)

/-- ITS FALSE NEIGHBOUR: 'it returns false'. Refute it at one input. -/
def censusCountsWrong : ChangeSpec := { name := "censusCounts", fn := fun _ => fun
  | [d1, d2] => { results := [.lit (.bool false)], args := [d1, d2] }
  | _ => none }
def CensusCountsWrongFalsely : Prop := censusCountsRow.holds Try.pinned (OpenSpec.ofChange censusCountsWrong)

/-- 'complinelaw37.CensusLeaves': WHATEVER THE INPUT: true; the input reads as it did. -/
def censusLeavesSpec : ChangeSpec := { name := "censusLeaves", fn := fun _ => fun
  | [d1, d2] => { results := [.lit (.bool true)], args := [d1, d2] }
  | _ => none }
def censusLeavesRow : OpenClaim := { program := "ytgkidjjijgegmaa", sum := "3082778d2b6168b2ff71aeb2d08c0c15d183a227a1054ef88e0f3643350d2402", func := "compline/complinelaw37.CensusLeaves", spec := "censusLeaves", inPlace := ["math/bits.Add64"], unfollowed := true, recurses := true, plainKeys := false, apart := false }
def CensusLeavesSaid : Prop := censusLeavesRow.holds Try.pinned (OpenSpec.ofChange censusLeavesSpec)

/-- ITS FALSE NEIGHBOUR: 'it returns false'. Refute it at one input. -/
def censusLeavesWrong : ChangeSpec := { name := "censusLeaves", fn := fun _ => fun
  | [d1, d2] => { results := [.lit (.bool false)], args := [d1, d2] }
  | _ => none }
def CensusLeavesWrongFalsely : Prop := censusLeavesRow.holds Try.pinned (OpenSpec.ofChange censusLeavesWrong)

/-- 'complinelaw37.CensusJoins': WHATEVER THE INPUT: true; the input reads as it did. -/
def censusJoinsSpec : ChangeSpec := { name := "censusJoins", fn := fun _ => fun
  | [d1, d2] => { results := [.lit (.bool true)], args := [d1, d2] }
  | _ => none }
def censusJoinsRow : OpenClaim := { program := "ytgkidjjijgegmaa", sum := "3082778d2b6168b2ff71aeb2d08c0c15d183a227a1054ef88e0f3643350d2402", func := "compline/complinelaw37.CensusJoins", spec := "censusJoins", inPlace := ["math/bits.Add64"], unfollowed := true, recurses := true, plainKeys := false, apart := false }
def CensusJoinsSaid : Prop := censusJoinsRow.holds Try.pinned (OpenSpec.ofChange censusJoinsSpec)

/-- ITS FALSE NEIGHBOUR: 'it returns false'. Refute it at one input. -/
def censusJoinsWrong : ChangeSpec := { name := "censusJoins", fn := fun _ => fun
  | [d1, d2] => { results := [.lit (.bool false)], args := [d1, d2] }
  | _ => none }
def CensusJoinsWrongFalsely : Prop := censusJoinsRow.holds Try.pinned (OpenSpec.ofChange censusJoinsWrong)

/-- 'complinelaw37.CensusFinds': WHATEVER THE INPUT: true; the input reads as it did. -/
def censusFindsSpec : ChangeSpec := { name := "censusFinds", fn := fun _ => fun
  | [d1, d2, d3] => { results := [.lit (.bool true)], args := [d1, d2, d3] }
  | _ => none }
def censusFindsRow : OpenClaim := { program := "ytgkidjjijgegmaa", sum := "3082778d2b6168b2ff71aeb2d08c0c15d183a227a1054ef88e0f3643350d2402", func := "compline/complinelaw37.CensusFinds", spec := "censusFinds", inPlace := ["math/bits.Add64"], unfollowed := true, recurses := true, plainKeys := false, apart := false }
def CensusFindsSaid : Prop := censusFindsRow.holds Try.pinned (OpenSpec.ofChange censusFindsSpec)

/-- ITS FALSE NEIGHBOUR: 'it returns false'. Refute it at one input. -/
def censusFindsWrong : ChangeSpec := { name := "censusFinds", fn := fun _ => fun
  | [d1, d2, d3] => { results := [.lit (.bool false)], args := [d1, d2, d3] }
  | _ => none }
def CensusFindsWrongFalsely : Prop := censusFindsRow.holds Try.pinned (OpenSpec.ofChange censusFindsWrong)

/- THE SECOND FORM. 'bulk': how many values and letters a reading holds, each counted each time it is reached (what is shared counts as often as it is met; a slice's spare places count too). A statement '..UptoSaid' is the law's where the arguments, and the package variables that the reading takes, are together of bulk at most 1048576: NARROWER than '..Said'. Prove '..Said' where nothing that the law and all that it calls make is longer than what came in: it says more and counts as full. Else prove '..UptoSaid'. A law counts once. -/
mutual
def uptoBulk {H : Type} : DataW H → Nat
  | .lit (.string bytes) => bytes.length + 1
  | .lit _ => 1
  | .nil => 1
  | .ptr d => uptoBulk d + 1
  | .slice elems spare => uptoBulkAll elems + uptoBulkAll spare + 1
  | .agg parts => uptoBulkAll parts + 1
  | .iface _ d => uptoBulk d + 1
  | .map entries => uptoBulkEntries entries + 1
  | .held _ => 1
def uptoBulkAll {H : Type} : List (DataW H) → Nat
  | [] => 0
  | d :: r => uptoBulk d + uptoBulkAll r
def uptoBulkEntries {H : Type} : List (Lit × DataW H) → Nat
  | [] => 0
  | x :: r => uptoBulkEntry x + uptoBulkEntries r
def uptoBulkEntry {H : Type} : Lit × DataW H → Nat
  | (.string bytes, d) => bytes.length + uptoBulk d + 1
  | (_, d) => uptoBulk d + 1
 end
def uptoSmall : (H : Type) → List (DataW H) → Bool := fun _ ds => decide (uptoBulkAll ds ≤ 1048576)
def OpenSpec.upto (s : _root_.Go.ChangeSpec) : _root_.Go.OpenSpec := { _root_.Go.OpenSpec.ofChange s with cond := some uptoSmall }

/-- 'complinelaw37.CensusCounts', WHERE WHAT IT READS IS OF BULK AT MOST 1048576: true; the input reads as it did. -/
def censusCountsUptoRow : OpenClaim := { program := "ytgkidjjijgegmaa", sum := "3082778d2b6168b2ff71aeb2d08c0c15d183a227a1054ef88e0f3643350d2402", func := "compline/complinelaw37.CensusCounts", spec := "censusCounts", inPlace := ["math/bits.Add64"], unfollowed := true, recurses := true, plainKeys := false, apart := false, narrowed := true }
def CensusCountsUptoSaid : Prop := censusCountsUptoRow.holds Try.pinned (OpenSpec.upto censusCountsSpec)

/-- 'complinelaw37.CensusLeaves', WHERE WHAT IT READS IS OF BULK AT MOST 1048576: true; the input reads as it did. -/
def censusLeavesUptoRow : OpenClaim := { program := "ytgkidjjijgegmaa", sum := "3082778d2b6168b2ff71aeb2d08c0c15d183a227a1054ef88e0f3643350d2402", func := "compline/complinelaw37.CensusLeaves", spec := "censusLeaves", inPlace := ["math/bits.Add64"], unfollowed := true, recurses := true, plainKeys := false, apart := false, narrowed := true }
def CensusLeavesUptoSaid : Prop := censusLeavesUptoRow.holds Try.pinned (OpenSpec.upto censusLeavesSpec)

/-- 'complinelaw37.CensusJoins', WHERE WHAT IT READS IS OF BULK AT MOST 1048576: true; the input reads as it did. -/
def censusJoinsUptoRow : OpenClaim := { program := "ytgkidjjijgegmaa", sum := "3082778d2b6168b2ff71aeb2d08c0c15d183a227a1054ef88e0f3643350d2402", func := "compline/complinelaw37.CensusJoins", spec := "censusJoins", inPlace := ["math/bits.Add64"], unfollowed := true, recurses := true, plainKeys := false, apart := false, narrowed := true }
def CensusJoinsUptoSaid : Prop := censusJoinsUptoRow.holds Try.pinned (OpenSpec.upto censusJoinsSpec)

/-- 'complinelaw37.CensusFinds', WHERE WHAT IT READS IS OF BULK AT MOST 1048576: true; the input reads as it did. -/
def censusFindsUptoRow : OpenClaim := { program := "ytgkidjjijgegmaa", sum := "3082778d2b6168b2ff71aeb2d08c0c15d183a227a1054ef88e0f3643350d2402", func := "compline/complinelaw37.CensusFinds", spec := "censusFinds", inPlace := ["math/bits.Add64"], unfollowed := true, recurses := true, plainKeys := false, apart := false, narrowed := true }
def CensusFindsUptoSaid : Prop := censusFindsUptoRow.holds Try.pinned (OpenSpec.upto censusFindsSpec)

end Rows
end Go.Proofs.Ytgkidjjijgegmaa
