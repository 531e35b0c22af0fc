/-
  No cell of these rows narrows 'for every input' (looked for: loops, veiled, ifaces, maps, wideKeys, modest, calm, conditions, laid).
  DERIVED. THE GIVEN ROWS OF THIS SEAT. 7 by the template 'for every input the law returns true; each argument reads behind the call as it read before'; 0 by the template 'total and deterministic' (their statements: YtglpnpjjjihghaaTotals.lean).
  GIVEN WITH THE SEED: the statements are not yours to turn. If you find one false, say at which input.
  Laid BY PROGRAM, IN A SANDBOX (cutbox-rows.mjs): the forced cells as the released guide's own fill.sh prints them over the translation ebf510d360b3d229… (all of the seat's roots in one cut). By AI agents, Wed Nov 11 2026. No macro, syntax, notation, axiom, sorry.
-/
import Derived.Test.YtglpnpjjjihghaaChecked
import GoSem.Claim
import GoSem.ClaimJoined
import GoSem.ClaimMapViews
import Derived.JoinedTies
import Derived.KernelRfl
namespace Go.Proofs.Ytglpnpjjjihghaa
/- THE CELL 'sum', in the pinned program and in every row, IS THE sha256 OF THE DUMP (.gsa) THAT YtglpnpjjjihghaaProg.lean LOADS. Nothing in Lean hashes anything: it is a label: what it is worth is what the hold of that sum in a sandbox is worth. -/
noncomputable def Try.pinned : Pinned := { name := "ytglpnpjjjihghaa", sum := "ebf510d360b3d2293563d149c47383100242d1e8bb888bd5f28303614e47a004", checked := Try.checked }
namespace Rows
def none {H : Type} : Left H := { results := [], args := [] }

/-- 'complinelaw27.CompWorth': WHATEVER THE INPUT: true; the input reads as it did. -/
def compWorthSpec : ChangeSpec := { name := "compWorth", fn := fun _ => fun
  | [d1, d2] => { results := [.lit (.bool true)], args := [d1, d2] }
  | _ => none }
def compWorthRow : OpenClaim := { program := "ytglpnpjjjihghaa", sum := "ebf510d360b3d2293563d149c47383100242d1e8bb888bd5f28303614e47a004", func := "compline/complinelaw27.CompWorth", spec := "compWorth", inPlace := ["math/bits.Add64"], unfollowed := true, recurses := true, apart := false }
def CompWorthSaid : Prop := compWorthRow.holds Try.pinned (OpenSpec.ofChange compWorthSpec)

/-- ITS FALSE NEIGHBOUR: 'it returns false'. Refute it at one input. -/
def compWorthWrong : ChangeSpec := { name := "compWorth", fn := fun _ => fun
  | [d1, d2] => { results := [.lit (.bool false)], args := [d1, d2] }
  | _ => none }
def CompWorthWrongFalsely : Prop := compWorthRow.holds Try.pinned (OpenSpec.ofChange compWorthWrong)

/-- 'complinelaw23.FallOrders': WHATEVER THE INPUT: true; the input reads as it did. -/
def fallOrdersSpec : ChangeSpec := { name := "fallOrders", fn := fun _ => fun
  | [d1, d2, d3] => { results := [.lit (.bool true)], args := [d1, d2, d3] }
  | _ => none }
def fallOrdersRow : OpenClaim := { program := "ytglpnpjjjihghaa", sum := "ebf510d360b3d2293563d149c47383100242d1e8bb888bd5f28303614e47a004", func := "compline/complinelaw23.FallOrders", spec := "fallOrders", inPlace := ["math/bits.Add64"], unfollowed := true, recurses := true, named := ["math/bits.divideError", "math/bits.overflowError"], apart := false }
def FallOrdersSaid : Prop := fallOrdersRow.holds Try.pinned (OpenSpec.ofChange fallOrdersSpec)

/-- ITS FALSE NEIGHBOUR: 'it returns false'. Refute it at one input. -/
def fallOrdersWrong : ChangeSpec := { name := "fallOrders", fn := fun _ => fun
  | [d1, d2, d3] => { results := [.lit (.bool false)], args := [d1, d2, d3] }
  | _ => none }
def FallOrdersWrongFalsely : Prop := fallOrdersRow.holds Try.pinned (OpenSpec.ofChange fallOrdersWrong)

/-- 'complinelaw23.FallPlans': WHATEVER THE INPUT: true; the input reads as it did. -/
def fallPlansSpec : ChangeSpec := { name := "fallPlans", fn := fun _ => fun
  | [d1, d2, d3] => { results := [.lit (.bool true)], args := [d1, d2, d3] }
  | _ => none }
def fallPlansRow : OpenClaim := { program := "ytglpnpjjjihghaa", sum := "ebf510d360b3d2293563d149c47383100242d1e8bb888bd5f28303614e47a004", func := "compline/complinelaw23.FallPlans", spec := "fallPlans", inPlace := ["math/bits.Add64"], unfollowed := true, recurses := true, named := ["math/bits.divideError", "math/bits.overflowError"], apart := false }
def FallPlansSaid : Prop := fallPlansRow.holds Try.pinned (OpenSpec.ofChange fallPlansSpec)

/-- ITS FALSE NEIGHBOUR: 'it returns false'. Refute it at one input. -/
def fallPlansWrong : ChangeSpec := { name := "fallPlans", fn := fun _ => fun
  | [d1, d2, d3] => { results := [.lit (.bool false)], args := [d1, d2, d3] }
  | _ => none }
def FallPlansWrongFalsely : Prop := fallPlansRow.holds Try.pinned (OpenSpec.ofChange fallPlansWrong)

/-- 'complinelaw23.FallLess': WHATEVER THE INPUT: true; the input reads as it did. -/
def fallLessSpec : ChangeSpec := { name := "fallLess", fn := fun _ => fun
  | [d1, d2] => { results := [.lit (.bool true)], args := [d1, d2] }
  | _ => none }
def fallLessRow : OpenClaim := { program := "ytglpnpjjjihghaa", sum := "ebf510d360b3d2293563d149c47383100242d1e8bb888bd5f28303614e47a004", func := "compline/complinelaw23.FallLess", spec := "fallLess", inPlace := ["math/bits.Add64"], unfollowed := true, recurses := true, named := ["math/bits.divideError", "math/bits.overflowError"], apart := false }
def FallLessSaid : Prop := fallLessRow.holds Try.pinned (OpenSpec.ofChange fallLessSpec)

/-- ITS FALSE NEIGHBOUR: 'it returns false'. Refute it at one input. -/
def fallLessWrong : ChangeSpec := { name := "fallLess", fn := fun _ => fun
  | [d1, d2] => { results := [.lit (.bool false)], args := [d1, d2] }
  | _ => none }
def FallLessWrongFalsely : Prop := fallLessRow.holds Try.pinned (OpenSpec.ofChange fallLessWrong)

/-- 'complinelaw23.FallBounds': WHATEVER THE INPUT: true; the input reads as it did. -/
def fallBoundsSpec : ChangeSpec := { name := "fallBounds", fn := fun _ => fun
  | [d1, d2, d3] => { results := [.lit (.bool true)], args := [d1, d2, d3] }
  | _ => none }
def fallBoundsRow : OpenClaim := { program := "ytglpnpjjjihghaa", sum := "ebf510d360b3d2293563d149c47383100242d1e8bb888bd5f28303614e47a004", func := "compline/complinelaw23.FallBounds", spec := "fallBounds", inPlace := ["math/bits.Add64"], unfollowed := true, recurses := true, named := ["math/bits.divideError", "math/bits.overflowError"], apart := false }
def FallBoundsSaid : Prop := fallBoundsRow.holds Try.pinned (OpenSpec.ofChange fallBoundsSpec)

/-- ITS FALSE NEIGHBOUR: 'it returns false'. Refute it at one input. -/
def fallBoundsWrong : ChangeSpec := { name := "fallBounds", fn := fun _ => fun
  | [d1, d2, d3] => { results := [.lit (.bool false)], args := [d1, d2, d3] }
  | _ => none }
def FallBoundsWrongFalsely : Prop := fallBoundsRow.holds Try.pinned (OpenSpec.ofChange fallBoundsWrong)

/-- 'complinelaw27.CompJoins': WHATEVER THE INPUT: true; the input reads as it did. -/
def compJoinsSpec : ChangeSpec := { name := "compJoins", fn := fun _ => fun
  | [d1, d2, d3] => { results := [.lit (.bool true)], args := [d1, d2, d3] }
  | _ => none }
def compJoinsRow : OpenClaim := { program := "ytglpnpjjjihghaa", sum := "ebf510d360b3d2293563d149c47383100242d1e8bb888bd5f28303614e47a004", func := "compline/complinelaw27.CompJoins", spec := "compJoins", inPlace := ["math/bits.Add64"], unfollowed := true, recurses := true, apart := false }
def CompJoinsSaid : Prop := compJoinsRow.holds Try.pinned (OpenSpec.ofChange compJoinsSpec)

/-- ITS FALSE NEIGHBOUR: 'it returns false'. Refute it at one input. -/
def compJoinsWrong : ChangeSpec := { name := "compJoins", fn := fun _ => fun
  | [d1, d2, d3] => { results := [.lit (.bool false)], args := [d1, d2, d3] }
  | _ => none }
def CompJoinsWrongFalsely : Prop := compJoinsRow.holds Try.pinned (OpenSpec.ofChange compJoinsWrong)

/-- 'complinelaw27.CompPays': WHATEVER THE INPUT: true; the input reads as it did. -/
def compPaysSpec : ChangeSpec := { name := "compPays", fn := fun _ => fun
  | [d1, d2, d3] => { results := [.lit (.bool true)], args := [d1, d2, d3] }
  | _ => none }
def compPaysRow : OpenClaim := { program := "ytglpnpjjjihghaa", sum := "ebf510d360b3d2293563d149c47383100242d1e8bb888bd5f28303614e47a004", func := "compline/complinelaw27.CompPays", spec := "compPays", inPlace := ["math/bits.Add64"], unfollowed := true, recurses := true, named := ["math/bits.divideError", "math/bits.overflowError"], apart := false }
def CompPaysSaid : Prop := compPaysRow.holds Try.pinned (OpenSpec.ofChange compPaysSpec)

/-- ITS FALSE NEIGHBOUR: 'it returns false'. Refute it at one input. -/
def compPaysWrong : ChangeSpec := { name := "compPays", fn := fun _ => fun
  | [d1, d2, d3] => { results := [.lit (.bool false)], args := [d1, d2, d3] }
  | _ => none }
def CompPaysWrongFalsely : Prop := compPaysRow.holds Try.pinned (OpenSpec.ofChange compPaysWrong)

/- THE SECOND FORM. 'bulk': how many values and letters a reading holds, each counted each time it is reached (what is shared counts as often as it is met; a slice's spare places count too). A statement '..UptoSaid' is the law's where the arguments, and the package variables that the reading takes, are together of bulk at most 1048576: NARROWER than '..Said'. Prove '..Said' where nothing that the law and all that it calls make is longer than what came in: it says more and counts as full. Else prove '..UptoSaid'. A law counts once. -/
mutual
def uptoBulk {H : Type} : DataW H → Nat
  | .lit (.string bytes) => bytes.length + 1
  | .lit _ => 1
  | .nil => 1
  | .ptr d => uptoBulk d + 1
  | .slice elems spare => uptoBulkAll elems + uptoBulkAll spare + 1
  | .agg parts => uptoBulkAll parts + 1
  | .iface _ d => uptoBulk d + 1
  | .map entries => uptoBulkEntries entries + 1
  | .held _ => 1
def uptoBulkAll {H : Type} : List (DataW H) → Nat
  | [] => 0
  | d :: r => uptoBulk d + uptoBulkAll r
def uptoBulkEntries {H : Type} : List (Lit × DataW H) → Nat
  | [] => 0
  | x :: r => uptoBulkEntry x + uptoBulkEntries r
def uptoBulkEntry {H : Type} : Lit × DataW H → Nat
  | (.string bytes, d) => bytes.length + uptoBulk d + 1
  | (_, d) => uptoBulk d + 1
 end
def uptoSmall : (H : Type) → List (DataW H) → Bool := fun _ ds => decide (uptoBulkAll ds ≤ 1048576)
def OpenSpec.upto (s : _root_.Go.ChangeSpec) : _root_.Go.OpenSpec := { _root_.Go.OpenSpec.ofChange s with cond := some uptoSmall }

/-- 'complinelaw27.CompWorth', WHERE WHAT IT READS IS OF BULK AT MOST 1048576: true; the input reads as it did. -/
def compWorthUptoRow : OpenClaim := { program := "ytglpnpjjjihghaa", sum := "ebf510d360b3d2293563d149c47383100242d1e8bb888bd5f28303614e47a004", func := "compline/complinelaw27.CompWorth", spec := "compWorth", inPlace := ["math/bits.Add64"], unfollowed := true, recurses := true, apart := false, narrowed := true }
def CompWorthUptoSaid : Prop := compWorthUptoRow.holds Try.pinned (OpenSpec.upto compWorthSpec)

/-- 'complinelaw23.FallOrders', WHERE WHAT IT READS IS OF BULK AT MOST 1048576: true; the input reads as it did. -/
def fallOrdersUptoRow : OpenClaim := { program := "ytglpnpjjjihghaa", sum := "ebf510d360b3d2293563d149c47383100242d1e8bb888bd5f28303614e47a004", func := "compline/complinelaw23.FallOrders", spec := "fallOrders", inPlace := ["math/bits.Add64"], unfollowed := true, recurses := true, named := ["math/bits.divideError", "math/bits.overflowError"], apart := false, narrowed := true }
def FallOrdersUptoSaid : Prop := fallOrdersUptoRow.holds Try.pinned (OpenSpec.upto fallOrdersSpec)

/-- 'complinelaw23.FallPlans', WHERE WHAT IT READS IS OF BULK AT MOST 1048576: true; the input reads as it did. -/
def fallPlansUptoRow : OpenClaim := { program := "ytglpnpjjjihghaa", sum := "ebf510d360b3d2293563d149c47383100242d1e8bb888bd5f28303614e47a004", func := "compline/complinelaw23.FallPlans", spec := "fallPlans", inPlace := ["math/bits.Add64"], unfollowed := true, recurses := true, named := ["math/bits.divideError", "math/bits.overflowError"], apart := false, narrowed := true }
def FallPlansUptoSaid : Prop := fallPlansUptoRow.holds Try.pinned (OpenSpec.upto fallPlansSpec)

/-- 'complinelaw23.FallLess', WHERE WHAT IT READS IS OF BULK AT MOST 1048576: true; the input reads as it did. -/
def fallLessUptoRow : OpenClaim := { program := "ytglpnpjjjihghaa", sum := "ebf510d360b3d2293563d149c47383100242d1e8bb888bd5f28303614e47a004", func := "compline/complinelaw23.FallLess", spec := "fallLess", inPlace := ["math/bits.Add64"], unfollowed := true, recurses := true, named := ["math/bits.divideError", "math/bits.overflowError"], apart := false, narrowed := true }
def FallLessUptoSaid : Prop := fallLessUptoRow.holds Try.pinned (OpenSpec.upto fallLessSpec)

/-- 'complinelaw23.FallBounds', WHERE WHAT IT READS IS OF BULK AT MOST 1048576: true; the input reads as it did. -/
def fallBoundsUptoRow : OpenClaim := { program := "ytglpnpjjjihghaa", sum := "ebf510d360b3d2293563d149c47383100242d1e8bb888bd5f28303614e47a004", func := "compline/complinelaw23.FallBounds", spec := "fallBounds", inPlace := ["math/bits.Add64"], unfollowed := true, recurses := true, named := ["math/bits.divideError", "math/bits.overflowError"], apart := false, narrowed := true }
def FallBoundsUptoSaid : Prop := fallBoundsUptoRow.holds Try.pinned (OpenSpec.upto fallBoundsSpec)

/-- 'complinelaw27.CompJoins', WHERE WHAT IT READS IS OF BULK AT MOST 1048576: true; the input reads as it did. -/
def compJoinsUptoRow : OpenClaim := { program := "ytglpnpjjjihghaa", sum := "ebf510d360b3d2293563d149c47383100242d1e8bb888bd5f28303614e47a004", func := "compline/complinelaw27.CompJoins", spec := "compJoins", inPlace := ["math/bits.Add64"], unfollowed := true, recurses := true, apart := false, narrowed := true }
def CompJoinsUptoSaid : Prop := compJoinsUptoRow.holds Try.pinned (OpenSpec.upto compJoinsSpec)

/-- 'complinelaw27.CompPays', WHERE WHAT IT READS IS OF BULK AT MOST 1048576: true; the input reads as it did. -/
def compPaysUptoRow : OpenClaim := { program := "ytglpnpjjjihghaa", sum := "ebf510d360b3d2293563d149c47383100242d1e8bb888bd5f28303614e47a004", func := "compline/complinelaw27.CompPays", spec := "compPays", inPlace := ["math/bits.Add64"], unfollowed := true, recurses := true, named := ["math/bits.divideError", "math/bits.overflowError"], apart := false, narrowed := true }
def CompPaysUptoSaid : Prop := compPaysUptoRow.holds Try.pinned (OpenSpec.upto compPaysSpec)

end Rows
end Go.Proofs.Ytglpnpjjjihghaa
