/-
  No cell of these rows narrows 'for every input' (looked for: loops, veiled, ifaces, maps, wideKeys, modest, calm, conditions, laid).
  DERIVED. THE GIVEN ROWS OF THIS SEAT. 10 by the template 'for every input the law returns true; each argument reads behind the call as it read before'; 0 by the template 'total and deterministic' (their statements: YtblplkajgbbkdaaTotals.lean).
  GIVEN WITH THE SEED: the statements are not yours to turn. If you find one false, say at which input.
  Laid BY PROGRAM, IN A SANDBOX (cutbox-rows.mjs): the forced cells as the released guide's own fill.sh prints them over the translation 572859d4e16c0ba4… (all of the seat's roots in one cut). By AI agents, Wed Nov 11 2026. No macro, syntax, notation, axiom, sorry.
-/
import Derived.Test.YtblplkajgbbkdaaChecked
import GoSem.Claim
import GoSem.ClaimJoined
import GoSem.ClaimMapViews
import Derived.JoinedTies
import Derived.KernelRfl
namespace Go.Proofs.Ytblplkajgbbkdaa
/- THE CELL 'sum', in the pinned program and in every row, IS THE sha256 OF THE DUMP (.gsa) THAT YtblplkajgbbkdaaProg.lean LOADS. Nothing in Lean hashes anything: it is a label: what it is worth is what the hold of that sum in a sandbox is worth. -/
noncomputable def Try.pinned : Pinned := { name := "ytblplkajgbbkdaa", sum := "572859d4e16c0ba4d8129fba369946f1366326ed35f3d9271aa1f64961e35729", checked := Try.checked }
namespace Rows
def none {H : Type} : Left H := { results := [], args := [] }

/-- 'complinelaw03.ShareParts': WHATEVER THE INPUT: true; the input reads as it did. -/
def sharePartsSpec : ChangeSpec := { name := "shareParts", fn := fun _ => fun
  | [d1, d2] => { results := [.lit (.bool true)], args := [d1, d2] }
  | _ => none }
def sharePartsRow : OpenClaim := { program := "ytblplkajgbbkdaa", sum := "572859d4e16c0ba4d8129fba369946f1366326ed35f3d9271aa1f64961e35729", func := "compline/complinelaw03.ShareParts", spec := "shareParts", inPlace := ["math/bits.Add64"], unfollowed := true, recurses := true, named := ["math/bits.divideError", "math/bits.overflowError"], apart := false }
def SharePartsSaid : Prop := sharePartsRow.holds Try.pinned (OpenSpec.ofChange sharePartsSpec)

/-- ITS FALSE NEIGHBOUR: 'it returns false'. Refute it at one input. -/
def sharePartsWrong : ChangeSpec := { name := "shareParts", fn := fun _ => fun
  | [d1, d2] => { results := [.lit (.bool false)], args := [d1, d2] }
  | _ => none }
def SharePartsWrongFalsely : Prop := sharePartsRow.holds Try.pinned (OpenSpec.ofChange sharePartsWrong)

/-- 'complinelaw03.ShareAllots': WHATEVER THE INPUT: true; the input reads as it did. -/
def shareAllotsSpec : ChangeSpec := { name := "shareAllots", fn := fun _ => fun
  | [d1, d2] => { results := [.lit (.bool true)], args := [d1, d2] }
  | _ => none }
def shareAllotsRow : OpenClaim := { program := "ytblplkajgbbkdaa", sum := "572859d4e16c0ba4d8129fba369946f1366326ed35f3d9271aa1f64961e35729", func := "compline/complinelaw03.ShareAllots", spec := "shareAllots", inPlace := ["math/bits.Add64"], unfollowed := true, recurses := true, named := ["math/bits.divideError", "math/bits.overflowError"], apart := false }
def ShareAllotsSaid : Prop := shareAllotsRow.holds Try.pinned (OpenSpec.ofChange shareAllotsSpec)

/-- ITS FALSE NEIGHBOUR: 'it returns false'. Refute it at one input. -/
def shareAllotsWrong : ChangeSpec := { name := "shareAllots", fn := fun _ => fun
  | [d1, d2] => { results := [.lit (.bool false)], args := [d1, d2] }
  | _ => none }
def ShareAllotsWrongFalsely : Prop := shareAllotsRow.holds Try.pinned (OpenSpec.ofChange shareAllotsWrong)

/-- 'complinelaw03.ShareFair': WHATEVER THE INPUT: true; the input reads as it did. -/
def shareFairSpec : ChangeSpec := { name := "shareFair", fn := fun _ => fun
  | [d1, d2] => { results := [.lit (.bool true)], args := [d1, d2] }
  | _ => none }
def shareFairRow : OpenClaim := { program := "ytblplkajgbbkdaa", sum := "572859d4e16c0ba4d8129fba369946f1366326ed35f3d9271aa1f64961e35729", func := "compline/complinelaw03.ShareFair", spec := "shareFair", inPlace := ["math/bits.Add64"], unfollowed := true, recurses := true, named := ["math/bits.divideError", "math/bits.overflowError"], apart := false }
def ShareFairSaid : Prop := shareFairRow.holds Try.pinned (OpenSpec.ofChange shareFairSpec)

/-- ITS FALSE NEIGHBOUR: 'it returns false'. Refute it at one input. -/
def shareFairWrong : ChangeSpec := { name := "shareFair", fn := fun _ => fun
  | [d1, d2] => { results := [.lit (.bool false)], args := [d1, d2] }
  | _ => none }
def ShareFairWrongFalsely : Prop := shareFairRow.holds Try.pinned (OpenSpec.ofChange shareFairWrong)

/-- 'complinelaw03.ShareClaims': WHATEVER THE INPUT: true; the input reads as it did. -/
def shareClaimsSpec : ChangeSpec := { name := "shareClaims", fn := fun _ => fun
  | [d1, d2] => { results := [.lit (.bool true)], args := [d1, d2] }
  | _ => none }
def shareClaimsRow : OpenClaim := { program := "ytblplkajgbbkdaa", sum := "572859d4e16c0ba4d8129fba369946f1366326ed35f3d9271aa1f64961e35729", func := "compline/complinelaw03.ShareClaims", spec := "shareClaims", inPlace := ["math/bits.Add64"], unfollowed := true, recurses := true, named := ["math/bits.divideError", "math/bits.overflowError"], apart := false }
def ShareClaimsSaid : Prop := shareClaimsRow.holds Try.pinned (OpenSpec.ofChange shareClaimsSpec)

/-- ITS FALSE NEIGHBOUR: 'it returns false'. Refute it at one input. -/
def shareClaimsWrong : ChangeSpec := { name := "shareClaims", fn := fun _ => fun
  | [d1, d2] => { results := [.lit (.bool false)], args := [d1, d2] }
  | _ => none }
def ShareClaimsWrongFalsely : Prop := shareClaimsRow.holds Try.pinned (OpenSpec.ofChange shareClaimsWrong)

/-- 'complinelaw03.ShareQuotas': WHATEVER THE INPUT: true; the input reads as it did. -/
def shareQuotasSpec : ChangeSpec := { name := "shareQuotas", fn := fun _ => fun
  | [d1, d2, d3] => { results := [.lit (.bool true)], args := [d1, d2, d3] }
  | _ => none }
def shareQuotasRow : OpenClaim := { program := "ytblplkajgbbkdaa", sum := "572859d4e16c0ba4d8129fba369946f1366326ed35f3d9271aa1f64961e35729", func := "compline/complinelaw03.ShareQuotas", spec := "shareQuotas", inPlace := ["math/bits.Add64"], unfollowed := true, recurses := true, named := ["math/bits.divideError", "math/bits.overflowError"], apart := false }
def ShareQuotasSaid : Prop := shareQuotasRow.holds Try.pinned (OpenSpec.ofChange shareQuotasSpec)

/-- ITS FALSE NEIGHBOUR: 'it returns false'. Refute it at one input. -/
def shareQuotasWrong : ChangeSpec := { name := "shareQuotas", fn := fun _ => fun
  | [d1, d2, d3] => { results := [.lit (.bool false)], args := [d1, d2, d3] }
  | _ => none }
def ShareQuotasWrongFalsely : Prop := shareQuotasRow.holds Try.pinned (OpenSpec.ofChange shareQuotasWrong)

/-- 'complinelaw26.AllocSplits': WHATEVER THE INPUT: true; the input reads as it did. -/
def allocSplitsSpec : ChangeSpec := { name := "allocSplits", fn := fun _ => fun
  | [d1, d2] => { results := [.lit (.bool true)], args := [d1, d2] }
  | _ => none }
def allocSplitsRow : OpenClaim := { program := "ytblplkajgbbkdaa", sum := "572859d4e16c0ba4d8129fba369946f1366326ed35f3d9271aa1f64961e35729", func := "compline/complinelaw26.AllocSplits", spec := "allocSplits", inPlace := ["math/bits.Add64"], unfollowed := true, recurses := true, named := ["math/bits.divideError", "math/bits.overflowError"], apart := false }
def AllocSplitsSaid : Prop := allocSplitsRow.holds Try.pinned (OpenSpec.ofChange allocSplitsSpec)

/-- ITS FALSE NEIGHBOUR: 'it returns false'. Refute it at one input. -/
def allocSplitsWrong : ChangeSpec := { name := "allocSplits", fn := fun _ => fun
  | [d1, d2] => { results := [.lit (.bool false)], args := [d1, d2] }
  | _ => none }
def AllocSplitsWrongFalsely : Prop := allocSplitsRow.holds Try.pinned (OpenSpec.ofChange allocSplitsWrong)

/-- 'complinelaw26.AllocWhole': WHATEVER THE INPUT: true; the input reads as it did. -/
def allocWholeSpec : ChangeSpec := { name := "allocWhole", fn := fun _ => fun
  | [d1, d2, d3] => { results := [.lit (.bool true)], args := [d1, d2, d3] }
  | _ => none }
def allocWholeRow : OpenClaim := { program := "ytblplkajgbbkdaa", sum := "572859d4e16c0ba4d8129fba369946f1366326ed35f3d9271aa1f64961e35729", func := "compline/complinelaw26.AllocWhole", spec := "allocWhole", inPlace := ["math/bits.Add64"], unfollowed := true, recurses := true, named := ["math/bits.divideError", "math/bits.overflowError"], apart := false }
def AllocWholeSaid : Prop := allocWholeRow.holds Try.pinned (OpenSpec.ofChange allocWholeSpec)

/-- ITS FALSE NEIGHBOUR: 'it returns false'. Refute it at one input. -/
def allocWholeWrong : ChangeSpec := { name := "allocWhole", fn := fun _ => fun
  | [d1, d2, d3] => { results := [.lit (.bool false)], args := [d1, d2, d3] }
  | _ => none }
def AllocWholeWrongFalsely : Prop := allocWholeRow.holds Try.pinned (OpenSpec.ofChange allocWholeWrong)

/-- 'complinelaw28.OutFails': WHATEVER THE INPUT: true; the input reads as it did. -/
def outFailsSpec : ChangeSpec := { name := "outFails", fn := fun _ => fun
  | [d1, d2, d3] => { results := [.lit (.bool true)], args := [d1, d2, d3] }
  | _ => none }
def outFailsRow : OpenClaim := { program := "ytblplkajgbbkdaa", sum := "572859d4e16c0ba4d8129fba369946f1366326ed35f3d9271aa1f64961e35729", func := "compline/complinelaw28.OutFails", spec := "outFails", unfollowed := true, recurses := true, apart := false }
def OutFailsSaid : Prop := outFailsRow.holds Try.pinned (OpenSpec.ofChange outFailsSpec)

/-- ITS FALSE NEIGHBOUR: 'it returns false'. Refute it at one input. -/
def outFailsWrong : ChangeSpec := { name := "outFails", fn := fun _ => fun
  | [d1, d2, d3] => { results := [.lit (.bool false)], args := [d1, d2, d3] }
  | _ => none }
def OutFailsWrongFalsely : Prop := outFailsRow.holds Try.pinned (OpenSpec.ofChange outFailsWrong)

/-- 'complinelaw28.OutClaims': WHATEVER THE INPUT: true; the input reads as it did. -/
def outClaimsSpec : ChangeSpec := { name := "outClaims", fn := fun _ => fun
  | [d1, d2, d3] => { results := [.lit (.bool true)], args := [d1, d2, d3] }
  | _ => none }
def outClaimsRow : OpenClaim := { program := "ytblplkajgbbkdaa", sum := "572859d4e16c0ba4d8129fba369946f1366326ed35f3d9271aa1f64961e35729", func := "compline/complinelaw28.OutClaims", spec := "outClaims", inPlace := ["math/bits.Add64"], unfollowed := true, recurses := true, apart := false }
def OutClaimsSaid : Prop := outClaimsRow.holds Try.pinned (OpenSpec.ofChange outClaimsSpec)

/-- ITS FALSE NEIGHBOUR: 'it returns false'. Refute it at one input. -/
def outClaimsWrong : ChangeSpec := { name := "outClaims", fn := fun _ => fun
  | [d1, d2, d3] => { results := [.lit (.bool false)], args := [d1, d2, d3] }
  | _ => none }
def OutClaimsWrongFalsely : Prop := outClaimsRow.holds Try.pinned (OpenSpec.ofChange outClaimsWrong)

/-- 'complinelaw26.AllocParts': WHATEVER THE INPUT: true; the input reads as it did. -/
def allocPartsSpec : ChangeSpec := { name := "allocParts", fn := fun _ => fun
  | [d1, d2] => { results := [.lit (.bool true)], args := [d1, d2] }
  | _ => none }
def allocPartsRow : OpenClaim := { program := "ytblplkajgbbkdaa", sum := "572859d4e16c0ba4d8129fba369946f1366326ed35f3d9271aa1f64961e35729", func := "compline/complinelaw26.AllocParts", spec := "allocParts", inPlace := ["math/bits.Add64"], unfollowed := true, recurses := true, named := ["math/bits.divideError", "math/bits.overflowError"], apart := false }
def AllocPartsSaid : Prop := allocPartsRow.holds Try.pinned (OpenSpec.ofChange allocPartsSpec)

/-- ITS FALSE NEIGHBOUR: 'it returns false'. Refute it at one input. -/
def allocPartsWrong : ChangeSpec := { name := "allocParts", fn := fun _ => fun
  | [d1, d2] => { results := [.lit (.bool false)], args := [d1, d2] }
  | _ => none }
def AllocPartsWrongFalsely : Prop := allocPartsRow.holds Try.pinned (OpenSpec.ofChange allocPartsWrong)

/- THE SECOND FORM. 'bulk': how many values and letters a reading holds, each counted each time it is reached (what is shared counts as often as it is met; a slice's spare places count too). A statement '..UptoSaid' is the law's where the arguments, and the package variables that the reading takes, are together of bulk at most 1048576: NARROWER than '..Said'. Prove '..Said' where nothing that the law and all that it calls make is longer than what came in: it says more and counts as full. Else prove '..UptoSaid'. A law counts once. -/
mutual
def uptoBulk {H : Type} : DataW H → Nat
  | .lit (.string bytes) => bytes.length + 1
  | .lit _ => 1
  | .nil => 1
  | .ptr d => uptoBulk d + 1
  | .slice elems spare => uptoBulkAll elems + uptoBulkAll spare + 1
  | .agg parts => uptoBulkAll parts + 1
  | .iface _ d => uptoBulk d + 1
  | .map entries => uptoBulkEntries entries + 1
  | .held _ => 1
def uptoBulkAll {H : Type} : List (DataW H) → Nat
  | [] => 0
  | d :: r => uptoBulk d + uptoBulkAll r
def uptoBulkEntries {H : Type} : List (Lit × DataW H) → Nat
  | [] => 0
  | x :: r => uptoBulkEntry x + uptoBulkEntries r
def uptoBulkEntry {H : Type} : Lit × DataW H → Nat
  | (.string bytes, d) => bytes.length + uptoBulk d + 1
  | (_, d) => uptoBulk d + 1
 end
def uptoSmall : (H : Type) → List (DataW H) → Bool := fun _ ds => decide (uptoBulkAll ds ≤ 1048576)
def OpenSpec.upto (s : _root_.Go.ChangeSpec) : _root_.Go.OpenSpec := { _root_.Go.OpenSpec.ofChange s with cond := some uptoSmall }

/-- 'complinelaw03.ShareParts', WHERE WHAT IT READS IS OF BULK AT MOST 1048576: true; the input reads as it did. -/
def sharePartsUptoRow : OpenClaim := { program := "ytblplkajgbbkdaa", sum := "572859d4e16c0ba4d8129fba369946f1366326ed35f3d9271aa1f64961e35729", func := "compline/complinelaw03.ShareParts", spec := "shareParts", inPlace := ["math/bits.Add64"], unfollowed := true, recurses := true, named := ["math/bits.divideError", "math/bits.overflowError"], apart := false, narrowed := true }
def SharePartsUptoSaid : Prop := sharePartsUptoRow.holds Try.pinned (OpenSpec.upto sharePartsSpec)

/-- 'complinelaw03.ShareAllots', WHERE WHAT IT READS IS OF BULK AT MOST 1048576: true; the input reads as it did. -/
def shareAllotsUptoRow : OpenClaim := { program := "ytblplkajgbbkdaa", sum := "572859d4e16c0ba4d8129fba369946f1366326ed35f3d9271aa1f64961e35729", func := "compline/complinelaw03.ShareAllots", spec := "shareAllots", inPlace := ["math/bits.Add64"], unfollowed := true, recurses := true, named := ["math/bits.divideError", "math/bits.overflowError"], apart := false, narrowed := true }
def ShareAllotsUptoSaid : Prop := shareAllotsUptoRow.holds Try.pinned (OpenSpec.upto shareAllotsSpec)

/-- 'complinelaw03.ShareFair', WHERE WHAT IT READS IS OF BULK AT MOST 1048576: true; the input reads as it did. -/
def shareFairUptoRow : OpenClaim := { program := "ytblplkajgbbkdaa", sum := "572859d4e16c0ba4d8129fba369946f1366326ed35f3d9271aa1f64961e35729", func := "compline/complinelaw03.ShareFair", spec := "shareFair", inPlace := ["math/bits.Add64"], unfollowed := true, recurses := true, named := ["math/bits.divideError", "math/bits.overflowError"], apart := false, narrowed := true }
def ShareFairUptoSaid : Prop := shareFairUptoRow.holds Try.pinned (OpenSpec.upto shareFairSpec)

/-- 'complinelaw03.ShareClaims', WHERE WHAT IT READS IS OF BULK AT MOST 1048576: true; the input reads as it did. -/
def shareClaimsUptoRow : OpenClaim := { program := "ytblplkajgbbkdaa", sum := "572859d4e16c0ba4d8129fba369946f1366326ed35f3d9271aa1f64961e35729", func := "compline/complinelaw03.ShareClaims", spec := "shareClaims", inPlace := ["math/bits.Add64"], unfollowed := true, recurses := true, named := ["math/bits.divideError", "math/bits.overflowError"], apart := false, narrowed := true }
def ShareClaimsUptoSaid : Prop := shareClaimsUptoRow.holds Try.pinned (OpenSpec.upto shareClaimsSpec)

/-- 'complinelaw03.ShareQuotas', WHERE WHAT IT READS IS OF BULK AT MOST 1048576: true; the input reads as it did. -/
def shareQuotasUptoRow : OpenClaim := { program := "ytblplkajgbbkdaa", sum := "572859d4e16c0ba4d8129fba369946f1366326ed35f3d9271aa1f64961e35729", func := "compline/complinelaw03.ShareQuotas", spec := "shareQuotas", inPlace := ["math/bits.Add64"], unfollowed := true, recurses := true, named := ["math/bits.divideError", "math/bits.overflowError"], apart := false, narrowed := true }
def ShareQuotasUptoSaid : Prop := shareQuotasUptoRow.holds Try.pinned (OpenSpec.upto shareQuotasSpec)

/-- 'complinelaw26.AllocSplits', WHERE WHAT IT READS IS OF BULK AT MOST 1048576: true; the input reads as it did. -/
def allocSplitsUptoRow : OpenClaim := { program := "ytblplkajgbbkdaa", sum := "572859d4e16c0ba4d8129fba369946f1366326ed35f3d9271aa1f64961e35729", func := "compline/complinelaw26.AllocSplits", spec := "allocSplits", inPlace := ["math/bits.Add64"], unfollowed := true, recurses := true, named := ["math/bits.divideError", "math/bits.overflowError"], apart := false, narrowed := true }
def AllocSplitsUptoSaid : Prop := allocSplitsUptoRow.holds Try.pinned (OpenSpec.upto allocSplitsSpec)

/-- 'complinelaw26.AllocWhole', WHERE WHAT IT READS IS OF BULK AT MOST 1048576: true; the input reads as it did. -/
def allocWholeUptoRow : OpenClaim := { program := "ytblplkajgbbkdaa", sum := "572859d4e16c0ba4d8129fba369946f1366326ed35f3d9271aa1f64961e35729", func := "compline/complinelaw26.AllocWhole", spec := "allocWhole", inPlace := ["math/bits.Add64"], unfollowed := true, recurses := true, named := ["math/bits.divideError", "math/bits.overflowError"], apart := false, narrowed := true }
def AllocWholeUptoSaid : Prop := allocWholeUptoRow.holds Try.pinned (OpenSpec.upto allocWholeSpec)

/-- 'complinelaw28.OutFails', WHERE WHAT IT READS IS OF BULK AT MOST 1048576: true; the input reads as it did. -/
def outFailsUptoRow : OpenClaim := { program := "ytblplkajgbbkdaa", sum := "572859d4e16c0ba4d8129fba369946f1366326ed35f3d9271aa1f64961e35729", func := "compline/complinelaw28.OutFails", spec := "outFails", unfollowed := true, recurses := true, apart := false, narrowed := true }
def OutFailsUptoSaid : Prop := outFailsUptoRow.holds Try.pinned (OpenSpec.upto outFailsSpec)

/-- 'complinelaw28.OutClaims', WHERE WHAT IT READS IS OF BULK AT MOST 1048576: true; the input reads as it did. -/
def outClaimsUptoRow : OpenClaim := { program := "ytblplkajgbbkdaa", sum := "572859d4e16c0ba4d8129fba369946f1366326ed35f3d9271aa1f64961e35729", func := "compline/complinelaw28.OutClaims", spec := "outClaims", inPlace := ["math/bits.Add64"], unfollowed := true, recurses := true, apart := false, narrowed := true }
def OutClaimsUptoSaid : Prop := outClaimsUptoRow.holds Try.pinned (OpenSpec.upto outClaimsSpec)

/-- 'complinelaw26.AllocParts', WHERE WHAT IT READS IS OF BULK AT MOST 1048576: true; the input reads as it did. -/
def allocPartsUptoRow : OpenClaim := { program := "ytblplkajgbbkdaa", sum := "572859d4e16c0ba4d8129fba369946f1366326ed35f3d9271aa1f64961e35729", func := "compline/complinelaw26.AllocParts", spec := "allocParts", inPlace := ["math/bits.Add64"], unfollowed := true, recurses := true, named := ["math/bits.divideError", "math/bits.overflowError"], apart := false, narrowed := true }
def AllocPartsUptoSaid : Prop := allocPartsUptoRow.holds Try.pinned (OpenSpec.upto allocPartsSpec)

end Rows
end Go.Proofs.Ytblplkajgbbkdaa
