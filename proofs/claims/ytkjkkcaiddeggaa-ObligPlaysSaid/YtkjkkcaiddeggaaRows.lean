/-
  No cell of these rows narrows 'for every input' (looked for: loops, veiled, ifaces, maps, wideKeys, modest, calm, conditions, laid).
  DERIVED. THE GIVEN ROWS OF THIS SEAT. 3 by the template 'for every input the law returns true; each argument reads behind the call as it read before'; 0 by the template 'total and deterministic' (their statements: YtkjkkcaiddeggaaTotals.lean).
  GIVEN WITH THE SEED: the statements are not yours to turn. If you find one false, say at which input.
  Laid BY PROGRAM, IN A SANDBOX (cutbox-rows.mjs): the forced cells as the released guide's own fill.sh prints them over the translation 4c83c80ed5a8c304… (all of the seat's roots in one cut). By AI agents, Wed Nov 11 2026. No macro, syntax, notation, axiom, sorry.
-/
import Derived.Test.YtkjkkcaiddeggaaChecked
import GoSem.Claim
import GoSem.ClaimJoined
import GoSem.ClaimMapViews
import Derived.JoinedTies
import Derived.KernelRfl
namespace Go.Proofs.Ytkjkkcaiddeggaa
/- THE CELL 'sum', in the pinned program and in every row, IS THE sha256 OF THE DUMP (.gsa) THAT YtkjkkcaiddeggaaProg.lean LOADS. Nothing in Lean hashes anything: it is a label: what it is worth is what the hold of that sum in a sandbox is worth. -/
noncomputable def Try.pinned : Pinned := { name := "ytkjkkcaiddeggaa", sum := "4c83c80ed5a8c304490aed9dbcad4aa559749b0640485f583e2002b423c82f23", checked := Try.checked }
namespace Rows
def none {H : Type} : Left H := { results := [], args := [] }

/-- 'complinelaw19.ObligStays': WHATEVER THE INPUT: true; the input reads as it did. -/
def obligStaysSpec : ChangeSpec := { name := "obligStays", fn := fun _ => fun
  | [d] => { results := [.lit (.bool true)], args := [d] }
  | _ => none }
def obligStaysRow : OpenClaim := { program := "ytkjkkcaiddeggaa", sum := "4c83c80ed5a8c304490aed9dbcad4aa559749b0640485f583e2002b423c82f23", func := "compline/complinelaw19.ObligStays", spec := "obligStays", unfollowed := true, recurses := true, apart := false }
def ObligStaysSaid : Prop := obligStaysRow.holds Try.pinned (OpenSpec.ofChange obligStaysSpec)

/-- ITS FALSE NEIGHBOUR: 'it returns false'. Refute it at one input. -/
def obligStaysWrong : ChangeSpec := { name := "obligStays", fn := fun _ => fun
  | [d] => { results := [.lit (.bool false)], args := [d] }
  | _ => none }
def ObligStaysWrongFalsely : Prop := obligStaysRow.holds Try.pinned (OpenSpec.ofChange obligStaysWrong)

/-- 'complinelaw19.ObligPlays': WHATEVER THE INPUT: true; the input reads as it did. -/
def obligPlaysSpec : ChangeSpec := { name := "obligPlays", fn := fun _ => fun
  | [d] => { results := [.lit (.bool true)], args := [d] }
  | _ => none }
def obligPlaysRow : OpenClaim := { program := "ytkjkkcaiddeggaa", sum := "4c83c80ed5a8c304490aed9dbcad4aa559749b0640485f583e2002b423c82f23", func := "compline/complinelaw19.ObligPlays", spec := "obligPlays", unfollowed := true, recurses := true, apart := false }
def ObligPlaysSaid : Prop := obligPlaysRow.holds Try.pinned (OpenSpec.ofChange obligPlaysSpec)

/-- ITS FALSE NEIGHBOUR: 'it returns false'. Refute it at one input. -/
def obligPlaysWrong : ChangeSpec := { name := "obligPlays", fn := fun _ => fun
  | [d] => { results := [.lit (.bool false)], args := [d] }
  | _ => none }
def ObligPlaysWrongFalsely : Prop := obligPlaysRow.holds Try.pinned (OpenSpec.ofChange obligPlaysWrong)

/-- 'complinelaw19.ObligOwn': WHATEVER THE INPUT: true; the input reads as it did. -/
def obligOwnSpec : ChangeSpec := { name := "obligOwn", fn := fun _ => fun
  | [d1, d2] => { results := [.lit (.bool true)], args := [d1, d2] }
  | _ => none }
def obligOwnRow : OpenClaim := { program := "ytkjkkcaiddeggaa", sum := "4c83c80ed5a8c304490aed9dbcad4aa559749b0640485f583e2002b423c82f23", func := "compline/complinelaw19.ObligOwn", spec := "obligOwn", unfollowed := true, recurses := true, apart := false }
def ObligOwnSaid : Prop := obligOwnRow.holds Try.pinned (OpenSpec.ofChange obligOwnSpec)

/-- ITS FALSE NEIGHBOUR: 'it returns false'. Refute it at one input. -/
def obligOwnWrong : ChangeSpec := { name := "obligOwn", fn := fun _ => fun
  | [d1, d2] => { results := [.lit (.bool false)], args := [d1, d2] }
  | _ => none }
def ObligOwnWrongFalsely : Prop := obligOwnRow.holds Try.pinned (OpenSpec.ofChange obligOwnWrong)

/- THE SECOND FORM. 'bulk': how many values and letters a reading holds, each counted each time it is reached (what is shared counts as often as it is met; a slice's spare places count too). A statement '..UptoSaid' is the law's where the arguments, and the package variables that the reading takes, are together of bulk at most 1048576: NARROWER than '..Said'. Prove '..Said' where nothing that the law and all that it calls make is longer than what came in: it says more and counts as full. Else prove '..UptoSaid'. A law counts once. -/
mutual
def uptoBulk {H : Type} : DataW H → Nat
  | .lit (.string bytes) => bytes.length + 1
  | .lit _ => 1
  | .nil => 1
  | .ptr d => uptoBulk d + 1
  | .slice elems spare => uptoBulkAll elems + uptoBulkAll spare + 1
  | .agg parts => uptoBulkAll parts + 1
  | .iface _ d => uptoBulk d + 1
  | .map entries => uptoBulkEntries entries + 1
  | .held _ => 1
def uptoBulkAll {H : Type} : List (DataW H) → Nat
  | [] => 0
  | d :: r => uptoBulk d + uptoBulkAll r
def uptoBulkEntries {H : Type} : List (Lit × DataW H) → Nat
  | [] => 0
  | x :: r => uptoBulkEntry x + uptoBulkEntries r
def uptoBulkEntry {H : Type} : Lit × DataW H → Nat
  | (.string bytes, d) => bytes.length + uptoBulk d + 1
  | (_, d) => uptoBulk d + 1
 end
def uptoSmall : (H : Type) → List (DataW H) → Bool := fun _ ds => decide (uptoBulkAll ds ≤ 1048576)
def OpenSpec.upto (s : _root_.Go.ChangeSpec) : _root_.Go.OpenSpec := { _root_.Go.OpenSpec.ofChange s with cond := some uptoSmall }

/-- 'complinelaw19.ObligStays', WHERE WHAT IT READS IS OF BULK AT MOST 1048576: true; the input reads as it did. -/
def obligStaysUptoRow : OpenClaim := { program := "ytkjkkcaiddeggaa", sum := "4c83c80ed5a8c304490aed9dbcad4aa559749b0640485f583e2002b423c82f23", func := "compline/complinelaw19.ObligStays", spec := "obligStays", unfollowed := true, recurses := true, apart := false, narrowed := true }
def ObligStaysUptoSaid : Prop := obligStaysUptoRow.holds Try.pinned (OpenSpec.upto obligStaysSpec)

/-- 'complinelaw19.ObligPlays', WHERE WHAT IT READS IS OF BULK AT MOST 1048576: true; the input reads as it did. -/
def obligPlaysUptoRow : OpenClaim := { program := "ytkjkkcaiddeggaa", sum := "4c83c80ed5a8c304490aed9dbcad4aa559749b0640485f583e2002b423c82f23", func := "compline/complinelaw19.ObligPlays", spec := "obligPlays", unfollowed := true, recurses := true, apart := false, narrowed := true }
def ObligPlaysUptoSaid : Prop := obligPlaysUptoRow.holds Try.pinned (OpenSpec.upto obligPlaysSpec)

/-- 'complinelaw19.ObligOwn', WHERE WHAT IT READS IS OF BULK AT MOST 1048576: true; the input reads as it did. -/
def obligOwnUptoRow : OpenClaim := { program := "ytkjkkcaiddeggaa", sum := "4c83c80ed5a8c304490aed9dbcad4aa559749b0640485f583e2002b423c82f23", func := "compline/complinelaw19.ObligOwn", spec := "obligOwn", unfollowed := true, recurses := true, apart := false, narrowed := true }
def ObligOwnUptoSaid : Prop := obligOwnUptoRow.holds Try.pinned (OpenSpec.upto obligOwnSpec)

end Rows
end Go.Proofs.Ytkjkkcaiddeggaa
