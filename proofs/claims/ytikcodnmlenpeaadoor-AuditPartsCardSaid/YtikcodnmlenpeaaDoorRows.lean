/-
  NARROWER THAN 'FOR EVERY INPUT', by the rows' own cells (each row's printed sentence says how): AuditForms: laid · AuditFinds: laid · AuditParts: laid · AuditSums: laid.
  DERIVED. THE GIVEN ROWS OF THIS SEAT. 4 by the template 'for every input the law returns true; each argument reads behind the call as it read before'; 0 by the template 'total and deterministic' (their statements: YtikcodnmlenpeaaDoorTotals.lean).
  GIVEN WITH THE SEED: the statements are not yours to turn. If you find one false, say at which input.
  Laid BY PROGRAM, IN A SANDBOX (cutbox-rows.mjs): the forced cells as the released guide's own fill.sh prints them over the translation bac8ffc0667179ce… (all of the seat's roots in one cut). By AI agents, Wed Nov 11 2026. No macro, syntax, notation, axiom, sorry.
-/
import Derived.Test.YtikcodnmlenpeaaDoorChecked
import GoSem.Claim
import GoSem.ClaimJoined
import GoSem.ClaimMapViews
import Derived.JoinedTies
import Derived.KernelRfl
namespace Go.Proofs.YtikcodnmlenpeaaDoor
/- THE CELL 'sum', in the pinned program and in every row, IS THE sha256 OF THE DUMP (.gsa) THAT YtikcodnmlenpeaaDoorProg.lean LOADS. Nothing in Lean hashes anything: it is a label: what it is worth is what the hold of that sum in a sandbox is worth. -/
noncomputable def Tryd.pinned : Pinned := { name := "ytikcodnmlenpeaadoor", sum := "bac8ffc0667179ce3afa1d661be99887632b6451270deacd30bcd15539b9771d", checked := Tryd.checked }
namespace Rows
def none {H : Type} : Left H := { results := [], args := [] }

/- WHAT THE LISTED PACKAGE-LEVEL VARIABLES READ AS WHEN THE CALL BEGINS. Each datum BY PROGRAM (the guide's laid-datum.mjs) off the statement by which the dump's own 'gosem.cut.vars' lays the variable. In a bare row this is a premise. The card (YtikcodnmlenpeaaDoorCards.lean) ties it to the program's text. -/
def laid_compline_calendar_words {H : Type} : DataW H := .agg [.lit (.string [115, 104, 117, 116]), .lit (.string [116, 114, 97, 100, 101]), .lit (.string [102, 117, 110, 100]), .lit (.string [98, 117, 121, 105, 110]), .lit (.string [112, 97, 121, 111, 117, 116]), .lit (.string [99, 108, 111, 115, 101, 100])]

/-- 'complinelaw34.AuditForms': WHATEVER THE INPUT: true; the input reads as it did. -/
def auditFormsSpec : ChangeSpec := { name := "auditForms", fn := fun _ => fun
  | [d1, d2, d3] => { results := [.lit (.bool true)], args := [d1, d2, d3] }
  | _ => none }
def auditFormsRow : OpenClaim := { program := "ytikcodnmlenpeaadoor", sum := "bac8ffc0667179ce3afa1d661be99887632b6451270deacd30bcd15539b9771d", func := "compline/complinelaw34.AuditForms", spec := "auditForms", unfollowed := true, recurses := true, named := ["compline/calendar.words"], plainKeys := false, apart := false, laid := [("compline/calendar.words", laid_compline_calendar_words)] }
def AuditFormsSaid : Prop := auditFormsRow.holds Tryd.pinned (OpenSpec.ofChange auditFormsSpec)

/-- ITS FALSE NEIGHBOUR: 'it returns false'. Refute it at one input. -/
def auditFormsWrong : ChangeSpec := { name := "auditForms", fn := fun _ => fun
  | [d1, d2, d3] => { results := [.lit (.bool false)], args := [d1, d2, d3] }
  | _ => none }
def AuditFormsWrongFalsely : Prop := auditFormsRow.holds Tryd.pinned (OpenSpec.ofChange auditFormsWrong)

/-- 'complinelaw34.AuditFinds': WHATEVER THE INPUT: true; the input reads as it did. -/
def auditFindsSpec : ChangeSpec := { name := "auditFinds", fn := fun _ => fun
  | [d1, d2, d3] => { results := [.lit (.bool true)], args := [d1, d2, d3] }
  | _ => none }
def auditFindsRow : OpenClaim := { program := "ytikcodnmlenpeaadoor", sum := "bac8ffc0667179ce3afa1d661be99887632b6451270deacd30bcd15539b9771d", func := "compline/complinelaw34.AuditFinds", spec := "auditFinds", unfollowed := true, recurses := true, named := ["compline/calendar.words"], plainKeys := false, apart := false, laid := [("compline/calendar.words", laid_compline_calendar_words)] }
def AuditFindsSaid : Prop := auditFindsRow.holds Tryd.pinned (OpenSpec.ofChange auditFindsSpec)

/-- ITS FALSE NEIGHBOUR: 'it returns false'. Refute it at one input. -/
def auditFindsWrong : ChangeSpec := { name := "auditFinds", fn := fun _ => fun
  | [d1, d2, d3] => { results := [.lit (.bool false)], args := [d1, d2, d3] }
  | _ => none }
def AuditFindsWrongFalsely : Prop := auditFindsRow.holds Tryd.pinned (OpenSpec.ofChange auditFindsWrong)

/-- 'complinelaw34.AuditParts': WHATEVER THE INPUT: true; the input reads as it did. -/
def auditPartsSpec : ChangeSpec := { name := "auditParts", fn := fun _ => fun
  | [d1, d2, d3] => { results := [.lit (.bool true)], args := [d1, d2, d3] }
  | _ => none }
def auditPartsRow : OpenClaim := { program := "ytikcodnmlenpeaadoor", sum := "bac8ffc0667179ce3afa1d661be99887632b6451270deacd30bcd15539b9771d", func := "compline/complinelaw34.AuditParts", spec := "auditParts", unfollowed := true, recurses := true, named := ["compline/calendar.words"], plainKeys := false, apart := false, laid := [("compline/calendar.words", laid_compline_calendar_words)] }
def AuditPartsSaid : Prop := auditPartsRow.holds Tryd.pinned (OpenSpec.ofChange auditPartsSpec)

/-- ITS FALSE NEIGHBOUR: 'it returns false'. Refute it at one input. -/
def auditPartsWrong : ChangeSpec := { name := "auditParts", fn := fun _ => fun
  | [d1, d2, d3] => { results := [.lit (.bool false)], args := [d1, d2, d3] }
  | _ => none }
def AuditPartsWrongFalsely : Prop := auditPartsRow.holds Tryd.pinned (OpenSpec.ofChange auditPartsWrong)

/-- 'complinelaw34.AuditSums': WHATEVER THE INPUT: true; the input reads as it did. -/
def auditSumsSpec : ChangeSpec := { name := "auditSums", fn := fun _ => fun
  | [d1, d2, d3] => { results := [.lit (.bool true)], args := [d1, d2, d3] }
  | _ => none }
def auditSumsRow : OpenClaim := { program := "ytikcodnmlenpeaadoor", sum := "bac8ffc0667179ce3afa1d661be99887632b6451270deacd30bcd15539b9771d", func := "compline/complinelaw34.AuditSums", spec := "auditSums", inPlace := ["math/bits.Add64"], unfollowed := true, recurses := true, named := ["compline/calendar.words"], plainKeys := false, apart := false, laid := [("compline/calendar.words", laid_compline_calendar_words)] }
def AuditSumsSaid : Prop := auditSumsRow.holds Tryd.pinned (OpenSpec.ofChange auditSumsSpec)

/-- ITS FALSE NEIGHBOUR: 'it returns false'. Refute it at one input. -/
def auditSumsWrong : ChangeSpec := { name := "auditSums", fn := fun _ => fun
  | [d1, d2, d3] => { results := [.lit (.bool false)], args := [d1, d2, d3] }
  | _ => none }
def AuditSumsWrongFalsely : Prop := auditSumsRow.holds Tryd.pinned (OpenSpec.ofChange auditSumsWrong)

/- THE SECOND FORM. 'bulk': how many values and letters a reading holds, each counted each time it is reached (what is shared counts as often as it is met; a slice's spare places count too). A statement '..UptoSaid' is the law's where the arguments, and the package variables that the reading takes, are together of bulk at most 1048576: NARROWER than '..Said'. Prove '..Said' where nothing that the law and all that it calls make is longer than what came in: it says more and counts as full. Else prove '..UptoSaid'. A law counts once. -/
mutual
def uptoBulk {H : Type} : DataW H → Nat
  | .lit (.string bytes) => bytes.length + 1
  | .lit _ => 1
  | .nil => 1
  | .ptr d => uptoBulk d + 1
  | .slice elems spare => uptoBulkAll elems + uptoBulkAll spare + 1
  | .agg parts => uptoBulkAll parts + 1
  | .iface _ d => uptoBulk d + 1
  | .map entries => uptoBulkEntries entries + 1
  | .held _ => 1
def uptoBulkAll {H : Type} : List (DataW H) → Nat
  | [] => 0
  | d :: r => uptoBulk d + uptoBulkAll r
def uptoBulkEntries {H : Type} : List (Lit × DataW H) → Nat
  | [] => 0
  | x :: r => uptoBulkEntry x + uptoBulkEntries r
def uptoBulkEntry {H : Type} : Lit × DataW H → Nat
  | (.string bytes, d) => bytes.length + uptoBulk d + 1
  | (_, d) => uptoBulk d + 1
 end
def uptoSmall : (H : Type) → List (DataW H) → Bool := fun _ ds => decide (uptoBulkAll ds ≤ 1048576)
def OpenSpec.upto (s : _root_.Go.ChangeSpec) : _root_.Go.OpenSpec := { _root_.Go.OpenSpec.ofChange s with cond := some uptoSmall }

/-- 'complinelaw34.AuditForms', WHERE WHAT IT READS IS OF BULK AT MOST 1048576: true; the input reads as it did. -/
def auditFormsUptoRow : OpenClaim := { program := "ytikcodnmlenpeaadoor", sum := "bac8ffc0667179ce3afa1d661be99887632b6451270deacd30bcd15539b9771d", func := "compline/complinelaw34.AuditForms", spec := "auditForms", unfollowed := true, recurses := true, named := ["compline/calendar.words"], plainKeys := false, apart := false, laid := [("compline/calendar.words", laid_compline_calendar_words)], narrowed := true }
def AuditFormsUptoSaid : Prop := auditFormsUptoRow.holds Tryd.pinned (OpenSpec.upto auditFormsSpec)

/-- 'complinelaw34.AuditFinds', WHERE WHAT IT READS IS OF BULK AT MOST 1048576: true; the input reads as it did. -/
def auditFindsUptoRow : OpenClaim := { program := "ytikcodnmlenpeaadoor", sum := "bac8ffc0667179ce3afa1d661be99887632b6451270deacd30bcd15539b9771d", func := "compline/complinelaw34.AuditFinds", spec := "auditFinds", unfollowed := true, recurses := true, named := ["compline/calendar.words"], plainKeys := false, apart := false, laid := [("compline/calendar.words", laid_compline_calendar_words)], narrowed := true }
def AuditFindsUptoSaid : Prop := auditFindsUptoRow.holds Tryd.pinned (OpenSpec.upto auditFindsSpec)

/-- 'complinelaw34.AuditParts', WHERE WHAT IT READS IS OF BULK AT MOST 1048576: true; the input reads as it did. -/
def auditPartsUptoRow : OpenClaim := { program := "ytikcodnmlenpeaadoor", sum := "bac8ffc0667179ce3afa1d661be99887632b6451270deacd30bcd15539b9771d", func := "compline/complinelaw34.AuditParts", spec := "auditParts", unfollowed := true, recurses := true, named := ["compline/calendar.words"], plainKeys := false, apart := false, laid := [("compline/calendar.words", laid_compline_calendar_words)], narrowed := true }
def AuditPartsUptoSaid : Prop := auditPartsUptoRow.holds Tryd.pinned (OpenSpec.upto auditPartsSpec)

/-- 'complinelaw34.AuditSums', WHERE WHAT IT READS IS OF BULK AT MOST 1048576: true; the input reads as it did. -/
def auditSumsUptoRow : OpenClaim := { program := "ytikcodnmlenpeaadoor", sum := "bac8ffc0667179ce3afa1d661be99887632b6451270deacd30bcd15539b9771d", func := "compline/complinelaw34.AuditSums", spec := "auditSums", inPlace := ["math/bits.Add64"], unfollowed := true, recurses := true, named := ["compline/calendar.words"], plainKeys := false, apart := false, laid := [("compline/calendar.words", laid_compline_calendar_words)], narrowed := true }
def AuditSumsUptoSaid : Prop := auditSumsUptoRow.holds Tryd.pinned (OpenSpec.upto auditSumsSpec)

end Rows
end Go.Proofs.YtikcodnmlenpeaaDoor
