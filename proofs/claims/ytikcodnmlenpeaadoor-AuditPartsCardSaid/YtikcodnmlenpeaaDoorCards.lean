/-
  DERIVED. GIVEN WITH THE SEED: THE CARDS: each row of YtikcodnmlenpeaaDoorRows.lean that lists a variable, with what it lists TIED to the program's text (the seventh form; the later family's looks); each row that meets fmt, with fmt's text TOLD by the authors' own Lean function (tested against real Go, not proved from fmt's source: count such statements apart). THE CARD IS WHAT COUNTS. Prove the row's statement (the work); the ties are given (YtikcodnmlenpeaaDoorTie.lean); close each card by the builder's one call (the guide's Derived/Test/ToyasCard.lean, 'card_holds'). Laid BY PROGRAM, IN A SANDBOX (cutbox-door.mjs). By AI agents, Wed Nov 11 2026. No macro, syntax, notation, axiom, sorry.
-/
import Derived.Test.YtikcodnmlenpeaaDoorRows
import GoSem.ClaimSeven
namespace Go.Proofs.YtikcodnmlenpeaaDoor
namespace Rows

/-- THE TIED CARD OF 'complinelaw34.AuditForms'. -/
def auditFormsCard : Claim7 := { stood := { row := auditFormsRow, standIns := [], harness := (true, "019f52453e7d20f055558a963656766ab0f7db8462383f2ae7f9b4e93208f04e"), looks := false }, kinds := [], alts := [], laidByText := true, laidKinds := [.data], laidTests := true, laidLooks := .later }
def AuditFormsCardSaid : Prop := Claim7.holds Tryd.pinned (.plain (OpenSpec.ofChange auditFormsSpec)) auditFormsCard

/-- THE TIED CARD OF 'complinelaw34.AuditFinds'. -/
def auditFindsCard : Claim7 := { stood := { row := auditFindsRow, standIns := [], harness := (true, "019f52453e7d20f055558a963656766ab0f7db8462383f2ae7f9b4e93208f04e"), looks := false }, kinds := [], alts := [], laidByText := true, laidKinds := [.data], laidTests := true, laidLooks := .later }
def AuditFindsCardSaid : Prop := Claim7.holds Tryd.pinned (.plain (OpenSpec.ofChange auditFindsSpec)) auditFindsCard

/-- THE TIED CARD OF 'complinelaw34.AuditParts'. -/
def auditPartsCard : Claim7 := { stood := { row := auditPartsRow, standIns := [], harness := (true, "019f52453e7d20f055558a963656766ab0f7db8462383f2ae7f9b4e93208f04e"), looks := false }, kinds := [], alts := [], laidByText := true, laidKinds := [.data], laidTests := true, laidLooks := .later }
def AuditPartsCardSaid : Prop := Claim7.holds Tryd.pinned (.plain (OpenSpec.ofChange auditPartsSpec)) auditPartsCard

/-- THE TIED CARD OF 'complinelaw34.AuditSums'. -/
def auditSumsCard : Claim7 := { stood := { row := auditSumsRow, standIns := [], harness := (true, "019f52453e7d20f055558a963656766ab0f7db8462383f2ae7f9b4e93208f04e"), looks := false }, kinds := [], alts := [], laidByText := true, laidKinds := [.data], laidTests := true, laidLooks := .later }
def AuditSumsCardSaid : Prop := Claim7.holds Tryd.pinned (.plain (OpenSpec.ofChange auditSumsSpec)) auditSumsCard

/-- THE SECOND FORM's CARD OF 'complinelaw34.AuditForms'. -/
def auditFormsUptoCard : Claim7 := { stood := { row := auditFormsUptoRow, standIns := [], harness := (true, "019f52453e7d20f055558a963656766ab0f7db8462383f2ae7f9b4e93208f04e"), looks := false }, kinds := [], alts := [], laidByText := true, laidKinds := [.data], laidTests := true, laidLooks := .later }
def AuditFormsUptoCardSaid : Prop := Claim7.holds Tryd.pinned (.plain (OpenSpec.upto auditFormsSpec)) auditFormsUptoCard

/-- THE SECOND FORM's CARD OF 'complinelaw34.AuditFinds'. -/
def auditFindsUptoCard : Claim7 := { stood := { row := auditFindsUptoRow, standIns := [], harness := (true, "019f52453e7d20f055558a963656766ab0f7db8462383f2ae7f9b4e93208f04e"), looks := false }, kinds := [], alts := [], laidByText := true, laidKinds := [.data], laidTests := true, laidLooks := .later }
def AuditFindsUptoCardSaid : Prop := Claim7.holds Tryd.pinned (.plain (OpenSpec.upto auditFindsSpec)) auditFindsUptoCard

/-- THE SECOND FORM's CARD OF 'complinelaw34.AuditParts'. -/
def auditPartsUptoCard : Claim7 := { stood := { row := auditPartsUptoRow, standIns := [], harness := (true, "019f52453e7d20f055558a963656766ab0f7db8462383f2ae7f9b4e93208f04e"), looks := false }, kinds := [], alts := [], laidByText := true, laidKinds := [.data], laidTests := true, laidLooks := .later }
def AuditPartsUptoCardSaid : Prop := Claim7.holds Tryd.pinned (.plain (OpenSpec.upto auditPartsSpec)) auditPartsUptoCard

/-- THE SECOND FORM's CARD OF 'complinelaw34.AuditSums'. -/
def auditSumsUptoCard : Claim7 := { stood := { row := auditSumsUptoRow, standIns := [], harness := (true, "019f52453e7d20f055558a963656766ab0f7db8462383f2ae7f9b4e93208f04e"), looks := false }, kinds := [], alts := [], laidByText := true, laidKinds := [.data], laidTests := true, laidLooks := .later }
def AuditSumsUptoCardSaid : Prop := Claim7.holds Tryd.pinned (.plain (OpenSpec.upto auditSumsSpec)) auditSumsUptoCard
end Rows
end Go.Proofs.YtikcodnmlenpeaaDoor
