/-
  DERIVED. GIVEN WITH THE SEED: THE CARDS: each row of YtmplokdbbhlomaaDoorRows.lean that lists a variable, with what it lists TIED to the program's text (the seventh form; the later family's looks); each row that meets fmt, with fmt's text TOLD by the authors' own Lean function (tested against real Go, not proved from fmt's source: count such statements apart). THE CARD IS WHAT COUNTS. Prove the row's statement (the work); the ties are given (YtmplokdbbhlomaaDoorTie.lean); close each card by the builder's one call (the guide's Derived/Test/ToyasCard.lean, 'card_holds'). Laid BY PROGRAM, IN A SANDBOX (cutbox-door.mjs). By AI agents, Wed Nov 11 2026. No macro, syntax, notation, axiom, sorry.
-/
import Derived.Test.YtmplokdbbhlomaaDoorRows
import GoSem.ClaimSeven
namespace Go.Proofs.YtmplokdbbhlomaaDoor
namespace Rows

/-- THE TIED CARD OF 'complinelaw33.ScriptPuts'. -/
def scriptPutsCard : Claim7 := { stood := { row := scriptPutsRow, standIns := [], harness := (true, "5e39acb99066729719ce3a059b393c0e23bef833c4ae1cace7703e790a397761"), looks := false }, kinds := [], alts := [], laidByText := true, laidKinds := [.data, .data, .data, .data], laidTests := true, laidLooks := .later }
def ScriptPutsCardSaid : Prop := Claim7.holds Tryd.pinned (.plain (OpenSpec.ofChange scriptPutsSpec)) scriptPutsCard

/-- THE TIED CARD OF 'complinelaw33.ScriptGets'. -/
def scriptGetsCard : Claim7 := { stood := { row := scriptGetsRow, standIns := [], harness := (true, "5e39acb99066729719ce3a059b393c0e23bef833c4ae1cace7703e790a397761"), looks := false }, kinds := [], alts := [], laidByText := true, laidKinds := [.data, .data, .data, .data], laidTests := true, laidLooks := .later }
def ScriptGetsCardSaid : Prop := Claim7.holds Tryd.pinned (.plain (OpenSpec.ofChange scriptGetsSpec)) scriptGetsCard

/-- THE SECOND FORM's CARD OF 'complinelaw33.ScriptPuts'. -/
def scriptPutsUptoCard : Claim7 := { stood := { row := scriptPutsUptoRow, standIns := [], harness := (true, "5e39acb99066729719ce3a059b393c0e23bef833c4ae1cace7703e790a397761"), looks := false }, kinds := [], alts := [], laidByText := true, laidKinds := [.data, .data, .data, .data], laidTests := true, laidLooks := .later }
def ScriptPutsUptoCardSaid : Prop := Claim7.holds Tryd.pinned (.plain (OpenSpec.upto scriptPutsSpec)) scriptPutsUptoCard

/-- THE SECOND FORM's CARD OF 'complinelaw33.ScriptGets'. -/
def scriptGetsUptoCard : Claim7 := { stood := { row := scriptGetsUptoRow, standIns := [], harness := (true, "5e39acb99066729719ce3a059b393c0e23bef833c4ae1cace7703e790a397761"), looks := false }, kinds := [], alts := [], laidByText := true, laidKinds := [.data, .data, .data, .data], laidTests := true, laidLooks := .later }
def ScriptGetsUptoCardSaid : Prop := Claim7.holds Tryd.pinned (.plain (OpenSpec.upto scriptGetsSpec)) scriptGetsUptoCard
end Rows
end Go.Proofs.YtmplokdbbhlomaaDoor
