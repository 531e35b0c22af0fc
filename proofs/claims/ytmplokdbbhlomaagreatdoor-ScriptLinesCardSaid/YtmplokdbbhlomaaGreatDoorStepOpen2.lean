/-
  How an argument that is one step is opened.
-/
import Derived.Test.YtmplokdbbhlomaaGreatDoorStepOpen
namespace Go.Proofs.YtmplokdbbhlomaaGreatDoor
open Go.ChangeShapes Go.WideShapes Go.ChangeAt Go.RowKit Go.Joins Go.Deep

section
variable {H : Type} {enc : TypeId × Value → H} {w : World}
set_option maxRecDepth 100000 in
theorem open_step {r : Reach} {b0 : Nat} {v : Value} {d : DataW H} {p : List MemPlace} (hv : Value.okWide Tryz.prog w r b0 TSt v) (h : DataW.Trod enc Tryz.prog w 0 (fun _ => true) true TSt v d p) : ∃ x : St, v = stV x ∧ StOk x := by
  have hC : Tryz.prog.cellsOf TSt = 9 := by kernel_rfl
  obtain ⟨⟨l⟩, rfl, hsz⟩ := okWide_struct Tryz.underlying25 hv
  obtain ⟨fuel, hf⟩ := h
  have hl : l.length = 9 := hsz.trans hC
  obtain ⟨x, e, hx⟩ := step_of (enc := enc) (w := w) hl ⟨_, _, hf⟩
  subst e
  exact ⟨x, rfl, hx⟩
end
end Go.Proofs.YtmplokdbbhlomaaGreatDoor
