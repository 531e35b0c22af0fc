/-
  How an argument that is a slice is opened: nil has no room.
-/
import Derived.Test.YtgkidjjijgegmaaOpenC
import Derived.OpenShut
namespace Go.Proofs.Ytgkidjjijgegmaa
open Go.ChangeShapes Go.WideShapes Go.ChangeAt Go.RowKit Go.Joins Go.Deep

section
variable {H : Type} {enc : TypeId × Value → H} {w : World}
/-- A slice without an address has no room. -/
theorem open_nil {P : Program} {t e : TypeId} {A : Option Addr} {n c : Nat} (ht : P.underlying t = some (.slice e)) (h : Reads enc P w t (.slice A n c)) : A = none → n = 0 ∧ c = 0 := by
  obtain ⟨fuel, x, hf⟩ := h
  rcases open_slice ht hf with ⟨hcs, _⟩ | ⟨a, len, cap, m, n', D, Pl, hcs, _⟩
  · simp at hcs
    exact fun _ => hcs.2
  · simp at hcs
    intro h
    rw [hcs.1] at h
    cases h
end
end Go.Proofs.Ytgkidjjijgegmaa
