/-
  How an argument that is a list of legs is opened, all its numbers numbers.
-/
import Derived.Test.YtglpnpjjjihghaaShrOpen
import Derived.Test.YtglpnpjjjihghaaObPlain
namespace Go.Proofs.Ytglpnpjjjihghaa
open Go.ChangeShapes Go.WideShapes Go.ChangeAt Go.RowKit Go.Joins Go.Deep

section
variable {H : Type} {enc : TypeId × Value → H} {w : World}
theorem open_legs3 {v : Value} (h : Reads enc Try.prog w 27 v) :
    ∃ (A : Option Addr) (c : Nat) (l : List Lg), v = .slice A l.length c ∧ l.length ≤ c ∧ c ≤ maxLen ∧ (∀ y ∈ l, I64 y.m ∧ I64 y.a ∧ I64 y.n) ∧ Seg w w.heap.size A (lgRows l) := by
  obtain ⟨A, c, rows, rfl, hl, hc, hr, hs⟩ := open_cells Try.underlying27 Try.underlying75 (by kernel_rfl) (by kernel_rfl) (by decide) h
  obtain ⟨l, e1, e2, e3⟩ := rows_of Lg.cells (fun y => I64 y.m ∧ I64 y.a ∧ I64 y.n) rows fun x hx => by
    have hx := hr x hx
    match x, hx.len with
    | [a, b, d], _ =>
      obtain ⟨a, rfl, ha⟩ := (hx.cell 0 _ _ rfl rfl).int (by kernel_rfl)
      obtain ⟨b, rfl, hb⟩ := (hx.cell 1 _ _ rfl rfl).int (by kernel_rfl)
      obtain ⟨d, rfl, hd⟩ := (hx.cell 2 _ _ rfl rfl).int (by kernel_rfl)
      exact ⟨⟨a, b, d⟩, rfl, ha, hb, hd⟩
  rw [e2] at hs
  rw [← e1] at hl ⊢
  exact ⟨A, c, l, rfl, hl, hc, e3, hs⟩
end
end Go.Proofs.Ytglpnpjjjihghaa
