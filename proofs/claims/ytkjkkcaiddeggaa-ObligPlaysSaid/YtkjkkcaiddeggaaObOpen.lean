/-
  How an argument that is a list of calls of a sheet is opened.
-/
import Derived.Test.YtkjkkcaiddeggaaOpenC
import Derived.Test.YtkjkkcaiddeggaaObAwake
namespace Go.Proofs.Ytkjkkcaiddeggaa
open Go.ChangeShapes Go.WideShapes Go.ChangeAt Go.RowKit Go.Joins Go.Deep

section
variable {H : Type} {enc : TypeId × Value → H} {w : World}
theorem open_legs {v : Value} (h : Reads enc Try.prog w 29 v) :
    ∃ (A : Option Addr) (c : Nat) (l : List Lg), v = .slice A l.length c ∧ l.length ≤ c ∧ c ≤ maxLen ∧ (∀ y ∈ l, I64 y.n) ∧ Seg w w.heap.size A (lgRows l) := by
  obtain ⟨A, c, rows, rfl, hl, hc, hr, hs⟩ := open_cells Try.underlying29 Try.underlying52 (by kernel_rfl) (by kernel_rfl) (by decide) h
  obtain ⟨l, e1, e2, e3⟩ := rows_of Lg.cells (fun y => I64 y.n) rows fun x hx => by
    have hx := hr x hx
    match x, hx.len with
    | [a, b, d], _ =>
      obtain ⟨a, rfl, _⟩ := (hx.cell 0 _ _ rfl rfl).int (by kernel_rfl)
      obtain ⟨b, rfl, _⟩ := (hx.cell 1 _ _ rfl rfl).int (by kernel_rfl)
      obtain ⟨d, rfl, hd⟩ := (hx.cell 2 _ _ rfl rfl).int (by kernel_rfl)
      exact ⟨⟨a, b, d⟩, rfl, hd⟩
  rw [e2] at hs
  rw [← e1] at hl ⊢
  exact ⟨A, c, l, rfl, hl, hc, e3, hs⟩

theorem open_acts {v : Value} (h : Reads enc Try.prog w 22 v) :
    ∃ (A : Option Addr) (c : Nat) (l : List ActD), v = .slice A l.length c ∧ l.length ≤ maxLen ∧ (∀ x ∈ l, ActOk w w.heap.size x) ∧ Seg w w.heap.size A (actRows l) := by
  obtain ⟨A, c, rows, rfl, hl, hc, hr, hs⟩ := open_cells Try.underlying22 Try.underlying31 (by kernel_rfl) (by kernel_rfl) (by decide) h
  obtain ⟨l, e1, e2, e3⟩ := rows_of ActD.cells (ActOk w w.heap.size) rows fun x hx => by
    have hx := hr x hx
    match x, hx.len with
    | [x0, x1, x2, x3, x4, x5], _ =>
      obtain ⟨x0, rfl, _⟩ := (hx.cell 0 _ _ rfl rfl).int (by kernel_rfl)
      obtain ⟨A1, c1, l1, rfl, hl1, hc1, hn1, hs1⟩ := open_legs (hx.cell 1 _ _ rfl rfl)
      obtain ⟨x2, rfl, _⟩ := (hx.cell 2 _ _ rfl rfl).int (by kernel_rfl)
      obtain ⟨x3, rfl, _⟩ := (hx.cell 3 _ _ rfl rfl).int (by kernel_rfl)
      obtain ⟨x4, rfl, _⟩ := (hx.cell 4 _ _ rfl rfl).int (by kernel_rfl)
      obtain ⟨x5, rfl, h5⟩ := (hx.cell 5 _ _ rfl rfl).int (by kernel_rfl)
      refine ⟨⟨x0, l1, A1, c1, x2, x3, x4, x5⟩, rfl, ⟨hs1, ?_, hl1, Nat.le_trans hl1 hc1, hn1, h5⟩⟩
      intro hne p hp
      match l1, hne with
      | y :: _, _ =>
        obtain ⟨b, o, e, hb, _⟩ := hs1 0 (.int .i64 y.m) rfl
        rw [show A1 = some p from hp] at e
        injection e with e
        rw [e]
        exact hb
  rw [e2] at hs
  rw [← e1] at hl ⊢
  exact ⟨A, c, l, rfl, Nat.le_trans hl hc, e3, hs⟩
end
end Go.Proofs.Ytkjkkcaiddeggaa
