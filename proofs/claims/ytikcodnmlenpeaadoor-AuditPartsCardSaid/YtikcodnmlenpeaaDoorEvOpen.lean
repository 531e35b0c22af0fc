/-
  How arguments that are bytes, or a list of events, are opened.
-/
import Derived.Test.YtikcodnmlenpeaaDoorOpenCA
import Derived.Test.YtikcodnmlenpeaaDoorLawFinds
import Derived.Test.YtikcodnmlenpeaaDoorLaid34
namespace Go.Proofs.YtikcodnmlenpeaaDoor
open Go.ChangeShapes Go.WideShapes Go.ChangeAt Go.RowKit Go.Joins Go.Deep

section
variable {H : Type} {enc : TypeId × Value → H} {w : World}
theorem open_evs {v : Value} (h : Reads enc Tryd.prog w 27 v) :
    ∃ (A : Option Addr) (c : Nat) (l : List Ev), v = .slice A l.length c ∧ l.length ≤ c ∧ c ≤ maxLen ∧ (∀ y ∈ l, I64 y.n) ∧ Seg w w.heap.size A (evRows l) := by
  obtain ⟨A, c, rows, rfl, hl, hc, hr, hs⟩ := open_cells Tryd.underlying27 Tryd.underlying23 (by kernel_rfl) (by kernel_rfl) (by decide) h
  obtain ⟨l, e1, e2, e3⟩ := rows_of Ev.cells (fun y => I64 y.n) rows fun x hx => by
    have hx := hr x hx
    match x, hx.len with
    | [a, b, d, e, f], _ =>
      obtain ⟨a, rfl, _⟩ := (hx.cell 0 _ _ rfl rfl).int (by kernel_rfl)
      obtain ⟨b, rfl, _⟩ := (hx.cell 1 _ _ rfl rfl).int (by kernel_rfl)
      obtain ⟨d, rfl, _⟩ := (hx.cell 2 _ _ rfl rfl).int (by kernel_rfl)
      obtain ⟨e, rfl, he⟩ := (hx.cell 3 _ _ rfl rfl).int (by kernel_rfl)
      obtain ⟨f, rfl, _⟩ := (hx.cell 4 _ _ rfl rfl).int (by kernel_rfl)
      exact ⟨⟨a, b, d, e, f⟩, rfl, he⟩
  rw [e2] at hs
  rw [← e1] at hl ⊢
  exact ⟨A, c, l, rfl, hl, hc, e3, hs⟩
end
theorem byte_nat {n : Int} (h : (Lit.int .u8 n).wf = true) : ∃ k : Nat, n = (k : Int) ∧ k < 256 := by
  have h1 : IntKind.u8.min = 0 := rfl
  have h2 : IntKind.u8.max = 255 := rfl
  simp only [Lit.wf, Bool.and_eq_true, decide_eq_true_eq, h1, h2] at h
  exact ⟨n.toNat, by omega, by omega⟩
end Go.Proofs.YtikcodnmlenpeaaDoor
