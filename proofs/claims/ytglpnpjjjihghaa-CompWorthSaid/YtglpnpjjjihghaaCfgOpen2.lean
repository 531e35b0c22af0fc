/-
  How an argument that is a house is opened, its prices numbers. (Out of XCfgOpen.)
-/
import Derived.Test.YtglpnpjjjihghaaCfgOpen
namespace Go.Proofs.Ytglpnpjjjihghaa
open Go.ChangeShapes Go.WideShapes Go.ChangeAt Go.RowKit Go.Joins Go.Deep

section
variable {H : Type} {enc : TypeId × Value → H} {w : World}
theorem open_secs2 {v : Value} (h : Reads enc Try.prog w 23 v) : ∃ (A : Option Addr) (c : Nat) (l : List Pr), v = .slice A l.length c ∧ l.length ≤ maxLen ∧ (∀ y ∈ l, I64 y.a ∧ I64 y.b) ∧ Seg w w.heap.size A (prRows l) := by
  obtain ⟨A, c, rows, rfl, hl, hc, hr, hs⟩ := open_cells Try.underlying23 Try.underlying84 (by kernel_rfl) (by kernel_rfl) (by decide) h
  obtain ⟨l, e1, e2, e3⟩ := rows_of Pr.cells (fun y => I64 y.a ∧ I64 y.b) rows fun x hx => by
    have hx := hr x hx
    match x, hx.len with
    | [x0, x1], _ =>
      obtain ⟨x0, rfl, h0⟩ := (hx.cell 0 _ _ rfl rfl).int (by kernel_rfl)
      obtain ⟨x1, rfl, h1⟩ := (hx.cell 1 _ _ rfl rfl).int (by kernel_rfl)
      exact ⟨⟨x0, x1⟩, rfl, h0, h1⟩
  rw [e2] at hs
  rw [← e1] at hl ⊢
  exact ⟨A, c, l, rfl, Nat.le_trans hl hc, e3, hs⟩
set_option maxRecDepth 100000 in
theorem open_config2 {r : Reach} {b0 : Nat} {v : Value} {d : DataW H} {p : List MemPlace} (hv : Value.okWide Try.prog w r b0 26 v)
    (h : DataW.Trod enc Try.prog w 0 (fun _ => true) true 26 v d p) : ∃ x : Cfg, v = x.val ∧ CfOk w x ∧ x.ms.length ≤ maxLen ∧ x.ss.length ≤ maxLen ∧ x.cy.length ≤ maxLen ∧ ∀ y ∈ x.ss, I64 y.a := by
  obtain ⟨l, rfl, hx⟩ := open_row Try.underlying26 (by kernel_rfl) (by kernel_rfl) hv h
  match l, hx.len with
  | [x0, x1, x2, x3, x4, x5, x6, x7], _ =>
    obtain ⟨Am, cm, ms, rfl, hm, sm⟩ := open_members (hx.cell 0 _ _ rfl rfl)
    obtain ⟨As, cs, ss, rfl, hs, hI, sss⟩ := open_secs2 (hx.cell 1 _ _ rfl rfl)
    obtain ⟨Ac, cc, cy, rfl, hc, sc⟩ := open_cycles (hx.cell 2 _ _ rfl rfl)
    obtain ⟨x3, rfl, _⟩ := (hx.cell 3 _ _ rfl rfl).int (by kernel_rfl)
    obtain ⟨x4, rfl, _⟩ := (hx.cell 4 _ _ rfl rfl).int (by kernel_rfl)
    obtain ⟨x5, rfl, _⟩ := (hx.cell 5 _ _ rfl rfl).int (by kernel_rfl)
    obtain ⟨x6, rfl, _⟩ := (hx.cell 6 _ _ rfl rfl).int (by kernel_rfl)
    obtain ⟨x7, rfl, _⟩ := (hx.cell 7 _ _ rfl rfl).int (by kernel_rfl)
    exact ⟨⟨ms, Am, cm, ss, As, cs, cy, Ac, cc, x3, x4, x5, x6, x7⟩, rfl, ⟨sm, sss, sc⟩, hm, hs, hc, fun y hy => (hI y hy).1⟩
end
end Go.Proofs.Ytglpnpjjjihghaa
