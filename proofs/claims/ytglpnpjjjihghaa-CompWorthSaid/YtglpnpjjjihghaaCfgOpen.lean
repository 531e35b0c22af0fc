/-
  How an argument that is a house is opened.
-/
import Derived.Test.YtglpnpjjjihghaaOpenC
import Derived.Test.YtglpnpjjjihghaaCfg
namespace Go.Proofs.Ytglpnpjjjihghaa
open Go.ChangeShapes Go.WideShapes Go.ChangeAt Go.RowKit Go.Joins Go.Deep

section
variable {H : Type} {enc : TypeId × Value → H} {w : World}
/-- A struct of one-cell fields, by value. -/
theorem open_row {P : Program} {r : Reach} {b0 : Nat} {t : TypeId} {fs : Array Field} {v : Value} {d : DataW H} {p : List MemPlace} (hs : P.underlying t = some (.struct fs)) (hone : oneCellFields P fs = true) (hC : P.cellsOf t = fs.size)
    (hv : Value.okWide P w r b0 t v) (h : DataW.Trod enc P w 0 (fun _ => true) true t v d p) : ∃ l : List Value, v = .agg l.toArray ∧ RowOf enc P w fs l := by
  obtain ⟨⟨l⟩, rfl, hsz⟩ := okWide_struct hs hv
  obtain ⟨fuel, hf⟩ := h
  obtain ⟨ys, n, _, _, _, hyl, hfl⟩ := DataW.trod_struct hs hf
  have hl : l.length = fs.size := hsz.trans hC
  refine ⟨l, rfl, ⟨hl, ?_⟩⟩
  intro j f v hfj hv
  obtain ⟨ho, hk⟩ := hone_of hone j _ hfj
  have h1 := hfl j _ hfj
  have hjl : j < l.length := (List.getElem?_eq_some_iff.1 hv).1
  rw [ho, hk] at h1
  have hone' : ((Value.agg ⟨l⟩).cells.toList.drop j).take 1 = [v] := by
    show (l.drop j).take 1 = [v]
    rw [List.drop_eq_getElem_cons hjl, (List.getElem?_eq_some_iff.1 hv).2]
    rfl
  rw [hone'] at h1
  have hjs : j < ys.length := by omega
  rw [List.getElem?_eq_getElem hjs] at h1
  exact ⟨_, _, h1⟩
theorem open_members {v : Value} (h : Reads enc Try.prog w 22 v) : ∃ (A : Option Addr) (c : Nat) (l : List Pr), v = .slice A l.length c ∧ l.length ≤ maxLen ∧ Seg w w.heap.size A (prRows l) := by
  obtain ⟨A, c, rows, rfl, hl, hc, hr, hs⟩ := open_cells Try.underlying22 Try.underlying109 (by kernel_rfl) (by kernel_rfl) (by decide) h
  obtain ⟨l, e1, e2, _⟩ := rows_of Pr.cells (fun _ => True) rows fun x hx => by
    have hx := hr x hx
    match x, hx.len with
    | [x0, x1], _ =>
      obtain ⟨x0, rfl, _⟩ := (hx.cell 0 _ _ rfl rfl).int (by kernel_rfl)
      obtain ⟨x1, rfl, _⟩ := (hx.cell 1 _ _ rfl rfl).int (by kernel_rfl)
      exact ⟨⟨x0, x1⟩, rfl, trivial⟩
  rw [e2] at hs
  rw [← e1] at hl ⊢
  exact ⟨A, c, l, rfl, Nat.le_trans hl hc, hs⟩
theorem open_secs {v : Value} (h : Reads enc Try.prog w 23 v) : ∃ (A : Option Addr) (c : Nat) (l : List Pr), v = .slice A l.length c ∧ l.length ≤ maxLen ∧ Seg w w.heap.size A (prRows l) := by
  obtain ⟨A, c, rows, rfl, hl, hc, hr, hs⟩ := open_cells Try.underlying23 Try.underlying84 (by kernel_rfl) (by kernel_rfl) (by decide) h
  obtain ⟨l, e1, e2, _⟩ := rows_of Pr.cells (fun _ => True) rows fun x hx => by
    have hx := hr x hx
    match x, hx.len with
    | [x0, x1], _ =>
      obtain ⟨x0, rfl, _⟩ := (hx.cell 0 _ _ rfl rfl).int (by kernel_rfl)
      obtain ⟨x1, rfl, _⟩ := (hx.cell 1 _ _ rfl rfl).int (by kernel_rfl)
      exact ⟨⟨x0, x1⟩, rfl, trivial⟩
  rw [e2] at hs
  rw [← e1] at hl ⊢
  exact ⟨A, c, l, rfl, Nat.le_trans hl hc, hs⟩
theorem open_cycles {v : Value} (h : Reads enc Try.prog w 24 v) : ∃ (A : Option Addr) (c : Nat) (l : List Cy), v = .slice A l.length c ∧ l.length ≤ maxLen ∧ Seg w w.heap.size A (cyRows l) := by
  obtain ⟨A, c, rows, rfl, hl, hc, hr, hs⟩ := open_cells Try.underlying24 Try.underlying111 (by kernel_rfl) (by kernel_rfl) (by decide) h
  obtain ⟨l, e1, e2, _⟩ := rows_of Cy.cells (fun _ => True) rows fun x hx => by
    have hx := hr x hx
    match x, hx.len with
    | [x0, x1, x2, x3], _ =>
      obtain ⟨x0, rfl, _⟩ := (hx.cell 0 _ _ rfl rfl).int (by kernel_rfl)
      obtain ⟨x1, rfl, _⟩ := (hx.cell 1 _ _ rfl rfl).int (by kernel_rfl)
      obtain ⟨x2, rfl, _⟩ := (hx.cell 2 _ _ rfl rfl).int (by kernel_rfl)
      obtain ⟨x3, rfl, _⟩ := (hx.cell 3 _ _ rfl rfl).int (by kernel_rfl)
      exact ⟨⟨x0, x1, x2, x3⟩, rfl, trivial⟩
  rw [e2] at hs
  rw [← e1] at hl ⊢
  exact ⟨A, c, l, rfl, Nat.le_trans hl hc, hs⟩
set_option maxRecDepth 100000 in
theorem open_config {r : Reach} {b0 : Nat} {v : Value} {d : DataW H} {p : List MemPlace} (hv : Value.okWide Try.prog w r b0 26 v)
    (h : DataW.Trod enc Try.prog w 0 (fun _ => true) true 26 v d p) : ∃ x : Cfg, v = x.val ∧ CfOk w x ∧ x.ms.length ≤ maxLen ∧ x.ss.length ≤ maxLen ∧ x.cy.length ≤ maxLen := by
  obtain ⟨l, rfl, hx⟩ := open_row Try.underlying26 (by kernel_rfl) (by kernel_rfl) hv h
  match l, hx.len with
  | [x0, x1, x2, x3, x4, x5, x6, x7], _ =>
    obtain ⟨Am, cm, ms, rfl, hm, sm⟩ := open_members (hx.cell 0 _ _ rfl rfl)
    obtain ⟨As, cs, ss, rfl, hs, sss⟩ := open_secs (hx.cell 1 _ _ rfl rfl)
    obtain ⟨Ac, cc, cy, rfl, hc, sc⟩ := open_cycles (hx.cell 2 _ _ rfl rfl)
    obtain ⟨x3, rfl, _⟩ := (hx.cell 3 _ _ rfl rfl).int (by kernel_rfl)
    obtain ⟨x4, rfl, _⟩ := (hx.cell 4 _ _ rfl rfl).int (by kernel_rfl)
    obtain ⟨x5, rfl, _⟩ := (hx.cell 5 _ _ rfl rfl).int (by kernel_rfl)
    obtain ⟨x6, rfl, _⟩ := (hx.cell 6 _ _ rfl rfl).int (by kernel_rfl)
    obtain ⟨x7, rfl, _⟩ := (hx.cell 7 _ _ rfl rfl).int (by kernel_rfl)
    exact ⟨⟨ms, Am, cm, ss, As, cs, cy, Ac, cc, x3, x4, x5, x6, x7⟩, rfl, ⟨sm, sss, sc⟩, hm, hs, hc⟩
end
end Go.Proofs.Ytglpnpjjjihghaa
