/-
  How arguments that are events, or two ints, are opened.
-/
import Derived.Test.YtgkidjjijgegmaaOpenC
import Derived.Test.YtgkidjjijgegmaaCnDef
import Derived.OpenShut
namespace Go.Proofs.Ytgkidjjijgegmaa
open Go.ChangeShapes Go.WideShapes Go.ChangeAt Go.RowKit Go.Joins Go.Deep

theorem two_of (cs : Array Value) (h : cs.size = 2) : ∃ u0 u1, cs = #[u0, u1] := by
  obtain ⟨l⟩ := cs
  match l, h with
  | [u0, u1], _ => exact ⟨u0, u1, rfl⟩
section
variable {H : Type} {enc : TypeId × Value → H} {w : World}
theorem open_evs5 {v : Value} (h : Reads enc Try.prog w 22 v) :
    ∃ (A : Option Addr) (c : Nat) (l : List Ev), v = .slice A l.length c ∧ l.length ≤ c ∧ c ≤ maxLen ∧ (∀ y ∈ l, EvOk y) ∧ Seg w w.heap.size A (evRows l) := by
  obtain ⟨A, c, rows, rfl, hl, hc, hr, hs⟩ := open_cells Try.underlying22 Try.underlying34 (by kernel_rfl) (by kernel_rfl) (by decide) h
  obtain ⟨l, e1, e2, e3⟩ := rows_of Ev.cells EvOk rows fun x hx => by
    have hx := hr x hx
    match x, hx.len with
    | [a, b, d, e, f], _ =>
      obtain ⟨a, rfl, ha⟩ := (hx.cell 0 _ _ rfl rfl).int (by kernel_rfl)
      obtain ⟨b, rfl, hb⟩ := (hx.cell 1 _ _ rfl rfl).int (by kernel_rfl)
      obtain ⟨d, rfl, hd⟩ := (hx.cell 2 _ _ rfl rfl).int (by kernel_rfl)
      obtain ⟨e, rfl, he⟩ := (hx.cell 3 _ _ rfl rfl).int (by kernel_rfl)
      obtain ⟨f, rfl, hf⟩ := (hx.cell 4 _ _ rfl rfl).int (by kernel_rfl)
      exact ⟨⟨a, b, d, e, f⟩, rfl, ha, hb, hd, he, hf⟩
  rw [e2] at hs
  rw [← e1] at hl ⊢
  exact ⟨A, c, l, rfl, hl, hc, e3, hs⟩
set_option maxRecDepth 100000 in
theorem open_two2 {r : Reach} {b0 : Nat} {v : Value} {d : DataW H} {p : List MemPlace} (hv : Value.okWide Try.prog w r b0 53 v) (h : DataW.Trod enc Try.prog w 0 (fun _ => true) true 53 v d p) :
    ∃ a b, v = .agg #[.int .i64 a, .int .i64 b] ∧ I64 a ∧ I64 b := by
  have hC : Try.prog.cellsOf 53 = 2 := by kernel_rfl
  have hE : Try.prog.cellsOf 3 = 1 := by kernel_rfl
  simp only [Value.okWide, Try.underlying53] at hv
  obtain ⟨cs, rfl, hsz, _⟩ := hv
  rw [hC] at hsz
  obtain ⟨fuel, hf⟩ := h
  obtain ⟨xs, n, _, _, _, hxl, hel⟩ := DataW.trod_array Try.underlying53 hf
  obtain ⟨u0, u1, rfl⟩ := two_of cs hsz
  · have h0 := hel 0 Nat.zero_lt_two
    have h1 := hel 1 Nat.one_lt_two
    rw [hE] at h0 h1
    have g0 : (((Value.agg #[u0, u1]).cells.toList.drop (0 * 1)).take 1) = [u0] := rfl
    have g1 : (((Value.agg #[u0, u1]).cells.toList.drop (1 * 1)).take 1) = [u1] := rfl
    rw [g0, List.getElem?_eq_getElem (show 0 < xs.length by rw [hxl]; exact Nat.zero_lt_two)] at h0
    rw [g1, List.getElem?_eq_getElem (show 1 < xs.length by rw [hxl]; exact Nat.one_lt_two)] at h1
    obtain ⟨a, rfl, ha⟩ := Reads.int (enc := enc) (P := Try.prog) (w := w) Try.underlying3 ⟨_, _, h0⟩
    obtain ⟨b, rfl, hb⟩ := Reads.int (enc := enc) (P := Try.prog) (w := w) Try.underlying3 ⟨_, _, h1⟩
    exact ⟨a, b, rfl, ha, hb⟩
end
end Go.Proofs.Ytgkidjjijgegmaa
