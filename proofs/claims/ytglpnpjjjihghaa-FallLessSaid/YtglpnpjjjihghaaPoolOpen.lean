/-
  How an argument that is a pool is opened.
-/
import Derived.Test.YtglpnpjjjihghaaShrOpen
import Derived.Test.YtglpnpjjjihghaaFl4
namespace Go.Proofs.Ytglpnpjjjihghaa
open Go.ChangeShapes Go.WideShapes Go.ChangeAt Go.RowKit Go.Joins Go.Deep

section
variable {H : Type} {enc : TypeId × Value → H} {w : World}
/-- A struct of one-cell fields, by value. -/
theorem open_row {P : Program} {r : Reach} {b0 : Nat} {t : TypeId} {fs : Array Field} {v : Value} {d : DataW H} {p : List MemPlace} (hs : P.underlying t = some (.struct fs)) (hone : oneCellFields P fs = true) (hC : P.cellsOf t = fs.size)
    (hv : Value.okWide P w r b0 t v) (h : DataW.Trod enc P w 0 (fun _ => true) true t v d p) : ∃ l : List Value, v = .agg l.toArray ∧ RowOf enc P w fs l := by
  obtain ⟨⟨l⟩, rfl, hsz⟩ := okWide_struct hs hv
  obtain ⟨fuel, hf⟩ := h
  obtain ⟨ys, n, _, _, _, hyl, hfl⟩ := DataW.trod_struct hs hf
  have hl : l.length = fs.size := hsz.trans hC
  refine ⟨l, rfl, ⟨hl, ?_⟩⟩
  intro j f v hfj hv
  obtain ⟨ho, hk⟩ := hone_of hone j _ hfj
  have h1 := hfl j _ hfj
  have hjl : j < l.length := (List.getElem?_eq_some_iff.1 hv).1
  rw [ho, hk] at h1
  have hone' : ((Value.agg ⟨l⟩).cells.toList.drop j).take 1 = [v] := by
    show (l.drop j).take 1 = [v]
    rw [List.drop_eq_getElem_cons hjl, (List.getElem?_eq_some_iff.1 hv).2]
    rfl
  rw [hone'] at h1
  have hjs : j < ys.length := by omega
  rw [List.getElem?_eq_getElem hjs] at h1
  exact ⟨_, _, h1⟩
/-- A slice without an address has no room. -/
theorem open_nil {P : Program} {t e : TypeId} {A : Option Addr} {n c : Nat} (ht : P.underlying t = some (.slice e)) (h : Reads enc P w t (.slice A n c)) : A = none → n = 0 ∧ c = 0 := by
  obtain ⟨fuel, x, hf⟩ := h
  rcases open_slice ht hf with ⟨hcs, _⟩ | ⟨a, len, cap, m, n', D, Pl, hcs, _⟩
  · simp at hcs
    exact fun _ => hcs.2
  · simp at hcs
    intro h
    rw [hcs.1] at h
    cases h
theorem open_am {v : Value} (h : Reads enc Try.prog w 35 v) : ∃ (A : Option Addr) (c : Nat) (l : List Int), v = .slice A l.length c ∧ l.length ≤ maxLen ∧ AmSrc w A c l ∧ (∀ x ∈ l, I64 x) := by
  obtain ⟨A, c, l, rfl, hl, hc, hI, hs⟩ := open_intlist Try.underlying35 Try.underlying2 (by kernel_rfl) h
  exact ⟨A, c, l, rfl, Nat.le_trans hl hc, ⟨hs, open_nil Try.underlying35 h⟩, hI⟩
set_option maxRecDepth 100000 in
theorem open_pool {r : Reach} {b0 : Nat} {v : Value} {d : DataW H} {p : List MemPlace} (hv : Value.okWide Try.prog w r b0 37 v)
    (h : DataW.Trod enc Try.prog w 0 (fun _ => true) true 37 v d p) : ∃ x : Pol, v = x.val ∧ PolOk w x ∧ x.co.length ≤ maxLen ∧ x.fu.length ≤ maxLen ∧ (∀ y ∈ x.co, I64 y) ∧ (∀ y ∈ x.fu, I64 y) ∧ I64 x.line ∧ I64 x.cap := by
  obtain ⟨l, rfl, hx⟩ := open_row Try.underlying37 (by kernel_rfl) (by kernel_rfl) hv h
  match l, hx.len with
  | [x0, x1, x2, x3], _ =>
    obtain ⟨A0, c0, l0, rfl, h0, s0, i0⟩ := open_am (hx.cell 0 _ _ rfl rfl)
    obtain ⟨A1, c1, l1, rfl, h1, s1, i1⟩ := open_am (hx.cell 1 _ _ rfl rfl)
    obtain ⟨x2, rfl, i2⟩ := (hx.cell 2 _ _ rfl rfl).int (by kernel_rfl)
    obtain ⟨x3, rfl, i3⟩ := (hx.cell 3 _ _ rfl rfl).int (by kernel_rfl)
    exact ⟨⟨l0, A0, c0, l1, A1, c1, x2, x3⟩, rfl, ⟨s0, s1⟩, h0, h1, i0, i1, i2, i3⟩
end
end Go.Proofs.Ytglpnpjjjihghaa
