/-
  How an argument that is a list of steps is opened.
-/
import Derived.Test.YtmplokdbbhlomaaGreatDoorFlatOpen
import Derived.Test.YtmplokdbbhlomaaGreatDoorScE
namespace Go.Proofs.YtmplokdbbhlomaaGreatDoor
open Go.ChangeShapes Go.WideShapes Go.ChangeAt Go.RowKit Go.Joins Go.Deep

section
variable {H : Type} {enc : TypeId × Value → H} {w : World}
theorem step_of {x : List Value} (hxl : x.length = 9) (hx : ReadsL enc Tryz.prog w TSt x) : ∃ y : St, x = (stCells y).toList ∧ StOk y := by
  have k1 : Tryz.prog.cellsOf TC = 7 := by kernel_rfl
  have k2 : Tryz.prog.cellsOf 2 = 1 := by kernel_rfl
  have k3 : Tryz.prog.cellsOf 3 = 1 := by kernel_rfl
  match x, hxl with
  | [a, b, c, d, e, f, g, h, i], _ =>
    have hf := hx.fields Tryz.underlying25
    have h0 : ReadsL enc Tryz.prog w 3 (([a, b, c, d, e, f, g, h, i].drop 0).take (Tryz.prog.cellsOf 3)) := hf 0 _ rfl
    have h1 : ReadsL enc Tryz.prog w TC (([a, b, c, d, e, f, g, h, i].drop 1).take (Tryz.prog.cellsOf TC)) := hf 1 _ rfl
    have h2 : ReadsL enc Tryz.prog w 3 (([a, b, c, d, e, f, g, h, i].drop 8).take (Tryz.prog.cellsOf 3)) := hf 2 _ rfl
    rw [k3] at h0 h2
    rw [k1] at h1
    have hg := ReadsL.fields Tryz.underlying23 h1
    have g0 : ReadsL enc Tryz.prog w 3 (([b, c, d, e, f, g, h].drop 0).take (Tryz.prog.cellsOf 3)) := hg 0 _ rfl
    have g1 : ReadsL enc Tryz.prog w 2 (([b, c, d, e, f, g, h].drop 1).take (Tryz.prog.cellsOf 2)) := hg 1 _ rfl
    have g2 : ReadsL enc Tryz.prog w 3 (([b, c, d, e, f, g, h].drop 2).take (Tryz.prog.cellsOf 3)) := hg 2 _ rfl
    have g3 : ReadsL enc Tryz.prog w 3 (([b, c, d, e, f, g, h].drop 3).take (Tryz.prog.cellsOf 3)) := hg 3 _ rfl
    have g4 : ReadsL enc Tryz.prog w 3 (([b, c, d, e, f, g, h].drop 4).take (Tryz.prog.cellsOf 3)) := hg 4 _ rfl
    have g5 : ReadsL enc Tryz.prog w 2 (([b, c, d, e, f, g, h].drop 5).take (Tryz.prog.cellsOf 2)) := hg 5 _ rfl
    have g6 : ReadsL enc Tryz.prog w 2 (([b, c, d, e, f, g, h].drop 6).take (Tryz.prog.cellsOf 2)) := hg 6 _ rfl
    rw [k3] at g0
    rw [k2] at g1
    rw [k3] at g2
    rw [k3] at g3
    rw [k3] at g4
    rw [k2] at g5
    rw [k2] at g6
    have r0 : Reads enc Tryz.prog w 3 a := h0
    have r8 : Reads enc Tryz.prog w 3 i := h2
    have r1 : Reads enc Tryz.prog w 3 b := g0
    have r2 : Reads enc Tryz.prog w 2 c := g1
    have r3 : Reads enc Tryz.prog w 3 d := g2
    have r4 : Reads enc Tryz.prog w 3 e := g3
    have r5 : Reads enc Tryz.prog w 3 f := g4
    have r6 : Reads enc Tryz.prog w 2 g := g5
    have r7 : Reads enc Tryz.prog w 2 h := g6
    obtain ⟨a, rfl, w0⟩ := r0.int (by kernel_rfl)
    obtain ⟨b, rfl, w1⟩ := r1.int (by kernel_rfl)
    obtain ⟨c, rfl, w2⟩ := r2.int (by kernel_rfl)
    obtain ⟨d, rfl, w3⟩ := r3.int (by kernel_rfl)
    obtain ⟨e, rfl, w4⟩ := r4.int (by kernel_rfl)
    obtain ⟨f, rfl, w5⟩ := r5.int (by kernel_rfl)
    obtain ⟨g, rfl, w6⟩ := r6.int (by kernel_rfl)
    obtain ⟨h, rfl, w7⟩ := r7.int (by kernel_rfl)
    obtain ⟨i, rfl, w8⟩ := r8.int (by kernel_rfl)
    exact ⟨⟨a, ⟨b, c, d, e, f, g, h⟩, i⟩, rfl, w0, ⟨w1, w2, w3, w4, w5, w6, w7⟩, w8⟩
theorem open_steps {v : Value} (h : Reads enc Tryz.prog w 38 v) :
    ∃ (A : Option Addr) (c : Nat) (l : List St), v = .slice A l.length c ∧ l.length ≤ c ∧ c ≤ maxLen ∧ (∀ y ∈ l, StOk y) ∧ Seg w w.heap.size A (stRows l) := by
  obtain ⟨A, c, rows, rfl, hl, hc, hr, hs⟩ := open_flat (N := 9) Tryz.underlying38 (by kernel_rfl) (by decide) h
  obtain ⟨l, e1, e2, e3⟩ := rows_of (fun y : St => (stCells y).toList) (fun y => StOk y) rows fun x hx => by
    obtain ⟨hxl, hx⟩ := hr x hx
    exact step_of hxl hx
  rw [e2] at hs
  rw [← e1] at hl ⊢
  exact ⟨A, c, l, rfl, hl, hc, e3, hs⟩
end
end Go.Proofs.YtmplokdbbhlomaaGreatDoor
