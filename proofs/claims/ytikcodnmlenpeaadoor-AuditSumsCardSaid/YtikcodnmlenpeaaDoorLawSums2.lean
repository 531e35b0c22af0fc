/-
  The law AuditSums returns true for lists of any length; how its arguments are opened.
-/
import Derived.Test.YtikcodnmlenpeaaDoorLawSums
import Derived.Test.YtikcodnmlenpeaaDoorRows34
namespace Go.Proofs.YtikcodnmlenpeaaDoor
open Go.ChangeShapes Go.WideShapes Go.ChangeAt Go.RowKit Go.Joins Go.Deep

set_option maxRecDepth 100000 in
set_option maxHeartbeats 400000 in
theorem sums_big (n1 n2 : Nat) (x0 x1 : Int) (A1 A2 : Option Addr) (c1 c2 : Nat) (w : World) (hw : WordsAt w) (hw0 : 0 < w.heap.size) (h : 60 < n1 ∨ 60 < n2) (h1 : n1 ≤ maxLen) (h2 : n2 ≤ maxLen) :
    Calls Tryd.prog 6 #[.slice A1 n1 c1, .slice A2 n2 c2, .agg #[.int .i64 x0, .int .i64 x1]] w fun e w' => e = .returned (.bool true) ∧ Below w.heap.size w w' := by
  have HW := Lib.hid hw
  clear hw
  unfold maxLen at h1 h2
  have hW0 : Below w.heap.size w (w.alloc (.cells #[.int .i64 x0, .int .i64 x1] 32)) := (Below.refl _ _).alloc (Nat.le_refl _) _
  have HA := Lib.hid (awake_any _ (HW.out.below hw0 hW0) (by simp))
  have HW0 := Lib.hid hW0
  clear hW0
  by_cases ha : 60 < n1
  · have hd : decide ((60 : Int) < (n1 : Int)) = true := by simp; omega
    clear h
    go_enter Tryd.func6, Tryd.ntmps6
    go_wp2_with (go_at_call 7; refine HA.out.mono ?_; rintro e w1 ⟨rfl, hb1⟩)
    go_ret
    exact ⟨rfl, HW0.out.trans (hb1.mono (by simp))⟩
  · have hb : 60 < n2 := by omega
    have hd : decide ((60 : Int) < (n1 : Int)) = false := by simp; omega
    have he : decide ((60 : Int) < (n2 : Int)) = true := by simp; omega
    clear h
    go_enter Tryd.func6, Tryd.ntmps6
    go_wp2_with (go_at_call 7; refine HA.out.mono ?_; rintro e w1 ⟨rfl, hb1⟩)
    go_ret
    exact ⟨rfl, HW0.out.trans (hb1.mono (by simp))⟩

theorem sums_all (l : List Ob) (ev : List Ev) (x0 x1 : Int) (A1 A2 : Option Addr) (c1 c2 : Nat) (w : World) (hw : WordsAt w) (hw0 : 0 < w.heap.size)
    (hs1 : Seg w w.heap.size A1 (obRows l)) (hs2 : Seg w w.heap.size A2 (evRows ev)) (hm1 : l.length ≤ maxLen) (hm2 : ev.length ≤ maxLen) (hI1 : ∀ x ∈ l, I64 x.net) (hI2 : ∀ x ∈ ev, I64 x.n) :
    Calls Tryd.prog 6 #[.slice A1 l.length c1, .slice A2 ev.length c2, .agg #[.int .i64 x0, .int .i64 x1]] w fun e w' => e = .returned (.bool true) ∧ Below w.heap.size w w' := by
  by_cases h : l.length ≤ 60 ∧ ev.length ≤ 60
  · exact sums_any l ev x0 x1 A1 A2 c1 c2 w hw hw0 hs1 hs2 h.1 h.2 hI1 hI2
  · exact sums_big _ _ x0 x1 A1 A2 c1 c2 w hw hw0 (by omega) hm1 hm2

def isI64 : Option TypeDesc → Bool
  | some (.int .i64) => true
  | _ => false
theorem ints_all {P : Program} {fs : Array Field} (h : (fs.toList.all fun f => isI64 (P.underlying f.type)) = true) : ∀ (j : Nat) (f : Field), fs[j]? = some f → P.underlying f.type = some (.int .i64) := fun j f hj => by
  have h1 := List.all_eq_true.1 h f (by simpa using Array.mem_of_getElem? hj)
  unfold isI64 at h1
  split at h1
  · assumption
  · cases h1

theorem open_two {H : Type} {enc : TypeId × Value → H} {w : World} {r : Reach} {b0 : Nat} {v : Value} {d : DataW H} {p : List MemPlace} (hv : Value.okWide Tryd.prog w r b0 32 v)
    (h : DataW.Trod enc Tryd.prog w 0 (fun _ => true) true 32 v d p) : ∃ x0 x1 : Int, v = .agg #[.int .i64 x0, .int .i64 x1] := by
  simp only [Value.okWide, Tryd.underlying32] at hv
  obtain ⟨cs, rfl, h2, _⟩ := hv
  obtain ⟨fuel, hf⟩ := h
  obtain ⟨xs, m1, rfl, hx1, hlen, hn2, hel⟩ := DataW.trod_array Tryd.underlying32 hf
  have c2 : Tryd.prog.cellsOf 32 = 2 := by kernel_rfl
  have c1 : Tryd.prog.cellsOf 3 = 1 := by kernel_rfl
  rw [c1] at hel
  obtain ⟨l⟩ := cs
  rw [c2] at hlen
  simp [Value.cells] at hlen
  match l, hlen, xs, hn2 with
  | [a, b], _, [y0, y1], _ =>
    obtain ⟨n0, e0, _⟩ := DataW.trod_int Tryd.underlying3 (by simpa [Value.cells] using hel 0 (by decide))
    obtain ⟨n1, e1, _⟩ := DataW.trod_int Tryd.underlying3 (by simpa [Value.cells] using hel 1 (by decide))
    simp at e0 e1
    subst e0 e1
    exact ⟨n0, n1, rfl⟩
end Go.Proofs.YtikcodnmlenpeaaDoor
