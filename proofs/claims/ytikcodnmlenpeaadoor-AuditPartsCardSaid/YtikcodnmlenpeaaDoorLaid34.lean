/-
  What the listed variable gives: the words of the phases; and the witness's world.
-/
import Derived.Test.YtikcodnmlenpeaaDoorFrame
import Derived.Test.YtikcodnmlenpeaaDoorAudit4
import Derived.LaidMore
import Derived.Stop.Joined
namespace Go.Proofs.YtikcodnmlenpeaaDoor
open Go.ChangeShapes Go.WideShapes Go.ChangeAt Go.RowKit

theorem I64_of_wf {n : Int} (h : (Lit.int .i64 n).wf = true) : I64 n := by
  simp only [Lit.wf, IntKind.min, IntKind.max, IntKind.signed, IntKind.bits, Bool.and_eq_true, decide_eq_true_eq, if_true] at h
  unfold I64
  omega

def laid34 {H : Type} : List (String × DataW H) := [("compline/calendar.words", Rows.laid_compline_calendar_words)]
theorem g_words : Tryd.prog.globalNamed "compline/calendar.words" = some 0 := by kernel_rfl
theorem t_words : (Tryd.prog.globals[0]?).map (·.type) = some 73 := by kernel_rfl
theorem c_words : Tryd.prog.cellsOf 73 = 6 := by kernel_rfl
theorem c_str : Tryd.prog.cellsOf 9 = 1 := by kernel_rfl

theorem words_of_laid {W : World} (h : laidMetH Tryd.prog laid34 W) : WordsAt W := by
  rw [MakeChecks.laidMetH_plain _ _ _ (by kernel_rfl)] at h
  obtain ⟨ps, ⟨g0, t0, cs0, f0, p0, q0, hg0, ht0, hv0, hd0, _⟩, _⟩ := h
  obtain rfl := Option.some.inj (g_words.symm.trans hg0)
  obtain rfl := Option.some.inj (t_words.symm.trans ht0)
  obtain ⟨xs, m1, rfl, hx1, hlen, hn3, hel⟩ := DataW.trod_array Tryd.underlying73 hd0
  simp only [Prod.mk.injEq] at hx1
  have hcell := fun i => World.var?_cell hg0 hv0 i
  rw [c_words] at hlen
  rw [c_str] at hel
  intro n hn
  have he := hel n hn
  have hxn : n < xs.length := by omega
  rw [List.getElem?_eq_getElem hxn] at he
  obtain ⟨s, e1, e2, _⟩ := DataW.trod_string Tryd.underlying9 he
  refine ⟨s, ?_, ?_⟩
  · have hc := hcell n
    have h1 : cs0.toList[n]? = some (.string s) := by
      have : ((cs0.toList.drop (n * 1)).take 1)[0]? = some (.string s) := by rw [e1]; rfl
      simpa [List.getElem?_take, List.getElem?_drop] using this
    rw [hc]
    simpa using h1
  · intro hnil
    have h2 : (xs.map (·.1))[n]? = some (.lit (.string s.data.toList)) := by
      rw [List.getElem?_map, List.getElem?_eq_getElem hxn, e2]; rfl
    have h3 : ∀ d, (xs.map (·.1))[n]? = some d → d ≠ .lit (.string []) := by
      have e3 := hx1.1
      unfold Rows.laid_compline_calendar_words at e3
      injection e3 with e3
      rw [← e3]
      have h6 : n = 0 ∨ n = 1 ∨ n = 2 ∨ n = 3 ∨ n = 4 ∨ n = 5 := by omega
      rcases h6 with rfl | rfl | rfl | rfl | rfl | rfl <;> (intro d hd hh; simp at hd; subst hd; simp at hh)
    exact h3 _ h2 (by rw [← ByteArray.toList_eq, hnil])

theorem pos_of_laid {W : World} (h : laidMetH Tryd.prog laid34 W) : 0 < W.heap.size := by
  obtain ⟨s, hc, _⟩ := words_of_laid h 0 (by decide)
  rcases Nat.eq_zero_or_pos W.heap.size with h0 | h0
  · simp [World.cell?, Array.getElem?_eq_none (by omega : W.heap.size ≤ 0)] at hc
  · exact h0

/-- The door's own heap meets the condition. -/
theorem door_met (os : Os) (args : Array Value) : laidMet Tryd.prog laid34 ((World.doorLaid Tryd.prog 400 os).forCall (fun _ _ => 0) ⟨#[], args, []⟩).memory :=
  laidMet_of_run' 8 (by kernel_rfl) (by kernel_rfl)
end Go.Proofs.YtikcodnmlenpeaaDoor
