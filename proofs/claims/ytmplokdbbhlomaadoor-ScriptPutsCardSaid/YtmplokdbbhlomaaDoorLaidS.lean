/-
  What the listed variables give: the words of commands, the powers of ten; and the witness's world.
-/
import Derived.Test.YtmplokdbbhlomaaDoorFrame
import Derived.Test.YtmplokdbbhlomaaDoorScLaw
import Derived.LaidMore
import Derived.Stop.Joined
import Derived.Lib.LaidTab
namespace Go.Proofs.YtmplokdbbhlomaaDoor
open Go.ChangeShapes Go.WideShapes Go.ChangeAt Go.RowKit

def laidS {H : Type} : List (String × DataW H) := [("math/bits.deBruijn32tab", Rows.laid_math_bits_deBruijn32tab), ("math/bits.deBruijn64tab", Rows.laid_math_bits_deBruijn64tab), ("internal/strconv.uint64pow10", Rows.laid_internal_strconv_uint64pow10), ("compline/codec.words", Rows.laid_compline_codec_words)]
theorem g_wordsC : Tryd.prog.globalNamed "compline/codec.words" = some 0 := by kernel_rfl
theorem t_wordsC : (Tryd.prog.globals[0]?).map (·.type) = some 104 := by kernel_rfl
theorem c_wordsC : Tryd.prog.cellsOf 104 = 11 := by kernel_rfl
theorem c_strC : Tryd.prog.cellsOf 9 = 1 := by kernel_rfl
theorem t_tabC : (Tryd.prog.globals[1]?).map (·.type) = some 112 := by kernel_rfl
theorem words_lits (xs : List (DataW Unit)) (hx : Rows.laid_compline_codec_words = DataW.agg xs) (n : Nat) (hn : n < 11) (s : List UInt8) (h : xs[n]? = some (.lit (.string s))) : s = wordL n := by
  unfold Rows.laid_compline_codec_words at hx
  injection hx with hx
  subst hx
  have h11 : n = 0 ∨ n = 1 ∨ n = 2 ∨ n = 3 ∨ n = 4 ∨ n = 5 ∨ n = 6 ∨ n = 7 ∨ n = 8 ∨ n = 9 ∨ n = 10 := by omega
  rcases h11 with rfl | rfl | rfl | rfl | rfl | rfl | rfl | rfl | rfl | rfl | rfl <;> (simp at h; subst h; rfl)
theorem env_of_laid {W : World} (h : laidMetH Tryd.prog laidS W) : EnvS W := by
  rw [MakeChecks.laidMetH_plain _ _ _ (by kernel_rfl)] at h
  obtain ⟨ps, ⟨_, _, _, _, _, q1, _, _, _, _, hr1, _⟩, hn1⟩ := h
  obtain ⟨_, _, _, _, _, q2, _, _, _, _, hr2, _⟩ := hr1
  obtain ⟨g3, t3, cs3, f3, p3, q3, hg3, ht3, hv3, hd3, hr3, _⟩ := hr2
  obtain ⟨g0, t0, cs0, f0, p0, q0, hg0, ht0, hv0, hd0, _, _⟩ := hr3
  constructor
  · obtain rfl := Option.some.inj (g_wordsC.symm.trans hg0)
    obtain rfl := Option.some.inj (t_wordsC.symm.trans ht0)
    obtain ⟨xs, m1, rfl, hx1, hlen, hn3, hel⟩ := DataW.trod_array Tryd.underlying104 hd0
    simp only [Prod.mk.injEq] at hx1
    have hcell := fun i => World.var?_cell hg0 hv0 i
    rw [c_wordsC] at hlen
    rw [c_strC] at hel
    intro n hn
    have he := hel n hn
    have hxn : n < xs.length := by omega
    rw [List.getElem?_eq_getElem hxn] at he
    obtain ⟨s, e1, e2, _⟩ := DataW.trod_string Tryd.underlying9 he
    have hc := hcell n
    have h1 : cs0.toList[n]? = some (.string s) := by
      have : ((cs0.toList.drop (n * 1)).take 1)[0]? = some (.string s) := by rw [e1]; rfl
      simpa [List.getElem?_take, List.getElem?_drop] using this
    have h2 : (xs.map (·.1))[n]? = some (.lit (.string s.data.toList)) := by
      rw [List.getElem?_map, List.getElem?_eq_getElem hxn, e2]; rfl
    have h3 : s.data.toList = wordL n := words_lits _ hx1.1 n hn _ h2
    have h4 : s = bs (wordL n) := by
      rw [← h3]
    rw [h4] at h1
    rw [hc]
    generalize bs (wordL n) = z at *
    simpa using h1
  · obtain rfl := Option.some.inj (g_tab.symm.trans hg3)
    obtain rfl := Option.some.inj (t_tabC.symm.trans ht3)
    have e : (Rows.laid_internal_strconv_uint64pow10 : DataW Unit) = Lib.tabData .u64 Lib.pow10Tab := rfl
    rw [e] at hd3
    unfold Lib.TabIs
    rw [hv3, ← Lib.cells_of_tab Tryd.underlying112 Tryd.underlying63 (by kernel_rfl) (by kernel_rfl) hd3]
/-- The door's own heap meets the condition. -/
theorem door_met (os : Os) (args : Array Value) : laidMet Tryd.prog laidS ((World.doorLaid Tryd.prog 1200 os).forCall (fun _ _ => 0) ⟨#[], args, []⟩).memory :=
  laidMet_of_run' 8 (by kernel_rfl) (by kernel_rfl)
end Go.Proofs.YtmplokdbbhlomaaDoor
