/-
  What the listed variables give: the words of commands, the powers of ten; and the witness's world.
-/
import Derived.Test.YtmplokdbbhlomaaGreatDoorFrame
import Derived.Test.YtmplokdbbhlomaaGreatDoorSdB
import Derived.Stop.LaidErr
import Derived.Shelf.Vars
import Derived.Lay
import Derived.LaidMore
import Derived.Stop.Joined
import Derived.Lib.LaidTab
namespace Go.Proofs.YtmplokdbbhlomaaGreatDoor
open Go.ChangeShapes Go.WideShapes Go.ChangeAt Go.RowKit

def laidZ : List (String × DataW Unit) := [("math/bits.deBruijn32tab", Rows.laid_math_bits_deBruijn32tab), ("math/bits.deBruijn64tab", Rows.laid_math_bits_deBruijn64tab), ("internal/strconv.uint64pow10", Rows.laid_internal_strconv_uint64pow10), ("unicode/utf8.acceptRanges", Rows.laid_unicode_utf8_acceptRanges), ("strconv.ErrRange", Rows.laid_strconv_ErrRange), ("strconv.ErrSyntax", Rows.laid_strconv_ErrSyntax), ("compline/codec.words", Rows.laid_compline_codec_words), ("unicode/utf8.first", Rows.laid_unicode_utf8_first)]
theorem g_wordsC : Tryz.prog.globalNamed "compline/codec.words" = some 0 := by kernel_rfl
theorem t_wordsC : (Tryz.prog.globals[0]?).map (·.type) = some 96 := by kernel_rfl
theorem c_wordsC : Tryz.prog.cellsOf 96 = 11 := by kernel_rfl
theorem c_strC : Tryz.prog.cellsOf 9 = 1 := by kernel_rfl
theorem t_tabC : (Tryz.prog.globals[2]?).map (·.type) = some 137 := by kernel_rfl
theorem words_lits (xs : List (DataW Unit)) (hx : Rows.laid_compline_codec_words = DataW.agg xs) (n : Nat) (hn : n < 11) (s : List UInt8) (h : xs[n]? = some (.lit (.string s))) : s = wordL n := by
  unfold Rows.laid_compline_codec_words at hx
  injection hx with hx
  subst hx
  have h11 : n = 0 ∨ n = 1 ∨ n = 2 ∨ n = 3 ∨ n = 4 ∨ n = 5 ∨ n = 6 ∨ n = 7 ∨ n = 8 ∨ n = 9 ∨ n = 10 := by omega
  rcases h11 with rfl | rfl | rfl | rfl | rfl | rfl | rfl | rfl | rfl | rfl | rfl <;> (simp at h; subst h; rfl)
theorem t_rng : (Tryz.prog.globals[4]?).map (·.type) = some 55 := by kernel_rfl
theorem t_syn : (Tryz.prog.globals[3]?).map (·.type) = some 55 := by kernel_rfl
theorem c_errC : Tryz.prog.cellsOf 154 = 1 := by kernel_rfl
theorem star_err : "*" ++ "errors.errorString" = "*errors.errorString" := by decide
theorem row_err (u : TypeId) (h : Tryz.prog.typeName? 3 u = some "*errors.errorString") : u = 152 :=
  typeName_ptr_named (nm := "errors.errorString") (by rw [star_err]; kernel_rfl) (by kernel_rfl) (by decide) u (by rw [star_err]; exact h)
theorem env_of_laid {W : World} (h : laidMetH Tryz.prog laidZ W) (hsh : W.ShapedOpen Tryz.prog) : EnvZ W := by
  rw [MakeChecks.laidMetH_plain _ _ _ (by kernel_rfl)] at h
  have h3 := h.tail.tail
  have hR := h.tail.tail.tail.tail
  have hS := h.tail.tail.tail.tail.tail
  have h6 := h.tail.tail.tail.tail.tail.tail
  obtain ⟨_, ⟨g3, t3, cs3, f3, p3, q3, hg3, ht3, hv3, hd3, _, _⟩, _, _⟩ := h3
  obtain ⟨_, ⟨g0, t0, cs0, f0, p0, q0, hg0, ht0, hv0, hd0, _, _⟩, _, _⟩ := h6
  obtain ⟨aR, sR, hvR, -, -, -⟩ := laid_sentinel hR g_rng t_rng Tryz.underlying55 row_err Tryz.underlying152 Tryz.underlying154 rfl rfl Tryz.underlying9 c_errC c_strC
  obtain ⟨aS, sS, hvS, -, -, -⟩ := laid_sentinel hS g_syn t_syn Tryz.underlying55 row_err Tryz.underlying152 Tryz.underlying154 rfl rfl Tryz.underlying9 c_errC c_strC
  refine ⟨⟨?_, ?_⟩, ?_, ?_, ?_⟩
  · obtain rfl := Option.some.inj (g_wordsC.symm.trans hg0)
    obtain rfl := Option.some.inj (t_wordsC.symm.trans ht0)
    obtain ⟨xs, m1, rfl, hx1, hlen, hn3, hel⟩ := DataW.trod_array Tryz.underlying96 hd0
    simp only [Prod.mk.injEq] at hx1
    have hcell := fun i => World.var?_cell hg0 hv0 i
    rw [c_wordsC] at hlen
    rw [c_strC] at hel
    intro n hn
    have he := hel n hn
    have hxn : n < xs.length := by omega
    rw [List.getElem?_eq_getElem hxn] at he
    obtain ⟨s, e1, e2, _⟩ := DataW.trod_string Tryz.underlying9 he
    have hc := hcell n
    have h1 : cs0.toList[n]? = some (.string s) := by
      have : ((cs0.toList.drop (n * 1)).take 1)[0]? = some (.string s) := by rw [e1]; rfl
      simpa [List.getElem?_take, List.getElem?_drop] using this
    have h2 : (xs.map (·.1))[n]? = some (.lit (.string s.data.toList)) := by
      rw [List.getElem?_map, List.getElem?_eq_getElem hxn, e2]; rfl
    have h3 : s.data.toList = wordL n := words_lits _ hx1.1 n hn _ h2
    have h4 : s = bs (wordL n) := by
      rw [← h3]
    rw [h4] at h1
    rw [hc]
    generalize bs (wordL n) = z at *
    simpa using h1
  · obtain rfl := Option.some.inj (g_tab.symm.trans hg3)
    obtain rfl := Option.some.inj (t_tabC.symm.trans ht3)
    have e : (Rows.laid_internal_strconv_uint64pow10 : DataW Unit) = Lib.tabData .u64 Lib.pow10Tab := rfl
    rw [e] at hd3
    unfold Lib.TabIs
    rw [hv3, ← Lib.cells_of_tab Tryz.underlying137 Tryz.underlying99 (by kernel_rfl) (by kernel_rfl) hd3]
  · exact ⟨_, _, hvS⟩
  · exact ⟨_, _, hvR⟩
  · exact Go.Proofs.cell_of_shapedOpen_int (zero := #[.int .i64 0]) (t := 3) hsh (of_decide_eq_true (by kernel_rfl)) (by kernel_rfl) rfl (by kernel_rfl) (by kernel_rfl) Tryz.underlying3
/-- The witness's world, written out. -/
theorem door_met (os : Os) (args : Array Value) : laidMet Tryz.prog laidZ ((World.laidAll Tryz.prog os laidZ).forCall (fun _ _ => 0) ⟨#[], args, []⟩).memory :=
  laidMet_laidAll _ (by kernel_rfl) (by kernel_rfl)
theorem witness_row_laid {H : Type} {enc : TypeId × Value → H} {C : Checked} {os : Os} {f : FuncId} {fn : Func} {s : OpenSpec} {conds : List PathCond} {apart : Bool} {laid : List (String × DataW Unit)} (modest : Bool) (w0 : World) (args : Array Value) (hos : w0.os = os)
    (hsh : (w0.forCall (fun _ _ => 0) ⟨#[], args, []⟩).Shaped C.prog)
    (hok : Input.okWideB C.prog (w0.forCall (fun _ _ => 0) ⟨#[], args, []⟩) f ⟨#[], args, []⟩ = true)
    (hrow : s.preRow enc C.prog fn conds apart laid (w0.forCall (fun _ _ => 0) ⟨#[], args, []⟩).memory args) :
    ∃ (w : World) (tape : Tape) (i : Input), w.os = os ∧ (w.forCall tape i).Shaped C.prog ∧ i.vars = [] ∧ Input.okWide C.prog (w.forCall tape i) .any w.heap.size f i ∧
      s.preRow enc C.prog fn conds apart laid (w.forCall tape i).memory i.args ∧ ({ modest := modest } : Assume).holds C.prog (lone (Frame.enter C.prog f i.args .normal) [] (w.forCall tape i)) :=
  ⟨w0, fun _ _ => 0, ⟨#[], args, []⟩, hos, hsh, (Input.okWide_of_okWideB (base := 0) hok).1, (Input.okWide_of_okWideB hok).2, hrow, by
    simp only [Assume.holds]
    exact ⟨by simp, by simp, fun _ => Modest.zero, by simp, by simp⟩⟩
end Go.Proofs.YtmplokdbbhlomaaGreatDoor
