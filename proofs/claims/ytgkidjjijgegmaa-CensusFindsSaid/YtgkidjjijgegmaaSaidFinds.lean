/-
  PROVED: complinelaw37.CensusFinds returns true for every input, its arguments read afterwards as before. No conditions.
-/
import Derived.Test.YtgkidjjijgegmaaCEvOpen
import Derived.Test.YtgkidjjijgegmaaCWF
namespace Go.Proofs.Ytgkidjjijgegmaa.finds
open Go.ChangeShapes Go.WideShapes Go.ChangeAt Go.RowKit

set_option maxRecDepth 100000 in
theorem contract (H : Type) (enc : TypeId × Value → H) (W : World) (base : Nat) (args : Array Value) (ds gs : List (DataW H)) (before : List MemPlace)
    (hval : ∀ (j : Nat) t v, Try.f6.params[j]? = some t → args[j]? = some v → Value.okWide Try.prog W .any base t v)
    (hW : DataW.Whole enc Try.prog Try.f6.params.toList Rows.censusFindsSpec.vars false W args.toList ds gs before) :
    Calls Try.prog 6 args W fun e W' => ∃ v, e = .returned v ∧ Rows.censusFindsSpec.post enc Try.prog Try.f6 false true false false W args v W' := by
  have hW' := hW
  obtain ⟨p, q, hA, hV, rfl, hfz, hnd⟩ := hW
  rw [Try.params6] at hA hval
  obtain ⟨v0, vs0, d0, ds0, p0, q0, hargs, rfl, rfl, h0, r0⟩ := trodAll_cons hA
  obtain ⟨v1, vs1, d1, ds1, p1, q1, rfl, rfl, rfl, h1, r1⟩ := trodAll_cons r0
  obtain ⟨v2, vs2, d2, ds2, p2, q2, rfl, rfl, rfl, h2, r2⟩ := trodAll_cons r1
  obtain ⟨rfl, rfl, rfl⟩ := trodAll_nil r2
  obtain rfl : args = #[v0, v1, v2] := by cases args; simp_all
  obtain ⟨a0, n0, k0, rfl⟩ := okWide_slice Try.underlying22 (hval 0 _ v0 rfl rfl)
  obtain ⟨A0, c0, z0, e0, hl0, hc0, hI0, hz0⟩ := open_evs5 (reads_of rfl h0)
  obtain ⟨x1, y1, rfl, hx1, hy1⟩ := open_two2 (hval 1 _ v1 rfl rfl) h1
  obtain ⟨x2, rfl, _, _, wn2⟩ := open_int Try.underlying3 (hval 2 _ v2 rfl rfl) h2
  have hx2 := I64_of_wf wn2
  rw [e0] at hW' ⊢
  refine Calls.mono (finds_law z0 A0 c0 x1 y1 x2 W hz0 hI0 (Nat.le_trans hl0 hc0)) fun e W' ⟨he, bel⟩ => ?_
  exact ⟨_, he, law_post laid_out (by kernel_rfl) Try.underlying4 (by kernel_rfl) rfl hW' (fun ds' hd => by
    have hd1 : ds'.length = 3 := hd
    match ds', hd1 with
    | [_, _, _], _ => rfl) bel⟩

set_option maxRecDepth 100000 in
theorem lifted (os : Os) (started : os.Started) (H : Type) (enc : TypeId × Value → H) :
    ReturnsInHanded {} Try.checked os 6 .any (Rows.censusFindsSpec.pre6 enc Try.prog Try.f6 Rows.censusFindsRow.domain false) (Rows.censusFindsSpec.post enc Try.prog Try.f6 false true false false) := by
  refine returnsInHanded_of_change (C := Try.checked) own_knob started (by kernel_rfl) Try.func6
    (ChangeSpec.witness6 (enc := enc) (C := Try.checked) false ⟨#[], #[(.slice none 0 0 : Value), .agg #[.int .i64 0, .int .i64 0], .int .i64 0], []⟩ 8 (by kernel_rfl) (by kernel_rfl) (by kernel_rfl) (by kernel_rfl)) ?_
  intro W base args ds gs before hval hW _ _
  exact contract H enc W base args ds gs before hval hW

theorem said : Rows.CensusFindsSaid :=
  OpenClaim.holds_of_wide 6 Try.f6 rfl rfl rfl rfl rfl rfl rfl ⟨rfl, rfl, rfl, rfl, rfl⟩ rfl rfl rfl rfl rfl (by kernel_rfl) Try.func6 (by kernel_rfl)
    (of_decide_eq_true (by kernel_rfl)) (by unfold Func.isWrapper; first | (rw [if_pos (by decide +kernel)]; kernel_rfl) | (rw [if_neg (by decide +kernel)]; exact ⟨rfl, rfl⟩))
    (fun os started H enc _ => lifted os started H enc)
#print axioms said
end Go.Proofs.Ytgkidjjijgegmaa.finds
