/-
  PROVED: complinelaw37.CensusJoins returns true for every input, its arguments read afterwards as before. No conditions.
-/
import Derived.Test.YtgkidjjijgegmaaCEvOpen
import Derived.Test.YtgkidjjijgegmaaOpenNil
import Derived.Test.YtgkidjjijgegmaaJoL
namespace Go.Proofs.Ytgkidjjijgegmaa.cjoins
open Go.ChangeShapes Go.WideShapes Go.ChangeAt Go.RowKit

set_option maxRecDepth 100000 in
theorem contract (H : Type) (enc : TypeId × Value → H) (W : World) (base : Nat) (args : Array Value) (ds gs : List (DataW H)) (before : List MemPlace)
    (hval : ∀ (j : Nat) t v, Try.f5.params[j]? = some t → args[j]? = some v → Value.okWide Try.prog W .any base t v)
    (hW : DataW.Whole enc Try.prog Try.f5.params.toList Rows.censusJoinsSpec.vars false W args.toList ds gs before) :
    Calls Try.prog 5 args W fun e W' => ∃ v, e = .returned v ∧ Rows.censusJoinsSpec.post enc Try.prog Try.f5 false true false false W args v W' := by
  have hW' := hW
  obtain ⟨p, q, hA, hV, rfl, hfz, hnd⟩ := hW
  rw [Try.params5] at hA hval
  obtain ⟨v0, vs0, d0, ds0, p0, q0, hargs, rfl, rfl, h0, r0⟩ := trodAll_cons hA
  obtain ⟨v1, vs1, d1, ds1, p1, q1, rfl, rfl, rfl, h1, r1⟩ := trodAll_cons r0
  obtain ⟨rfl, rfl, rfl⟩ := trodAll_nil r1
  obtain rfl : args = #[v0, v1] := by cases args; simp_all
  obtain ⟨a0, n0, k0, rfl⟩ := okWide_slice Try.underlying22 (hval 0 _ v0 rfl rfl)
  obtain ⟨A0, c0, z0, e0, hl0, hc0, hI0, hz0⟩ := open_evs5 (reads_of rfl h0)
  have hn0 := open_nil Try.underlying22 (e0 ▸ reads_of rfl h0)
  obtain ⟨a1, n1, k1, rfl⟩ := okWide_slice Try.underlying22 (hval 1 _ v1 rfl rfl)
  obtain ⟨A1, c1, z1, e1, hl1, hc1, hI1, hz1⟩ := open_evs5 (reads_of rfl h1)
  have hn1 := open_nil Try.underlying22 (e1 ▸ reads_of rfl h1)
  rw [e0, e1] at hW' ⊢
  refine Calls.mono (joins_law z0 z1 A0 A1 c0 c1 W ⟨hz0, hn0⟩ ⟨hz1, hn1⟩ hI0 hI1 (Nat.le_trans hl0 hc0) (Nat.le_trans hl1 hc1)) fun e W' ⟨he, bel⟩ => ?_
  exact ⟨_, he, law_post laid_out (by kernel_rfl) Try.underlying4 (by kernel_rfl) rfl hW' (fun ds' hd => by
    have hd1 : ds'.length = 2 := hd
    match ds', hd1 with
    | [_, _], _ => rfl) bel⟩

set_option maxRecDepth 100000 in
theorem lifted (os : Os) (started : os.Started) (H : Type) (enc : TypeId × Value → H) :
    ReturnsInHanded {} Try.checked os 5 .any (Rows.censusJoinsSpec.pre6 enc Try.prog Try.f5 Rows.censusJoinsRow.domain false) (Rows.censusJoinsSpec.post enc Try.prog Try.f5 false true false false) := by
  refine returnsInHanded_of_change (C := Try.checked) own_knob started (by kernel_rfl) Try.func5
    (ChangeSpec.witness6 (enc := enc) (C := Try.checked) false ⟨#[], #[(.slice none 0 0 : Value), .slice none 0 0], []⟩ 8 (by kernel_rfl) (by kernel_rfl) (by kernel_rfl) (by kernel_rfl)) ?_
  intro W base args ds gs before hval hW _ _
  exact contract H enc W base args ds gs before hval hW

theorem said : Rows.CensusJoinsSaid :=
  OpenClaim.holds_of_wide 5 Try.f5 rfl rfl rfl rfl rfl rfl rfl ⟨rfl, rfl, rfl, rfl, rfl⟩ rfl rfl rfl rfl rfl (by kernel_rfl) Try.func5 (by kernel_rfl)
    (of_decide_eq_true (by kernel_rfl)) (by unfold Func.isWrapper; first | (rw [if_pos (by decide +kernel)]; kernel_rfl) | (rw [if_neg (by decide +kernel)]; exact ⟨rfl, rfl⟩))
    (fun os started H enc _ => lifted os started H enc)
#print axioms said
end Go.Proofs.Ytgkidjjijgegmaa.cjoins
