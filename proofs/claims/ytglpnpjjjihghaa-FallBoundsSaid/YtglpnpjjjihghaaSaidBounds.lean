/-
  PROVED: complinelaw23.FallBounds returns true for every input, its arguments read afterwards as before. No conditions.
-/
import Derived.Test.YtglpnpjjjihghaaPoolOpen
import Derived.Test.YtglpnpjjjihghaaFl24
namespace Go.Proofs.Ytglpnpjjjihghaa.bounds
open Go.ChangeShapes Go.WideShapes Go.ChangeAt Go.RowKit

set_option maxRecDepth 100000 in
theorem contract (H : Type) (enc : TypeId × Value → H) (W : World) (base : Nat) (args : Array Value) (ds gs : List (DataW H)) (before : List MemPlace)
    (hval : ∀ (j : Nat) t v, Try.f7.params[j]? = some t → args[j]? = some v → Value.okWide Try.prog W .any base t v)
    (hW : DataW.Whole enc Try.prog Try.f7.params.toList Rows.fallBoundsSpec.vars false W args.toList ds gs before) :
    Calls Try.prog 7 args W fun e W' => ∃ v, e = .returned v ∧ Rows.fallBoundsSpec.post enc Try.prog Try.f7 false true false false W args v W' := by
  have hW' := hW
  obtain ⟨p, q, hA, hV, rfl, hfz, hnd⟩ := hW
  rw [Try.params7] at hA hval
  obtain ⟨v0, vs0, d0, ds0, p0, q0, hargs, rfl, rfl, h0, r0⟩ := trodAll_cons hA
  obtain ⟨v1, vs1, d1, ds1, p1, q1, rfl, rfl, rfl, h1, r1⟩ := trodAll_cons r0
  obtain ⟨v2, vs2, d2, ds2, p2, q2, rfl, rfl, rfl, h2, r2⟩ := trodAll_cons r1
  obtain ⟨rfl, rfl, rfl⟩ := trodAll_nil r2
  obtain rfl : args = #[v0, v1, v2] := by cases args; simp_all
  obtain ⟨x0, rfl, hP0, hc0, hf0, ic0, if0, il0, ik0⟩ := open_pool (hval 0 _ v0 rfl rfl) h0
  obtain ⟨a1, n1, k1, rfl⟩ := okWide_slice Try.underlying38 (hval 1 _ v1 rfl rfl)
  obtain ⟨A1, c1, z1, e1, hl1, hc1, hI1, hz1⟩ := open_intlist Try.underlying38 Try.underlying3 (by kernel_rfl) (reads_of rfl h1)
  obtain ⟨x2, rfl, _, _, wn2⟩ := open_int Try.underlying2 (hval 2 _ v2 rfl rfl) h2
  have hx2 := I64_of_wf wn2
  rw [e1] at hW' ⊢
  refine Calls.mono (bounds_law x0 z1 x2 A1 c1 W hP0 hc0 hf0 hz1 (Nat.le_trans hl1 hc1) hI1 (I64_of_wf wn2)) fun e W' ⟨he, bel⟩ => ?_
  exact ⟨_, he, law_post laid_out (by kernel_rfl) Try.underlying4 (by kernel_rfl) rfl hW' (fun ds' hd => by
    have hd1 : ds'.length = 3 := hd
    match ds', hd1 with
    | [_, _, _], _ => rfl) bel⟩

set_option maxRecDepth 100000 in
theorem lifted (os : Os) (started : os.Started) (H : Type) (enc : TypeId × Value → H) :
    ReturnsInHanded {} Try.checked os 7 .any (Rows.fallBoundsSpec.pre6 enc Try.prog Try.f7 Rows.fallBoundsRow.domain false) (Rows.fallBoundsSpec.post enc Try.prog Try.f7 false true false false) := by
  refine returnsInHanded_of_change (C := Try.checked) own_knob started (by kernel_rfl) Try.func7
    (ChangeSpec.witness6 (enc := enc) (C := Try.checked) false ⟨#[], #[(.agg #[.slice none 0 0, .slice none 0 0, .int .i64 0, .int .i64 0] : Value), .slice none 0 0, .int .i64 0], []⟩ 8 (by kernel_rfl) (by kernel_rfl) (by kernel_rfl) (by kernel_rfl)) ?_
  intro W base args ds gs before hval hW _ _
  exact contract H enc W base args ds gs before hval hW

theorem said : Rows.FallBoundsSaid :=
  OpenClaim.holds_of_wide 7 Try.f7 rfl rfl rfl rfl rfl rfl rfl ⟨rfl, rfl, rfl, rfl, rfl⟩ rfl rfl rfl rfl rfl (by kernel_rfl) Try.func7 (by kernel_rfl)
    (of_decide_eq_true (by kernel_rfl)) (by unfold Func.isWrapper; first | (rw [if_pos (by decide +kernel)]; kernel_rfl) | (rw [if_neg (by decide +kernel)]; exact ⟨rfl, rfl⟩))
    (fun os started H enc _ => lifted os started H enc)
#print axioms said
end Go.Proofs.Ytglpnpjjjihghaa.bounds
