/-
  PROVED: complinelaw03.ShareQuotas returns true for every input, its arguments read afterwards as before. No conditions.
-/
import Derived.Test.YtblplkajgbbkdaaShrOpen
import Derived.Test.YtblplkajgbbkdaaLaw03r
import Derived.Laws.IdiomArrays
namespace Go.Proofs.Ytblplkajgbbkdaa.quotas
open Go.ChangeShapes Go.WideShapes Go.ChangeAt Go.RowKit

/-- Three numbers, by value. -/
theorem open_arr3 {H : Type} {enc : TypeId × Value → H} {P : Program} {w : World} {base : Nat} {spare : Nat → Bool} {held : Bool} {r : Reach} {b0 : Nat} {t e : TypeId} {v : Value} {d : DataW H} {p : List MemPlace} (ht : P.underlying t = some (.array 3 e)) (he : P.underlying e = some (.int .i64)) (hce : P.cellsOf e = 1) (hC : P.cellsOf t = 3)
    (hv : Value.okWide P w r b0 t v) (h : DataW.Trod enc P w base spare held t v d p) :
    ∃ x0 x1 x2 : Int, v = .agg #[.int .i64 x0, .int .i64 x1, .int .i64 x2] ∧ I64 x0 ∧ I64 x1 ∧ I64 x2 := by
  obtain ⟨⟨l⟩, rfl, hsz⟩ : ∃ cs : Array Value, v = .agg cs ∧ cs.size = P.cellsOf t := by
    simp only [Value.okWide, ht] at hv
    obtain ⟨cs, h1, h2, _⟩ := hv
    exact ⟨cs, h1, h2⟩
  match l, hsz.trans hC with
  | [c0, c1, c2], _ =>
    obtain ⟨fuel, hf⟩ := h
    obtain ⟨y0, y1, y2, n, _, g0, g1, g2⟩ := trod_array3 ht hce hf
    obtain ⟨x0, f0, _, w0⟩ := DataW.trod_int he g0
    obtain ⟨x1, f1, _, w1⟩ := DataW.trod_int he g1
    obtain ⟨x2, f2, _, w2⟩ := DataW.trod_int he g2
    simp only [List.cons.injEq, and_true] at f0 f1 f2
    subst f0 f1 f2
    exact ⟨x0, x1, x2, rfl, I64_of_wf w0, I64_of_wf w1, I64_of_wf w2⟩

set_option maxRecDepth 100000 in
theorem contract (H : Type) (enc : TypeId × Value → H) (W : World) (base : Nat) (args : Array Value) (ds gs : List (DataW H)) (before : List MemPlace)
    (hval : ∀ (j : Nat) t v, Try.f7.params[j]? = some t → args[j]? = some v → Value.okWide Try.prog W .any base t v)
    (hW : DataW.Whole enc Try.prog Try.f7.params.toList Rows.shareQuotasSpec.vars false W args.toList ds gs before) :
    Calls Try.prog 7 args W fun e W' => ∃ v, e = .returned v ∧ Rows.shareQuotasSpec.post enc Try.prog Try.f7 false true false false W args v W' := by
  have hW' := hW
  obtain ⟨p, q, hA, hV, rfl, hfz, hnd⟩ := hW
  rw [Try.params7] at hA hval
  obtain ⟨v0, vs0, d0, ds0, p0, q0, hargs, rfl, rfl, h0, r0⟩ := trodAll_cons hA
  obtain ⟨v1, vs1, d1, ds1, p1, q1, rfl, rfl, rfl, h1, r1⟩ := trodAll_cons r0
  obtain ⟨v2, vs2, d2, ds2, p2, q2, rfl, rfl, rfl, h2, r2⟩ := trodAll_cons r1
  obtain ⟨rfl, rfl, rfl⟩ := trodAll_nil r2
  obtain rfl : args = #[v0, v1, v2] := by cases args; simp_all
  obtain ⟨x0, x1, x2, e0, hx0, hx1, hx2⟩ := open_arr3 (P := Try.prog) Try.underlying33 Try.underlying2 (by kernel_rfl) (by kernel_rfl) (hval 0 _ v0 rfl rfl) h0
  obtain ⟨a1, n1, k1, rfl⟩ := okWide_slice Try.underlying22 (hval 1 _ v1 rfl rfl)
  obtain ⟨A1, c1, z1, e1, hl1, hc1, hI1, hz1⟩ := open_intlist Try.underlying22 Try.underlying2 (by kernel_rfl) (reads_of rfl h1)
  obtain ⟨a2, n2, k2, rfl⟩ := okWide_slice Try.underlying22 (hval 2 _ v2 rfl rfl)
  obtain ⟨A2, c2, z2, e2, hl2, hc2, hI2, hz2⟩ := open_intlist Try.underlying22 Try.underlying2 (by kernel_rfl) (reads_of rfl h2)
  rw [e0, e1, e2] at hW' ⊢
  refine Calls.mono (quotas_law x0 x1 x2 z1 z2 A1 A2 c1 c2 W hx0 hx2 hI1 hz1 hz2 (Nat.le_trans hl1 hc1) (Nat.le_trans hl2 hc2)) fun e W' ⟨he, bel⟩ => ?_
  exact ⟨_, he, law_post laid_out (by kernel_rfl) Try.underlying4 (by kernel_rfl) rfl hW' (fun ds' hd => by
    have hd1 : ds'.length = 3 := hd
    match ds', hd1 with
    | [_, _, _], _ => rfl) bel⟩

set_option maxRecDepth 100000 in
theorem lifted (os : Os) (started : os.Started) (H : Type) (enc : TypeId × Value → H) :
    ReturnsInHanded {} Try.checked os 7 .any (Rows.shareQuotasSpec.pre6 enc Try.prog Try.f7 Rows.shareQuotasRow.domain false) (Rows.shareQuotasSpec.post enc Try.prog Try.f7 false true false false) := by
  refine returnsInHanded_of_change (C := Try.checked) own_knob started (by kernel_rfl) Try.func7
    (ChangeSpec.witness6 (enc := enc) (C := Try.checked) false ⟨#[], #[(.agg #[.int .i64 0, .int .i64 0, .int .i64 0] : Value), .slice none 0 0, .slice none 0 0], []⟩ 8 (by kernel_rfl) (by kernel_rfl) (by kernel_rfl) (by kernel_rfl)) ?_
  intro W base args ds gs before hval hW _ _
  exact contract H enc W base args ds gs before hval hW

theorem said : Rows.ShareQuotasSaid :=
  OpenClaim.holds_of_wide 7 Try.f7 rfl rfl rfl rfl rfl rfl rfl ⟨rfl, rfl, rfl, rfl, rfl⟩ rfl rfl rfl rfl rfl (by kernel_rfl) Try.func7 (by kernel_rfl)
    (of_decide_eq_true (by kernel_rfl)) (by unfold Func.isWrapper; first | (rw [if_pos (by decide +kernel)]; kernel_rfl) | (rw [if_neg (by decide +kernel)]; exact ⟨rfl, rfl⟩))
    (fun os started H enc _ => lifted os started H enc)
#print axioms said
end Go.Proofs.Ytblplkajgbbkdaa.quotas
