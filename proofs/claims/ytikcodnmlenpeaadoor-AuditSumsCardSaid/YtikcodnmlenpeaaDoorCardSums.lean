/-
  PROVED: complinelaw34.AuditSums returns true for every input, its arguments read afterwards as before (the row's conditions: the listed variable calendar.words reads as the program's text lays it, which the card ties).
-/
import Derived.Test.YtikcodnmlenpeaaDoorCards
import Derived.Test.YtikcodnmlenpeaaDoorTie
import Derived.Test.YtikcodnmlenpeaaDoorLawSums2
namespace Go.Proofs.YtikcodnmlenpeaaDoor.sums
open Go.ChangeShapes Go.WideShapes Go.ChangeAt Go.RowKit

theorem contract (H : Type) (enc : TypeId × Value → H) (W : World) (base : Nat) (args : Array Value) (ds gs : List (DataW H)) (before : List MemPlace)
    (hval : ∀ (j : Nat) t v, Tryd.f6.params[j]? = some t → args[j]? = some v → Value.okWide Tryd.prog W .any base t v)
    (hW : DataW.Whole enc Tryd.prog Tryd.f6.params.toList Rows.auditSumsSpec.vars false W args.toList ds gs before) (hL : laidMetH Tryd.prog laid34 W) :
    Calls Tryd.prog 6 args W fun e W' => ∃ v, e = .returned v ∧ Rows.auditSumsSpec.post enc Tryd.prog Tryd.f6 false true false false W args v W' := by
  have hW' := hW
  obtain ⟨p, q, hA, hV, rfl, hfz, hnd⟩ := hW
  rw [Tryd.params6] at hA hval
  obtain ⟨v0, vs0, d0, ds0, p0, q0, hargs, rfl, rfl, h0, r0⟩ := trodAll_cons hA
  obtain ⟨v1, vs1, d1, ds1, p1, q1, rfl, rfl, rfl, h1, r1⟩ := trodAll_cons r0
  obtain ⟨v2, vs2, d2, ds2, p2, q2, rfl, rfl, rfl, h2, r2⟩ := trodAll_cons r1
  obtain ⟨rfl, rfl, rfl⟩ := trodAll_nil r2
  obtain rfl : args = #[v0, v1, v2] := by cases args; simp_all
  obtain ⟨A1, c1, rows1, rfl, hm1, hr1, hs1⟩ := open_rows Tryd.underlying31 Tryd.underlying35 (by kernel_rfl) (by kernel_rfl) (ints_all (by kernel_rfl)) (by decide) (hval 0 _ v0 rfl rfl) h0
  obtain ⟨A2, c2, rows2, rfl, hm2, hr2, hs2⟩ := open_rows Tryd.underlying27 Tryd.underlying23 (by kernel_rfl) (by kernel_rfl) (ints_all (by kernel_rfl)) (by decide) (hval 1 _ v1 rfl rfl) h1
  obtain ⟨x0, x1, rfl⟩ := open_two (hval 2 _ v2 rfl rfl) h2
  rw [← flatMap_of Ob.of Ob.cells rows1 fun r hr => ob_of (hr1 r hr).1] at hs1
  rw [← flatMap_of Ev.of Ev.cells rows2 fun r hr => ev_of (hr2 r hr).1] at hs2
  have walk := sums_all (rows1.map Ob.of) (rows2.map Ev.of) x0 x1 A1 A2 c1 c2 W (words_of_laid hL) (pos_of_laid hL) hs1 hs2 (by rw [List.length_map]; exact hm1) (by rw [List.length_map]; exact hm2)
    (fun x hx => by obtain ⟨r, hr, rfl⟩ := List.mem_map.1 hx; exact getD_wf (hr1 r hr).2 3) (fun x hx => by obtain ⟨r, hr, rfl⟩ := List.mem_map.1 hx; exact getD_wf (hr2 r hr).2 3)
  rw [List.length_map, List.length_map] at walk
  refine Calls.mono walk fun e W' ⟨he, bel⟩ => ?_
  exact ⟨_, he, law_post laid_out (by kernel_rfl) Tryd.underlying4 (by kernel_rfl) rfl hW' (fun ds' hd => by
    have hd3 : ds'.length = 3 := hd
    match ds', hd3 with
    | [_, _, _], _ => rfl) bel⟩

theorem reads (os : Os) {H : Type} (enc : TypeId × Value → H) : ∃ places, DataW.whole enc Tryd.prog ((World.doorLaid Tryd.prog 400 os).forCall (fun _ _ => 0) ⟨#[], #[(.slice none 0 0 : Value), .slice none 0 0, .agg #[.int .i64 0, .int .i64 0]], []⟩).memory Tryd.f6.params.toList Rows.auditSumsSpec.vars false #[(.slice none 0 0 : Value), .slice none 0 0, .agg #[.int .i64 0, .int .i64 0]].toList 8 = some ([.nil, .nil, .agg [.lit (.int .i64 0), .lit (.int .i64 0)]], [], places) :=
  ⟨[], by kernel_rfl⟩

set_option maxRecDepth 100000 in
theorem lifted (os : Os) (started : os.Started) (H : Type) (enc : TypeId × Value → H) (F : Stop.Interp) :
    ReturnsInHanded {} Tryd.checked os 6 .any ((OpenSpec.ofChange Rows.auditSumsSpec).preRow enc Tryd.prog Tryd.f6 Rows.auditSumsRow.domain false Rows.auditSumsRow.laid) (((OpenSpec.ofChange Rows.auditSumsSpec).at F).post enc Tryd.prog Tryd.f6 false true false false) := by
  obtain ⟨places, hx⟩ := reads os enc
  refine returnsInHanded_of_row (C := Tryd.checked) (s := OpenSpec.ofChange Rows.auditSumsSpec) own_knob started (by kernel_rfl) Tryd.func6
    (witness_row_at (enc := enc) (C := Tryd.checked) false (World.doorLaid Tryd.prog 400 os) #[(.slice none 0 0 : Value), .slice none 0 0, .agg #[.int .i64 0, .int .i64 0]] rfl (by kernel_rfl) (by kernel_rfl) (by kernel_rfl)
      (OpenSpec.preRow_of_cond 8 hx (by kernel_rfl) (fun k hk => by cases hk) (by kernel_rfl) (door_met os _))) ?_
  intro W base args ds gs before hval hW _ _ _ hL _ _
  exact contract H enc W base args ds gs before hval hW hL

theorem said : Rows.AuditSumsSaid :=
  OpenClaim.holds_of_cond 6 Tryd.f6 rfl rfl rfl rfl rfl rfl rfl ⟨rfl, rfl, rfl, rfl, rfl⟩ rfl rfl rfl rfl rfl (by kernel_rfl) Tryd.func6 (by kernel_rfl)
    (of_decide_eq_true (by kernel_rfl)) (by unfold Func.isWrapper; first | (rw [if_pos (by decide +kernel)]; kernel_rfl) | (rw [if_neg (by decide +kernel)]; exact ⟨rfl, rfl⟩))
    (fun os started H enc _ F => by rw [OpenClaim.pre_eq_preRow]; exact lifted os started H enc F)

theorem plain (f : FuncId) (fn : Func) (hf : Tryd.pinned.checked.prog.funcNamed "compline/complinelaw34.AuditSums" = some f) (hfn : Tryd.pinned.checked.prog.funcs[f]? = some fn) :
    false = Tryd.pinned.checked.prog.looks [] ∧ ∀ (j : Nat) t, fn.params[j]? = some t → Tryd.pinned.checked.prog.wantsStandIn t = false := by
  obtain rfl : f = 6 := Option.some.inj ((show Tryd.prog.funcNamed "compline/complinelaw34.AuditSums" = some 6 by kernel_rfl).symm.trans hf) |>.symm
  obtain rfl : fn = Tryd.f6 := (Option.some.inj (Tryd.func6.symm.trans hfn)).symm
  refine ⟨by kernel_rfl, fun j t ht => ?_⟩
  rw [Tryd.params6] at ht
  have hm : t ∈ [31, 27, 32] := by simpa using Array.mem_of_getElem? ht
  have hall : ([31, 27, 32].all fun u => !Tryd.prog.wantsStandIn u) = true := by kernel_rfl
  exact (show Tryd.prog.wantsStandIn t = false by simpa using List.all_eq_true.1 hall t hm)

/-- The card. -/
theorem card : Rows.AuditSumsCardSaid :=
  Claim7.holds_tied_plain_at .later [] _ _ _ _ said (fun _ h => by cases h) (by kernel_rfl) (fun _ h => by cases h) auditSums_row_tie rfl ⟨rfl, rfl⟩ (by kernel_rfl) rfl plain (by kernel_rfl)
#print axioms card
end Go.Proofs.YtikcodnmlenpeaaDoor.sums
