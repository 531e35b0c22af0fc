/-
  The frame of a law's row: what is read before the call is read behind it, if the call has written nothing that was there; how arguments are opened.
-/
import Derived.Test.YtmplokdbbhlomaaGreatDoorRows
import Derived.Test.YtmplokdbbhlomaaGreatDoorMem
import Derived.ProofKit
import Derived.OpenShut
import Derived.Lib.SmallJoins
import Derived.Deep.Slices
import Derived.Deep.Fields
import Derived.Deep.DeepHandedRow
namespace Go.Proofs.YtmplokdbbhlomaaGreatDoor
open Go.ChangeShapes Go.WideShapes Go.ChangeAt Go.RowKit Go.Joins Go.Deep

theorem own_knob : ownKnob Tryz.prog.godebug = none := by kernel_rfl
theorem laid_out : laidOutB Tryz.prog = true := by kernel_rfl

section
variable {H : Type} {enc : TypeId × Value → H} {P : Program}
theorem trodAll_stays (hl : laidOutB P = true) {W W' : World} (hb : Below W.heap.size W W') : ∀ (ts : List TypeId) {vs : List Value} {ds : List (DataW H)} {ps : List MemPlace},
    (ts.all fun t => P.readableRec t && decide (t < P.types.size)) = true → DataW.TrodAll enc P W 0 (fun _ => true) true ts vs ds ps → DataW.TrodAll enc P W' 0 (fun b => decide (b < W.heap.size)) true ts vs ds ps
  | [], vs, ds, ps, _, h => by
    obtain ⟨rfl, rfl, rfl⟩ := trodAll_nil h
    exact trodAll_mk0
  | t :: ts, vs, ds, ps, hr, h => by
    obtain ⟨v, vs', d, ds', p, q, rfl, rfl, rfl, h0, r⟩ := trodAll_cons h
    rw [List.all_cons, Bool.and_eq_true, Bool.and_eq_true] at hr
    have lt0 : ∀ x ∈ p, x.block < W.heap.size := by obtain ⟨m, hm⟩ := h0; exact DataW.trod_lt m _ _ _ hm
    exact trodAll_cons_mk (Below.trod hl hr.1.1 (of_decide_eq_true hr.1.2) h0 hb lt0) (trodAll_stays hl hb ts hr.2 r)

/-- A law that returned true, and wrote nothing that was there: its row's post. -/
theorem law_post (hl : laidOutB P = true) {f : Func} {s : ChangeSpec} {W W' : World} {args : Array Value} {ds gs : List (DataW H)} {before : List MemPlace} {tb : TypeId} (hr : (f.params.toList.all fun t => P.readableRec t && decide (t < P.types.size)) = true)
    (htb : P.underlying tb = some .bool) (hrt : f.resultTypes = #[tb]) (hv : s.vars = []) (hW : DataW.Whole enc P f.params.toList s.vars false W args.toList ds gs before)
    (hsp : ∀ ds' : List (DataW H), ds'.length = f.params.toList.length → s.fn H ds' = { results := [.lit (.bool true)], args := ds' }) (bel : Below W.heap.size W W') :
    s.post enc P f false true false false W args (.bool true) W' := by
  have hW' := hW
  obtain ⟨p, q, hA, hV, rfl, _, _⟩ := hW
  rw [hv] at hV
  obtain ⟨rfl, rfl⟩ := trodVars_none hV
  have hlen : ∀ (ts : List TypeId) (vs : List Value) (ds : List (DataW H)) (ps : List MemPlace), DataW.TrodAll enc P W 0 (fun _ => true) true ts vs ds ps → ds.length = ts.length := by
    intro ts
    induction ts with
    | nil => intro vs ds ps h; obtain ⟨_, rfl, _⟩ := trodAll_nil h; rfl
    | cons t ts ih =>
      intro vs ds ps h
      obtain ⟨v, vs', d, ds', p, q, _, rfl, _, _, r⟩ := trodAll_cons h
      simp [ih _ _ _ r]
  have e := hsp ds (hlen _ _ _ _ hA)
  refine ⟨ds, [], p ++ [], [], p, [], hW', ?_, ?_, ?_, ?_, fun h => by cases h⟩
  · rw [List.append_nil, e, hrt]; exact trodAll_mk1 (shut_bool htb true)
  · rw [List.append_nil, e]; exact trodAll_stays hl bel _ hr hA
  · rw [List.append_nil, e, hv]; rfl
  · exact bel.frame _

/-- Five fields of one cell each, by value. -/
theorem open_val5 {w : World} {base : Nat} {spare : Nat → Bool} {held : Bool} {r : Reach} {b0 : Nat} {t : TypeId} {f0 f1 f2 f3 f4 : Field} {v : Value} {d : DataW H} {p : List MemPlace} (hs : P.underlying t = some (.struct #[f0, f1, f2, f3, f4])) (hone : oneCellFields P #[f0, f1, f2, f3, f4] = true) (hC : P.cellsOf t = 5)
    (hv : Value.okWide P w r b0 t v) (h : DataW.Trod enc P w base spare held t v d p) :
    ∃ (c : Fin 5 → Value) (y : Fin 5 → DataW H × List MemPlace) (n : Nat), v = .agg #[c 0, c 1, c 2, c 3, c 4] ∧
      DataW.trod enc P w base spare held n f0.type [c 0] = some (y 0) ∧ DataW.trod enc P w base spare held n f1.type [c 1] = some (y 1) ∧ DataW.trod enc P w base spare held n f2.type [c 2] = some (y 2) ∧ DataW.trod enc P w base spare held n f3.type [c 3] = some (y 3) ∧ DataW.trod enc P w base spare held n f4.type [c 4] = some (y 4) := by
  obtain ⟨⟨l⟩, rfl, hsz⟩ := okWide_struct hs hv
  match l, hsz.trans hC with
  | [c0, c1, c2, c3, c4], _ =>
    obtain ⟨fuel, hf⟩ := h
    obtain ⟨xs, n, _, _, _, hlen, hg⟩ := DataW.trod_struct hs hf
    have o : ∀ (j : Nat) (f : Field), (#[f0, f1, f2, f3, f4] : Array Field)[j]? = some f → _ := fun j f hj => hone_of hone j f hj
    match xs, hlen with
    | [y0, y1, y2, y3, y4], _ =>
      refine ⟨fun | 0 => c0 | 1 => c1 | 2 => c2 | 3 => c3 | 4 => c4, fun | 0 => y0 | 1 => y1 | 2 => y2 | 3 => y3 | 4 => y4, n, rfl, ?_, ?_, ?_, ?_, ?_⟩
      · obtain ⟨a, b⟩ := o 0 f0 rfl; simpa [Value.cells, a, b] using hg 0 f0 rfl
      · obtain ⟨a, b⟩ := o 1 f1 rfl; simpa [Value.cells, a, b] using hg 1 f1 rfl
      · obtain ⟨a, b⟩ := o 2 f2 rfl; simpa [Value.cells, a, b] using hg 2 f2 rfl
      · obtain ⟨a, b⟩ := o 3 f3 rfl; simpa [Value.cells, a, b] using hg 3 f3 rfl
      · obtain ⟨a, b⟩ := o 4 f4 rfl; simpa [Value.cells, a, b] using hg 4 f4 rfl
end
end Go.Proofs.YtmplokdbbhlomaaGreatDoor
