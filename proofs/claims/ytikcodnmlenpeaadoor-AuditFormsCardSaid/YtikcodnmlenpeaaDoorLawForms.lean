/-
  The law AuditForms returns true, over this seat's translation: its walk.
-/
import Derived.Test.YtikcodnmlenpeaaDoorAwake34
import Derived.Test.YtikcodnmlenpeaaDoorRef34e
namespace Go.Proofs.YtikcodnmlenpeaaDoor
open Go.RowKit

set_option maxRecDepth 100000 in
set_option maxHeartbeats 800000 in
theorem forms_any (ms ss : Int) (x : Ev) (w : World) (hw : WordsAt w) (hw0 : 0 < w.heap.size) (hn : I64 x.n) :
    Calls Tryd.prog 3 #[.int .i64 ms, .int .i64 ss, x.val] w fun e w' => e = .returned (.bool true) ∧ Below w.heap.size w w' := by
  have HW := Lib.hid hw
  have HN := Lib.hid hn
  clear hw hn
  obtain ⟨k, m, a, n, o⟩ := x
  show Calls Tryd.prog 3 #[.int .i64 ms, .int .i64 ss, .agg #[.int .i64 k, .int .i64 m, .int .i64 a, .int .i64 n, .int .i64 o]] w _
  go_enter Tryd.func3, Tryd.ntmps3
  have HK : Hid (∀ w', Below (w.heap.size + 1) (w.alloc (.cells #[.int .i64 k, .int .i64 m, .int .i64 a, .int .i64 n, .int .i64 o] 23)) w' → w'.cell? ⟨w.heap.size, 0, none⟩ = some (.int .i64 k) ∧ w'.cell? ⟨w.heap.size, 1, none⟩ = some (.int .i64 m) ∧ w'.cell? ⟨w.heap.size, 2, none⟩ = some (.int .i64 a) ∧ w'.cell? ⟨w.heap.size, 3, none⟩ = some (.int .i64 n) ∧ w'.cell? ⟨w.heap.size, 4, none⟩ = some (.int .i64 o)) := fun w' hb => by
    have hc := fun o => (hb.cell (p := ⟨w.heap.size, o, none⟩) (by simp)).trans (cell_new _ _ _ o rfl)
    exact ⟨hc 0, hc 1, hc 2, hc 3, hc 4⟩
  have HWA : Hid (∀ w', Below (w.heap.size + 1) (w.alloc (.cells #[.int .i64 k, .int .i64 m, .int .i64 a, .int .i64 n, .int .i64 o] 23)) w' → WordsAt w' ∧ 0 < w'.heap.size) := fun w' hb => by
    have hz := hb.size
    simp at hz
    exact ⟨HW.out.below hw0 (((Below.refl _ _).alloc (Nat.le_refl _) _).trans (hb.mono (by omega))), by omega⟩
  have HT : Hid (∀ W w2, Below (w.heap.size + 1) (w.alloc (.cells #[.int .i64 k, .int .i64 m, .int .i64 a, .int .i64 n, .int .i64 o] 23)) W → Below W.heap.size W w2 → Below (w.heap.size + 1) (w.alloc (.cells #[.int .i64 k, .int .i64 m, .int .i64 a, .int .i64 n, .int .i64 o] 23)) w2) := fun W w2 h1 h2 => by
    have hz := h1.size
    simp at hz
    exact h1.trans (h2.mono (by omega))
  have hb0 : Below (w.heap.size + 1) (w.alloc (.cells #[.int .i64 k, .int .i64 m, .int .i64 a, .int .i64 n, .int .i64 o] 23)) (w.alloc (.cells #[.int .i64 k, .int .i64 m, .int .i64 a, .int .i64 n, .int .i64 o] 23)) := Below.refl _ _
  go_wp2_with fail
  go_region_held3 (fun w' => Below (w.heap.size + 1) (w.alloc (.cells #[.int .i64 k, .int .i64 m, .int .i64 a, .int .i64 n, .int .i64 o] 23)) w' ∧ w'.cell? ⟨w.heap.size, 0, none⟩ = some (.int .i64 k) ∧ w'.cell? ⟨w.heap.size, 1, none⟩ = some (.int .i64 m) ∧ w'.cell? ⟨w.heap.size, 2, none⟩ = some (.int .i64 a) ∧ w'.cell? ⟨w.heap.size, 3, none⟩ = some (.int .i64 n) ∧ w'.cell? ⟨w.heap.size, 4, none⟩ = some (.int .i64 o)) (first | exact ⟨hb2, HK.out _ hb2⟩ | exact ⟨hb0.drew, HK.out _ hb0.drew⟩)
    (first
     | (go_at_call 7; refine (awake_any _ (HWA.out _ (‹Below (w.heap.size + 1) (w.alloc (.cells #[.int .i64 k, .int .i64 m, .int .i64 a, .int .i64 n, .int .i64 o] 23)) _ ∧ _›).1).1 (HWA.out _ (‹Below (w.heap.size + 1) (w.alloc (.cells #[.int .i64 k, .int .i64 m, .int .i64 a, .int .i64 n, .int .i64 o] 23)) _ ∧ _›).1).2).mono ?_; rintro e w2 ⟨rfl, hb⟩; have hb2 := HT.out _ _ (‹Below (w.heap.size + 1) (w.alloc (.cells #[.int .i64 k, .int .i64 m, .int .i64 a, .int .i64 n, .int .i64 o] 23)) _ ∧ _›).1 hb; clear hb)
     | (go_at_call 8; refine (right_any ms ss ⟨k, m, a, n, o⟩ _).mono ?_; rintro e w2 ⟨rfl, hb⟩; have hb2 := HT.out _ _ (‹Below (w.heap.size + 1) (w.alloc (.cells #[.int .i64 k, .int .i64 m, .int .i64 a, .int .i64 n, .int .i64 o] 23)) _ ∧ _›).1 hb; clear hb)
     | (go_at_call 9; refine (refRight_any ms ss ⟨k, m, a, n, o⟩ _).mono ?_; rintro e w2 ⟨rfl, hb⟩; have hb2 := HT.out _ _ (‹Below (w.heap.size + 1) (w.alloc (.cells #[.int .i64 k, .int .i64 m, .int .i64 a, .int .i64 n, .int .i64 o] 23)) _ ∧ _›).1 hb; clear hb)
     | (go_at_call 10; refine (flow_any ⟨k, m, a, n, o⟩ _ HN.out).mono ?_; rintro e w2 ⟨rfl, hb⟩; have hb2 := HT.out _ _ (‹Below (w.heap.size + 1) (w.alloc (.cells #[.int .i64 k, .int .i64 m, .int .i64 a, .int .i64 n, .int .i64 o] 23)) _ ∧ _›).1 hb; clear hb)
     | (go_at_call 11; refine (refflow_any ⟨k, m, a, n, o⟩ _ HN.out).mono ?_; rintro e w2 ⟨rfl, hb⟩; have hb2 := HT.out _ _ (‹Below (w.heap.size + 1) (w.alloc (.cells #[.int .i64 k, .int .i64 m, .int .i64 a, .int .i64 n, .int .i64 o] 23)) _ ∧ _›).1 hb; clear hb))
  have HB2 := Lib.hid hb2
  clear hb2 hb0
  go_wp2
  go_ret
  exact ⟨rfl, ((Below.refl _ _).alloc (Nat.le_refl _) _).trans (HB2.out.mono (by omega))⟩
end Go.Proofs.YtikcodnmlenpeaaDoor
