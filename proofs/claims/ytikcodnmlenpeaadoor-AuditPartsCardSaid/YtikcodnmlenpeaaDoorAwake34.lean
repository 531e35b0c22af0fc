/-
  The page's example of layer 34 holds, over this seat's translation: a contract for callers.
-/
import Derived.Test.YtikcodnmlenpeaaDoorAudit5
namespace Go.Proofs.YtikcodnmlenpeaaDoor
open Go.RowKit

set_option maxHeartbeats 400000 in
theorem follows_shut (to : Int) (w : World) :
    Calls Tryd.prog 36 #[.int .i64 0, .int .i64 to] w fun e w' => e = .returned (.bool (to == 1)) ∧ w = w' := by
  go_enter Tryd.func36, Tryd.ntmps36
  go_wp2
  go_ret
  exact ⟨rfl, rfl⟩

def exL : List Ev := [⟨1, 0, 0, 1, 0⟩, ⟨5, 1, 0, 5, 0⟩, ⟨13, 1, 0, 6, 0⟩]
def exH : Nat → List Int | 0 => [0, 0] | 1 => [0, 0] | _ => [5, 0]
def exP : Nat → Int | 0 => 0 | _ => 1
def exY : Nat → Int | 2 => 2 | _ => 0
/-- What lies behind the example's steps. -/
def exInv (w : World) (k : Nat) (W : World) : Prop := StAt W (w.heap.size + 1 + 1) w.heap.size (w.heap.size + 1) (exH k) (exP k) ∧ Below w.heap.size w W

theorem ex_steps (w : World) (hw : WordsAt w) (hw0 : 0 < w.heap.size) : Steps34 exL 2 1 w.heap.size 2 exY (exInv w) := by
  refine ⟨?_, ?_, ?_, ?_, by decide⟩
  · intro k hk hu W hI
    obtain ⟨hS, hB⟩ := hI
    have hz := lt_of_blk hS.s
    have h3 : k = 0 ∨ k = 1 ∨ k = 2 := by omega
    rcases h3 with rfl | rfl | rfl
    · refine (wrong_phase 2 1 ⟨1, 0, 0, 1, 0⟩ _ _ _ _ _ 0 W hS (by decide) rfl (by decide) (by decide) (by decide) (by decide) rfl (by decide) (by decide) ?_ (by omega) (by omega) (by omega) ?_ (by omega)).mono ?_
      · intro n hn
        obtain ⟨s, h1, h2⟩ := hw n hn
        exact ⟨s, (hB.cell (p := ⟨_, n, none⟩) hw0).trans h1, h2⟩
      · intro W' _
        exact (follows_shut 1 W').mono fun e w' ⟨h1, h2⟩ => ⟨h1, h2 ▸ Below.refl _ _⟩
      · rintro e w' ⟨rfl, h1, h2, h3⟩
        have hb := h2 w.heap.size (by omega) (Nat.le_refl _) (by omega)
        exact ⟨rfl, hb, fun _ => ⟨h1, hB.trans hb⟩⟩
    · refine (wrong_plain 2 1 ⟨5, 1, 0, 5, 0⟩ _ _ _ _ _ 0 W hS (by decide) rfl (by decide) (by decide) (by decide) (by decide) (by decide) (by decide) (by omega)).mono ?_
      rintro e w' ⟨rfl, h1, h2, h3⟩
      have hb := h2 w.heap.size (by omega) (Nat.le_refl _) (by omega)
      exact ⟨rfl, hb, fun _ => ⟨h1, hB.trans hb⟩⟩
    · refine (wrong_house 2 1 ⟨13, 1, 0, 6, 0⟩ _ _ _ _ _ 0 W hS (by decide) rfl (by decide) (by decide) (by decide) (by decide)).mono ?_
      rintro e w' ⟨rfl, h1⟩
      exact ⟨rfl, h1.mono (by omega), fun h => by cases h⟩
  · intro k W o hI
    have hz := lt_of_blk hI.1.s
    exact ⟨hI.1.below ((Below.refl _ _).alloc (Nat.le_refl _) o), hI.2.alloc (by omega) o⟩
  · intro k hk
    have h3 : k = 0 ∨ k = 1 := by omega
    rcases h3 with rfl | rfl <;> rfl
  · intro _ h
    cases h

theorem WordsAt.below {w w' : World} (h : WordsAt w) (h0 : 0 < w.heap.size) (hb : Below w.heap.size w w') : WordsAt w' := fun n hn => by
  obtain ⟨s, h1, h2⟩ := h n hn
  exact ⟨s, (hb.cell (p := ⟨_, n, none⟩) h0).trans h1, h2⟩
theorem ex_wrong (w : World) (hw : WordsAt w) (hw0 : 0 < w.heap.size) :
    Calls Tryd.prog 12 #[.int .i64 2, .int .i64 1, .slice (some ⟨w.heap.size, 0, none⟩) 3 3] (w.alloc (.cells #[.int .i64 1, .int .i64 0, .int .i64 0, .int .i64 1, .int .i64 0, .int .i64 5, .int .i64 1, .int .i64 0, .int .i64 5, .int .i64 0, .int .i64 13, .int .i64 1, .int .i64 0, .int .i64 6, .int .i64 0] 23)) fun e w' =>
      e = .returned (.tuple #[.int .i64 2, .int .i64 2]) ∧ Below (w.heap.size + 1) (w.alloc (.cells #[.int .i64 1, .int .i64 0, .int .i64 0, .int .i64 1, .int .i64 0, .int .i64 5, .int .i64 1, .int .i64 0, .int .i64 5, .int .i64 0, .int .i64 13, .int .i64 1, .int .i64 0, .int .i64 6, .int .i64 0] 23)) w' := by
  have hb : Below w.heap.size w (w.alloc (.cells #[.int .i64 1, .int .i64 0, .int .i64 0, .int .i64 1, .int .i64 0, .int .i64 5, .int .i64 1, .int .i64 0, .int .i64 5, .int .i64 0, .int .i64 13, .int .i64 1, .int .i64 0, .int .i64 6, .int .i64 0] 23)) := (Below.refl _ _).alloc (Nat.le_refl _) _
  refine (wrong_list exL 2 1 (by omega) (some ⟨w.heap.size, 0, none⟩) 3 _ ?_ (by decide) 2 exY _ (ex_steps _ (hw.below hw0 hb) (by simp)) ?_).mono ?_
  · intro j u hu
    refine ⟨w.heap.size, 0, rfl, by simp, ?_⟩
    rw [cell_new _ _ _ _ rfl, Nat.zero_add, ← Array.getElem?_toList]
    exact hu
  · intro W h1 _ h2
    exact ⟨h1, h2⟩
  · rintro e w' ⟨rfl, h⟩
    exact ⟨rfl, h.mono (by simp)⟩

set_option maxRecDepth 100000 in
set_option maxHeartbeats 800000 in
theorem awake_any (w : World) (hw : WordsAt w) (hw0 : 0 < w.heap.size) :
    Calls Tryd.prog 7 #[] w fun e w' => e = .returned (.bool true) ∧ Below w.heap.size w w' := by
  have HW := Lib.hid hw
  clear hw
  go_enter Tryd.func7, Tryd.ntmps7
  have f2 : (flowI ⟨13, 1, 0, 6, 0⟩ == -6) = true := by decide
  have r1 : rightB 2 1 ⟨5, 1, 0, 5, 0⟩ = true := by decide
  go_wp2_with (first | (go_at_call 12; refine (ex_wrong w HW.out hw0).mono ?_; rintro e w1 ⟨rfl, hb1⟩; have HB1 := Lib.hid hb1; have hc1 := fun o => (hb1.cell (p := ⟨w.heap.size, o, none⟩) (by simp)).trans (cell_new _ _ _ o rfl); have hz1 := hb1.size; clear hb1) | (go_at_call 8; refine (right_any 2 1 ⟨5, 1, 0, 5, 0⟩ _).mono ?_; rintro e w2 ⟨rfl, hb2⟩; have HB2 := Lib.hid hb2; have hc2 := fun o => (hb2.cell (p := ⟨w.heap.size, o, none⟩) (by simp at hz1; simp; omega)).trans (hc1 o); have hz2 := hb2.size; clear hb2) | (go_at_call 10; refine (flow_any ⟨13, 1, 0, 6, 0⟩ _ (by decide)).mono ?_; rintro e w3 ⟨rfl, hb3⟩; have HB3 := Lib.hid hb3; clear hb3))
  go_ret
  simp at hz1
  exact ⟨rfl, (((Below.refl _ _).alloc (Nat.le_refl _) _).trans (HB1.out.mono (by omega))).trans ((HB2.out.mono (by omega)).trans (HB3.out.mono (by omega)))⟩
end Go.Proofs.YtikcodnmlenpeaaDoor
