/-
  What complineref34.Right comes to, over this seat's translation: a contract for callers.
-/
import Derived.Test.YtikcodnmlenpeaaDoorRef34c
import Derived.Test.YtikcodnmlenpeaaDoorRef34d
namespace Go.Proofs.YtikcodnmlenpeaaDoor
open Go.RowKit

theorem hasS_none {k : Int} (h : k ≤ 0 ∨ 20 ≤ k) : hasS k = ⟨#[63]⟩ := by
  unfold hasS
  repeat rw [if_neg (by omega)]
theorem right_none {ms ss k m a n o : Int} (h : k ≤ 0 ∨ 20 ≤ k) : false = rightB ms ss ⟨k, m, a, n, o⟩ := by
  unfold rightB hasI
  rw [decide_eq_false (by simp; omega)]
  rfl
set_option maxRecDepth 100000 in
set_option maxHeartbeats 4000000 in
theorem refRightN (ms ss k m a n o : Int) (w : World) (h : k ≤ 0 ∨ 20 ≤ k) :
    Calls Tryd.prog 9 #[.int .i64 ms, .int .i64 ss, (Ev.mk k m a n o).val] w fun e w' => e = .returned (.bool (rightB ms ss ⟨k, m, a, n, o⟩)) ∧ Below w.heap.size w w' := by
  have hH : ∀ W, Calls Tryd.prog 26 #[.int .i64 k] W fun e w' => e = .returned (.string ⟨#[63]⟩) ∧ Below W.heap.size W w' := fun W => by
    have := refHas_any k W
    rw [hasS_none h] at this
    exact this
  have HN := Lib.hid (right_none (ms := ms) (ss := ss) (m := m) (a := a) (n := n) (o := o) h)
  have HH := Lib.hid hH
  clear hH h
  unfold Ev.val
  go_enter Tryd.func9, Tryd.ntmps9
  go_wp2_with (go_at_call 26; refine (HH.out _).mono ?_; rintro e w1 ⟨rfl, hb1⟩; obtain ⟨hc1, _⟩ := bcells hb1; have HB := Lib.hid hb1; clear hb1)
  go_ret
  exact ⟨ret_bool HN.out, ((Below.refl _ _).alloc (Nat.le_refl _) _).trans (HB.out.mono (by simp))⟩

theorem refRight_any (ms ss : Int) (x : Ev) (w : World) :
    Calls Tryd.prog 9 #[.int .i64 ms, .int .i64 ss, x.val] w fun e w' => e = .returned (.bool (rightB ms ss x)) ∧ Below w.heap.size w w' := by
  obtain ⟨k, m, a, n, o⟩ := x
  rcases kinds k with h | h | h | h
  · exact refRightN ms ss k m a n o w (.inl h)
  · exact refRightN ms ss k m a n o w (.inr h)
  · rcases h with rfl | rfl | rfl | rfl | rfl | rfl | rfl | rfl | rfl | rfl
    · exact refRight1 ms ss m a n o w
    · exact refRight2 ms ss m a n o w
    · exact refRight3 ms ss m a n o w
    · exact refRight4 ms ss m a n o w
    · exact refRight5 ms ss m a n o w
    · exact refRight6 ms ss m a n o w
    · exact refRight7 ms ss m a n o w
    · exact refRight8 ms ss m a n o w
    · exact refRight9 ms ss m a n o w
    · exact refRight10 ms ss m a n o w
  · rcases h with rfl | rfl | rfl | rfl | rfl | rfl | rfl | rfl | rfl
    · exact refRight11 ms ss m a n o w
    · exact refRight12 ms ss m a n o w
    · exact refRight13 ms ss m a n o w
    · exact refRight14 ms ss m a n o w
    · exact refRight15 ms ss m a n o w
    · exact refRight16 ms ss m a n o w
    · exact refRight17 ms ss m a n o w
    · exact refRight18 ms ss m a n o w
    · exact refRight19 ms ss m a n o w
end Go.Proofs.YtikcodnmlenpeaaDoor
