/-
  What complineref34.Right comes to, kind by kind, over this seat's translation.
-/
import Derived.Test.YtikcodnmlenpeaaDoorRef34b
namespace Go.Proofs.YtikcodnmlenpeaaDoor
open Go.RowKit

set_option maxRecDepth 100000 in
set_option maxHeartbeats 4000000 in
theorem refRight1 (ms ss m a n o : Int) (w : World) :
    Calls Tryd.prog 9 #[.int .i64 ms, .int .i64 ss, (Ev.mk 1 m a n o).val] w fun e w' => e = .returned (.bool (rightB ms ss ⟨1, m, a, n, o⟩)) ∧ Below w.heap.size w w' := by
  have hH : ∀ W, Calls Tryd.prog 26 #[.int .i64 1] W fun e w' => e = .returned (.string ⟨#[110, 111]⟩) ∧ Below W.heap.size W w' := fun W => refHas_any 1 W
  have f1 : inS ⟨#[110, 111]⟩ 109 = false := by decide
  have f2 : inS ⟨#[110, 111]⟩ 97 = false := by decide
  have f3 : inS ⟨#[110, 111]⟩ 110 = true := by decide
  have f4 : inS ⟨#[110, 111]⟩ 111 = true := by decide
  have HH := Lib.hid hH
  clear hH
  unfold Ev.val
  go_enter Tryd.func9, Tryd.ntmps9
  go_wp2_with (first | (go_at_call 26; refine (HH.out _).mono ?_; rintro e w1 ⟨rfl, hb1⟩; obtain ⟨hc1, _⟩ := bcells hb1; have HB := Lib.hid hb1; clear hb1) | (go_at_call 27; refine (refhas_any _ _ _ (by decide)).mono ?_; rintro e w2 ⟨rfl, rfl⟩))
  all_goals
    go_ret
    refine ⟨ret_bool ?_, ((Below.refl _ _).alloc (Nat.le_refl _) _).trans (HB.out.mono (by simp))⟩
    rw [Bool.eq_iff_iff]
    simp_all [rightB, hasI, hasM, hasA, hasN, hasO, partB, amtB, othB] <;> omega

set_option maxRecDepth 100000 in
set_option maxHeartbeats 4000000 in
theorem refRight2 (ms ss m a n o : Int) (w : World) :
    Calls Tryd.prog 9 #[.int .i64 ms, .int .i64 ss, (Ev.mk 2 m a n o).val] w fun e w' => e = .returned (.bool (rightB ms ss ⟨2, m, a, n, o⟩)) ∧ Below w.heap.size w w' := by
  have hH : ∀ W, Calls Tryd.prog 26 #[.int .i64 2] W fun e w' => e = .returned (.string ⟨#[110]⟩) ∧ Below W.heap.size W w' := fun W => refHas_any 2 W
  have f1 : inS ⟨#[110]⟩ 109 = false := by decide
  have f2 : inS ⟨#[110]⟩ 97 = false := by decide
  have f3 : inS ⟨#[110]⟩ 110 = true := by decide
  have f4 : inS ⟨#[110]⟩ 111 = false := by decide
  have HH := Lib.hid hH
  clear hH
  unfold Ev.val
  go_enter Tryd.func9, Tryd.ntmps9
  go_wp2_with (first | (go_at_call 26; refine (HH.out _).mono ?_; rintro e w1 ⟨rfl, hb1⟩; obtain ⟨hc1, _⟩ := bcells hb1; have HB := Lib.hid hb1; clear hb1) | (go_at_call 27; refine (refhas_any _ _ _ (by decide)).mono ?_; rintro e w2 ⟨rfl, rfl⟩))
  all_goals
    go_ret
    refine ⟨ret_bool ?_, ((Below.refl _ _).alloc (Nat.le_refl _) _).trans (HB.out.mono (by simp))⟩
    rw [Bool.eq_iff_iff]
    simp_all [rightB, hasI, hasM, hasA, hasN, hasO, partB, amtB] <;> omega

set_option maxRecDepth 100000 in
set_option maxHeartbeats 4000000 in
theorem refRight3 (ms ss m a n o : Int) (w : World) :
    Calls Tryd.prog 9 #[.int .i64 ms, .int .i64 ss, (Ev.mk 3 m a n o).val] w fun e w' => e = .returned (.bool (rightB ms ss ⟨3, m, a, n, o⟩)) ∧ Below w.heap.size w w' := by
  have hH : ∀ W, Calls Tryd.prog 26 #[.int .i64 3] W fun e w' => e = .returned (.string ⟨#[110]⟩) ∧ Below W.heap.size W w' := fun W => refHas_any 3 W
  have f1 : inS ⟨#[110]⟩ 109 = false := by decide
  have f2 : inS ⟨#[110]⟩ 97 = false := by decide
  have f3 : inS ⟨#[110]⟩ 110 = true := by decide
  have f4 : inS ⟨#[110]⟩ 111 = false := by decide
  have HH := Lib.hid hH
  clear hH
  unfold Ev.val
  go_enter Tryd.func9, Tryd.ntmps9
  go_wp2_with (first | (go_at_call 26; refine (HH.out _).mono ?_; rintro e w1 ⟨rfl, hb1⟩; obtain ⟨hc1, _⟩ := bcells hb1; have HB := Lib.hid hb1; clear hb1) | (go_at_call 27; refine (refhas_any _ _ _ (by decide)).mono ?_; rintro e w2 ⟨rfl, rfl⟩))
  all_goals
    go_ret
    refine ⟨ret_bool ?_, ((Below.refl _ _).alloc (Nat.le_refl _) _).trans (HB.out.mono (by simp))⟩
    rw [Bool.eq_iff_iff]
    simp_all [rightB, hasI, hasM, hasA, hasN, hasO, partB, amtB] <;> omega

set_option maxRecDepth 100000 in
set_option maxHeartbeats 4000000 in
theorem refRight4 (ms ss m a n o : Int) (w : World) :
    Calls Tryd.prog 9 #[.int .i64 ms, .int .i64 ss, (Ev.mk 4 m a n o).val] w fun e w' => e = .returned (.bool (rightB ms ss ⟨4, m, a, n, o⟩)) ∧ Below w.heap.size w w' := by
  have hH : ∀ W, Calls Tryd.prog 26 #[.int .i64 4] W fun e w' => e = .returned (.string ⟨#[109, 97, 110]⟩) ∧ Below W.heap.size W w' := fun W => refHas_any 4 W
  have f1 : inS ⟨#[109, 97, 110]⟩ 109 = true := by decide
  have f2 : inS ⟨#[109, 97, 110]⟩ 97 = true := by decide
  have f3 : inS ⟨#[109, 97, 110]⟩ 110 = true := by decide
  have f4 : inS ⟨#[109, 97, 110]⟩ 111 = false := by decide
  have HH := Lib.hid hH
  clear hH
  unfold Ev.val
  go_enter Tryd.func9, Tryd.ntmps9
  go_wp2_with (first | (go_at_call 26; refine (HH.out _).mono ?_; rintro e w1 ⟨rfl, hb1⟩; obtain ⟨hc1, _⟩ := bcells hb1; have HB := Lib.hid hb1; clear hb1) | (go_at_call 27; refine (refhas_any _ _ _ (by decide)).mono ?_; rintro e w2 ⟨rfl, rfl⟩))
  all_goals
    go_ret
    refine ⟨ret_bool ?_, ((Below.refl _ _).alloc (Nat.le_refl _) _).trans (HB.out.mono (by simp))⟩
    rw [Bool.eq_iff_iff]
    simp_all [rightB, hasI, hasM, hasA, hasN, hasO, partB, memB, assB, amtB] <;> omega

set_option maxRecDepth 100000 in
set_option maxHeartbeats 4000000 in
theorem refRight5 (ms ss m a n o : Int) (w : World) :
    Calls Tryd.prog 9 #[.int .i64 ms, .int .i64 ss, (Ev.mk 5 m a n o).val] w fun e w' => e = .returned (.bool (rightB ms ss ⟨5, m, a, n, o⟩)) ∧ Below w.heap.size w w' := by
  have hH : ∀ W, Calls Tryd.prog 26 #[.int .i64 5] W fun e w' => e = .returned (.string ⟨#[109, 97, 110]⟩) ∧ Below W.heap.size W w' := fun W => refHas_any 5 W
  have f1 : inS ⟨#[109, 97, 110]⟩ 109 = true := by decide
  have f2 : inS ⟨#[109, 97, 110]⟩ 97 = true := by decide
  have f3 : inS ⟨#[109, 97, 110]⟩ 110 = true := by decide
  have f4 : inS ⟨#[109, 97, 110]⟩ 111 = false := by decide
  have HH := Lib.hid hH
  clear hH
  unfold Ev.val
  go_enter Tryd.func9, Tryd.ntmps9
  go_wp2_with (first | (go_at_call 26; refine (HH.out _).mono ?_; rintro e w1 ⟨rfl, hb1⟩; obtain ⟨hc1, _⟩ := bcells hb1; have HB := Lib.hid hb1; clear hb1) | (go_at_call 27; refine (refhas_any _ _ _ (by decide)).mono ?_; rintro e w2 ⟨rfl, rfl⟩))
  all_goals
    go_ret
    refine ⟨ret_bool ?_, ((Below.refl _ _).alloc (Nat.le_refl _) _).trans (HB.out.mono (by simp))⟩
    rw [Bool.eq_iff_iff]
    simp_all [rightB, hasI, hasM, hasA, hasN, hasO, partB, memB, assB, amtB] <;> omega

set_option maxRecDepth 100000 in
set_option maxHeartbeats 4000000 in
theorem refRight6 (ms ss m a n o : Int) (w : World) :
    Calls Tryd.prog 9 #[.int .i64 ms, .int .i64 ss, (Ev.mk 6 m a n o).val] w fun e w' => e = .returned (.bool (rightB ms ss ⟨6, m, a, n, o⟩)) ∧ Below w.heap.size w w' := by
  have hH : ∀ W, Calls Tryd.prog 26 #[.int .i64 6] W fun e w' => e = .returned (.string ⟨#[109, 97, 110]⟩) ∧ Below W.heap.size W w' := fun W => refHas_any 6 W
  have f1 : inS ⟨#[109, 97, 110]⟩ 109 = true := by decide
  have f2 : inS ⟨#[109, 97, 110]⟩ 97 = true := by decide
  have f3 : inS ⟨#[109, 97, 110]⟩ 110 = true := by decide
  have f4 : inS ⟨#[109, 97, 110]⟩ 111 = false := by decide
  have HH := Lib.hid hH
  clear hH
  unfold Ev.val
  go_enter Tryd.func9, Tryd.ntmps9
  go_wp2_with (first | (go_at_call 26; refine (HH.out _).mono ?_; rintro e w1 ⟨rfl, hb1⟩; obtain ⟨hc1, _⟩ := bcells hb1; have HB := Lib.hid hb1; clear hb1) | (go_at_call 27; refine (refhas_any _ _ _ (by decide)).mono ?_; rintro e w2 ⟨rfl, rfl⟩))
  all_goals
    go_ret
    refine ⟨ret_bool ?_, ((Below.refl _ _).alloc (Nat.le_refl _) _).trans (HB.out.mono (by simp))⟩
    rw [Bool.eq_iff_iff]
    simp_all [rightB, hasI, hasM, hasA, hasN, hasO, partB, memB, assB, amtB] <;> omega

set_option maxRecDepth 100000 in
set_option maxHeartbeats 4000000 in
theorem refRight7 (ms ss m a n o : Int) (w : World) :
    Calls Tryd.prog 9 #[.int .i64 ms, .int .i64 ss, (Ev.mk 7 m a n o).val] w fun e w' => e = .returned (.bool (rightB ms ss ⟨7, m, a, n, o⟩)) ∧ Below w.heap.size w w' := by
  have hH : ∀ W, Calls Tryd.prog 26 #[.int .i64 7] W fun e w' => e = .returned (.string ⟨#[109, 111]⟩) ∧ Below W.heap.size W w' := fun W => refHas_any 7 W
  have f1 : inS ⟨#[109, 111]⟩ 109 = true := by decide
  have f2 : inS ⟨#[109, 111]⟩ 97 = false := by decide
  have f3 : inS ⟨#[109, 111]⟩ 110 = false := by decide
  have f4 : inS ⟨#[109, 111]⟩ 111 = true := by decide
  have HH := Lib.hid hH
  clear hH
  unfold Ev.val
  go_enter Tryd.func9, Tryd.ntmps9
  go_wp2_with (first | (go_at_call 26; refine (HH.out _).mono ?_; rintro e w1 ⟨rfl, hb1⟩; obtain ⟨hc1, _⟩ := bcells hb1; have HB := Lib.hid hb1; clear hb1) | (go_at_call 27; refine (refhas_any _ _ _ (by decide)).mono ?_; rintro e w2 ⟨rfl, rfl⟩))
  all_goals
    go_ret
    refine ⟨ret_bool ?_, ((Below.refl _ _).alloc (Nat.le_refl _) _).trans (HB.out.mono (by simp))⟩
    rw [Bool.eq_iff_iff]
    simp_all [rightB, hasI, hasM, hasA, hasN, hasO, partB, memB, othB] <;> omega

set_option maxRecDepth 100000 in
set_option maxHeartbeats 4000000 in
theorem refRight8 (ms ss m a n o : Int) (w : World) :
    Calls Tryd.prog 9 #[.int .i64 ms, .int .i64 ss, (Ev.mk 8 m a n o).val] w fun e w' => e = .returned (.bool (rightB ms ss ⟨8, m, a, n, o⟩)) ∧ Below w.heap.size w w' := by
  have hH : ∀ W, Calls Tryd.prog 26 #[.int .i64 8] W fun e w' => e = .returned (.string ⟨#[109]⟩) ∧ Below W.heap.size W w' := fun W => refHas_any 8 W
  have f1 : inS ⟨#[109]⟩ 109 = true := by decide
  have f2 : inS ⟨#[109]⟩ 97 = false := by decide
  have f3 : inS ⟨#[109]⟩ 110 = false := by decide
  have f4 : inS ⟨#[109]⟩ 111 = false := by decide
  have HH := Lib.hid hH
  clear hH
  unfold Ev.val
  go_enter Tryd.func9, Tryd.ntmps9
  go_wp2_with (first | (go_at_call 26; refine (HH.out _).mono ?_; rintro e w1 ⟨rfl, hb1⟩; obtain ⟨hc1, _⟩ := bcells hb1; have HB := Lib.hid hb1; clear hb1) | (go_at_call 27; refine (refhas_any _ _ _ (by decide)).mono ?_; rintro e w2 ⟨rfl, rfl⟩))
  all_goals
    go_ret
    refine ⟨ret_bool ?_, ((Below.refl _ _).alloc (Nat.le_refl _) _).trans (HB.out.mono (by simp))⟩
    rw [Bool.eq_iff_iff]
    simp_all [rightB, hasI, hasM, hasA, hasN, hasO, partB, memB] <;> omega

set_option maxRecDepth 100000 in
set_option maxHeartbeats 4000000 in
theorem refRight9 (ms ss m a n o : Int) (w : World) :
    Calls Tryd.prog 9 #[.int .i64 ms, .int .i64 ss, (Ev.mk 9 m a n o).val] w fun e w' => e = .returned (.bool (rightB ms ss ⟨9, m, a, n, o⟩)) ∧ Below w.heap.size w w' := by
  have hH : ∀ W, Calls Tryd.prog 26 #[.int .i64 9] W fun e w' => e = .returned (.string ⟨#[109, 97, 110]⟩) ∧ Below W.heap.size W w' := fun W => refHas_any 9 W
  have f1 : inS ⟨#[109, 97, 110]⟩ 109 = true := by decide
  have f2 : inS ⟨#[109, 97, 110]⟩ 97 = true := by decide
  have f3 : inS ⟨#[109, 97, 110]⟩ 110 = true := by decide
  have f4 : inS ⟨#[109, 97, 110]⟩ 111 = false := by decide
  have HH := Lib.hid hH
  clear hH
  unfold Ev.val
  go_enter Tryd.func9, Tryd.ntmps9
  go_wp2_with (first | (go_at_call 26; refine (HH.out _).mono ?_; rintro e w1 ⟨rfl, hb1⟩; obtain ⟨hc1, _⟩ := bcells hb1; have HB := Lib.hid hb1; clear hb1) | (go_at_call 27; refine (refhas_any _ _ _ (by decide)).mono ?_; rintro e w2 ⟨rfl, rfl⟩))
  all_goals
    go_ret
    refine ⟨ret_bool ?_, ((Below.refl _ _).alloc (Nat.le_refl _) _).trans (HB.out.mono (by simp))⟩
    rw [Bool.eq_iff_iff]
    simp_all [rightB, hasI, hasM, hasA, hasN, hasO, partB, memB, assB, amtB] <;> omega
end Go.Proofs.YtikcodnmlenpeaaDoor
