/-
  What complineref34.Right comes to, kind by kind, over this seat's translation.
-/
import Derived.Test.YtikcodnmlenpeaaDoorRef34b
namespace Go.Proofs.YtikcodnmlenpeaaDoor
open Go.RowKit

set_option maxRecDepth 100000 in
set_option maxHeartbeats 4000000 in
theorem refRight10 (ms ss m a n o : Int) (w : World) :
    Calls Tryd.prog 9 #[.int .i64 ms, .int .i64 ss, (Ev.mk 10 m a n o).val] w fun e w' => e = .returned (.bool (rightB ms ss ⟨10, m, a, n, o⟩)) ∧ Below w.heap.size w w' := by
  have hH : ∀ W, Calls Tryd.prog 26 #[.int .i64 10] W fun e w' => e = .returned (.string ⟨#[109, 110, 111]⟩) ∧ Below W.heap.size W w' := fun W => refHas_any 10 W
  have f1 : inS ⟨#[109, 110, 111]⟩ 109 = true := by decide
  have f2 : inS ⟨#[109, 110, 111]⟩ 97 = false := by decide
  have f3 : inS ⟨#[109, 110, 111]⟩ 110 = true := by decide
  have f4 : inS ⟨#[109, 110, 111]⟩ 111 = true := by decide
  have HH := Lib.hid hH
  clear hH
  unfold Ev.val
  go_enter Tryd.func9, Tryd.ntmps9
  go_wp2_with (first | (go_at_call 26; refine (HH.out _).mono ?_; rintro e w1 ⟨rfl, hb1⟩; obtain ⟨hc1, _⟩ := bcells hb1; have HB := Lib.hid hb1; clear hb1) | (go_at_call 27; refine (refhas_any _ _ _ (by decide)).mono ?_; rintro e w2 ⟨rfl, rfl⟩))
  all_goals
    go_ret
    refine ⟨ret_bool ?_, ((Below.refl _ _).alloc (Nat.le_refl _) _).trans (HB.out.mono (by simp))⟩
    rw [Bool.eq_iff_iff]
    simp_all [rightB, hasI, hasM, hasA, hasN, hasO, partB, memB, amtB, othB] <;> omega

set_option maxRecDepth 100000 in
set_option maxHeartbeats 4000000 in
theorem refRight11 (ms ss m a n o : Int) (w : World) :
    Calls Tryd.prog 9 #[.int .i64 ms, .int .i64 ss, (Ev.mk 11 m a n o).val] w fun e w' => e = .returned (.bool (rightB ms ss ⟨11, m, a, n, o⟩)) ∧ Below w.heap.size w w' := by
  have hH : ∀ W, Calls Tryd.prog 26 #[.int .i64 11] W fun e w' => e = .returned (.string ⟨#[109, 97, 110, 111]⟩) ∧ Below W.heap.size W w' := fun W => refHas_any 11 W
  have f1 : inS ⟨#[109, 97, 110, 111]⟩ 109 = true := by decide
  have f2 : inS ⟨#[109, 97, 110, 111]⟩ 97 = true := by decide
  have f3 : inS ⟨#[109, 97, 110, 111]⟩ 110 = true := by decide
  have f4 : inS ⟨#[109, 97, 110, 111]⟩ 111 = true := by decide
  have HH := Lib.hid hH
  clear hH
  unfold Ev.val
  go_enter Tryd.func9, Tryd.ntmps9
  go_wp2_with (first | (go_at_call 26; refine (HH.out _).mono ?_; rintro e w1 ⟨rfl, hb1⟩; obtain ⟨hc1, _⟩ := bcells hb1; have HB := Lib.hid hb1; clear hb1) | (go_at_call 27; refine (refhas_any _ _ _ (by decide)).mono ?_; rintro e w2 ⟨rfl, rfl⟩))
  all_goals
    go_ret
    refine ⟨ret_bool ?_, ((Below.refl _ _).alloc (Nat.le_refl _) _).trans (HB.out.mono (by simp))⟩
    rw [Bool.eq_iff_iff]
    simp_all [rightB, hasI, hasM, hasA, hasN, hasO, partB, memB, assB, amtB, othB] <;> omega

set_option maxRecDepth 100000 in
set_option maxHeartbeats 4000000 in
theorem refRight12 (ms ss m a n o : Int) (w : World) :
    Calls Tryd.prog 9 #[.int .i64 ms, .int .i64 ss, (Ev.mk 12 m a n o).val] w fun e w' => e = .returned (.bool (rightB ms ss ⟨12, m, a, n, o⟩)) ∧ Below w.heap.size w w' := by
  have hH : ∀ W, Calls Tryd.prog 26 #[.int .i64 12] W fun e w' => e = .returned (.string ⟨#[109, 97, 110, 111]⟩) ∧ Below W.heap.size W w' := fun W => refHas_any 12 W
  have f1 : inS ⟨#[109, 97, 110, 111]⟩ 109 = true := by decide
  have f2 : inS ⟨#[109, 97, 110, 111]⟩ 97 = true := by decide
  have f3 : inS ⟨#[109, 97, 110, 111]⟩ 110 = true := by decide
  have f4 : inS ⟨#[109, 97, 110, 111]⟩ 111 = true := by decide
  have HH := Lib.hid hH
  clear hH
  unfold Ev.val
  go_enter Tryd.func9, Tryd.ntmps9
  go_wp2_with (first | (go_at_call 26; refine (HH.out _).mono ?_; rintro e w1 ⟨rfl, hb1⟩; obtain ⟨hc1, _⟩ := bcells hb1; have HB := Lib.hid hb1; clear hb1) | (go_at_call 27; refine (refhas_any _ _ _ (by decide)).mono ?_; rintro e w2 ⟨rfl, rfl⟩))
  all_goals
    go_ret
    refine ⟨ret_bool ?_, ((Below.refl _ _).alloc (Nat.le_refl _) _).trans (HB.out.mono (by simp))⟩
    rw [Bool.eq_iff_iff]
    simp_all [rightB, hasI, hasM, hasA, hasN, hasO, partB, memB, assB, amtB, othB] <;> omega

set_option maxRecDepth 100000 in
set_option maxHeartbeats 4000000 in
theorem refRight13 (ms ss m a n o : Int) (w : World) :
    Calls Tryd.prog 9 #[.int .i64 ms, .int .i64 ss, (Ev.mk 13 m a n o).val] w fun e w' => e = .returned (.bool (rightB ms ss ⟨13, m, a, n, o⟩)) ∧ Below w.heap.size w w' := by
  have hH : ∀ W, Calls Tryd.prog 26 #[.int .i64 13] W fun e w' => e = .returned (.string ⟨#[109, 97, 110]⟩) ∧ Below W.heap.size W w' := fun W => refHas_any 13 W
  have f1 : inS ⟨#[109, 97, 110]⟩ 109 = true := by decide
  have f2 : inS ⟨#[109, 97, 110]⟩ 97 = true := by decide
  have f3 : inS ⟨#[109, 97, 110]⟩ 110 = true := by decide
  have f4 : inS ⟨#[109, 97, 110]⟩ 111 = false := by decide
  have HH := Lib.hid hH
  clear hH
  unfold Ev.val
  go_enter Tryd.func9, Tryd.ntmps9
  go_wp2_with (first | (go_at_call 26; refine (HH.out _).mono ?_; rintro e w1 ⟨rfl, hb1⟩; obtain ⟨hc1, _⟩ := bcells hb1; have HB := Lib.hid hb1; clear hb1) | (go_at_call 27; refine (refhas_any _ _ _ (by decide)).mono ?_; rintro e w2 ⟨rfl, rfl⟩))
  all_goals
    go_ret
    refine ⟨ret_bool ?_, ((Below.refl _ _).alloc (Nat.le_refl _) _).trans (HB.out.mono (by simp))⟩
    rw [Bool.eq_iff_iff]
    simp_all [rightB, hasI, hasM, hasA, hasN, hasO, partB, memB, assB, amtB] <;> omega

set_option maxRecDepth 100000 in
set_option maxHeartbeats 4000000 in
theorem refRight14 (ms ss m a n o : Int) (w : World) :
    Calls Tryd.prog 9 #[.int .i64 ms, .int .i64 ss, (Ev.mk 14 m a n o).val] w fun e w' => e = .returned (.bool (rightB ms ss ⟨14, m, a, n, o⟩)) ∧ Below w.heap.size w w' := by
  have hH : ∀ W, Calls Tryd.prog 26 #[.int .i64 14] W fun e w' => e = .returned (.string ⟨#[109, 97, 110]⟩) ∧ Below W.heap.size W w' := fun W => refHas_any 14 W
  have f1 : inS ⟨#[109, 97, 110]⟩ 109 = true := by decide
  have f2 : inS ⟨#[109, 97, 110]⟩ 97 = true := by decide
  have f3 : inS ⟨#[109, 97, 110]⟩ 110 = true := by decide
  have f4 : inS ⟨#[109, 97, 110]⟩ 111 = false := by decide
  have HH := Lib.hid hH
  clear hH
  unfold Ev.val
  go_enter Tryd.func9, Tryd.ntmps9
  go_wp2_with (first | (go_at_call 26; refine (HH.out _).mono ?_; rintro e w1 ⟨rfl, hb1⟩; obtain ⟨hc1, _⟩ := bcells hb1; have HB := Lib.hid hb1; clear hb1) | (go_at_call 27; refine (refhas_any _ _ _ (by decide)).mono ?_; rintro e w2 ⟨rfl, rfl⟩))
  all_goals
    go_ret
    refine ⟨ret_bool ?_, ((Below.refl _ _).alloc (Nat.le_refl _) _).trans (HB.out.mono (by simp))⟩
    rw [Bool.eq_iff_iff]
    simp_all [rightB, hasI, hasM, hasA, hasN, hasO, partB, memB, assB, amtB] <;> omega

set_option maxRecDepth 100000 in
set_option maxHeartbeats 4000000 in
theorem refRight15 (ms ss m a n o : Int) (w : World) :
    Calls Tryd.prog 9 #[.int .i64 ms, .int .i64 ss, (Ev.mk 15 m a n o).val] w fun e w' => e = .returned (.bool (rightB ms ss ⟨15, m, a, n, o⟩)) ∧ Below w.heap.size w w' := by
  have hH : ∀ W, Calls Tryd.prog 26 #[.int .i64 15] W fun e w' => e = .returned (.string ⟨#[109, 110]⟩) ∧ Below W.heap.size W w' := fun W => refHas_any 15 W
  have f1 : inS ⟨#[109, 110]⟩ 109 = true := by decide
  have f2 : inS ⟨#[109, 110]⟩ 97 = false := by decide
  have f3 : inS ⟨#[109, 110]⟩ 110 = true := by decide
  have f4 : inS ⟨#[109, 110]⟩ 111 = false := by decide
  have HH := Lib.hid hH
  clear hH
  unfold Ev.val
  go_enter Tryd.func9, Tryd.ntmps9
  go_wp2_with (first | (go_at_call 26; refine (HH.out _).mono ?_; rintro e w1 ⟨rfl, hb1⟩; obtain ⟨hc1, _⟩ := bcells hb1; have HB := Lib.hid hb1; clear hb1) | (go_at_call 27; refine (refhas_any _ _ _ (by decide)).mono ?_; rintro e w2 ⟨rfl, rfl⟩))
  all_goals
    go_ret
    refine ⟨ret_bool ?_, ((Below.refl _ _).alloc (Nat.le_refl _) _).trans (HB.out.mono (by simp))⟩
    rw [Bool.eq_iff_iff]
    simp_all [rightB, hasI, hasM, hasA, hasN, hasO, partB, memB, amtB] <;> omega

set_option maxRecDepth 100000 in
set_option maxHeartbeats 4000000 in
theorem refRight16 (ms ss m a n o : Int) (w : World) :
    Calls Tryd.prog 9 #[.int .i64 ms, .int .i64 ss, (Ev.mk 16 m a n o).val] w fun e w' => e = .returned (.bool (rightB ms ss ⟨16, m, a, n, o⟩)) ∧ Below w.heap.size w w' := by
  have hH : ∀ W, Calls Tryd.prog 26 #[.int .i64 16] W fun e w' => e = .returned (.string ⟨#[97, 110]⟩) ∧ Below W.heap.size W w' := fun W => refHas_any 16 W
  have f1 : inS ⟨#[97, 110]⟩ 109 = false := by decide
  have f2 : inS ⟨#[97, 110]⟩ 97 = true := by decide
  have f3 : inS ⟨#[97, 110]⟩ 110 = true := by decide
  have f4 : inS ⟨#[97, 110]⟩ 111 = false := by decide
  have HH := Lib.hid hH
  clear hH
  unfold Ev.val
  go_enter Tryd.func9, Tryd.ntmps9
  go_wp2_with (first | (go_at_call 26; refine (HH.out _).mono ?_; rintro e w1 ⟨rfl, hb1⟩; obtain ⟨hc1, _⟩ := bcells hb1; have HB := Lib.hid hb1; clear hb1) | (go_at_call 27; refine (refhas_any _ _ _ (by decide)).mono ?_; rintro e w2 ⟨rfl, rfl⟩))
  all_goals
    go_ret
    refine ⟨ret_bool ?_, ((Below.refl _ _).alloc (Nat.le_refl _) _).trans (HB.out.mono (by simp))⟩
    rw [Bool.eq_iff_iff]
    simp_all [rightB, hasI, hasM, hasA, hasN, hasO, partB, assB, amtB] <;> omega

set_option maxRecDepth 100000 in
set_option maxHeartbeats 4000000 in
theorem refRight17 (ms ss m a n o : Int) (w : World) :
    Calls Tryd.prog 9 #[.int .i64 ms, .int .i64 ss, (Ev.mk 17 m a n o).val] w fun e w' => e = .returned (.bool (rightB ms ss ⟨17, m, a, n, o⟩)) ∧ Below w.heap.size w w' := by
  have hH : ∀ W, Calls Tryd.prog 26 #[.int .i64 17] W fun e w' => e = .returned (.string ⟨#[109, 110]⟩) ∧ Below W.heap.size W w' := fun W => refHas_any 17 W
  have f1 : inS ⟨#[109, 110]⟩ 109 = true := by decide
  have f2 : inS ⟨#[109, 110]⟩ 97 = false := by decide
  have f3 : inS ⟨#[109, 110]⟩ 110 = true := by decide
  have f4 : inS ⟨#[109, 110]⟩ 111 = false := by decide
  have HH := Lib.hid hH
  clear hH
  unfold Ev.val
  go_enter Tryd.func9, Tryd.ntmps9
  go_wp2_with (first | (go_at_call 26; refine (HH.out _).mono ?_; rintro e w1 ⟨rfl, hb1⟩; obtain ⟨hc1, _⟩ := bcells hb1; have HB := Lib.hid hb1; clear hb1) | (go_at_call 27; refine (refhas_any _ _ _ (by decide)).mono ?_; rintro e w2 ⟨rfl, rfl⟩))
  all_goals
    go_ret
    refine ⟨ret_bool ?_, ((Below.refl _ _).alloc (Nat.le_refl _) _).trans (HB.out.mono (by simp))⟩
    rw [Bool.eq_iff_iff]
    simp_all [rightB, hasI, hasM, hasA, hasN, hasO, partB, memB, amtB] <;> omega

set_option maxRecDepth 100000 in
set_option maxHeartbeats 4000000 in
theorem refRight18 (ms ss m a n o : Int) (w : World) :
    Calls Tryd.prog 9 #[.int .i64 ms, .int .i64 ss, (Ev.mk 18 m a n o).val] w fun e w' => e = .returned (.bool (rightB ms ss ⟨18, m, a, n, o⟩)) ∧ Below w.heap.size w w' := by
  have hH : ∀ W, Calls Tryd.prog 26 #[.int .i64 18] W fun e w' => e = .returned (.string ⟨#[109, 110]⟩) ∧ Below W.heap.size W w' := fun W => refHas_any 18 W
  have f1 : inS ⟨#[109, 110]⟩ 109 = true := by decide
  have f2 : inS ⟨#[109, 110]⟩ 97 = false := by decide
  have f3 : inS ⟨#[109, 110]⟩ 110 = true := by decide
  have f4 : inS ⟨#[109, 110]⟩ 111 = false := by decide
  have HH := Lib.hid hH
  clear hH
  unfold Ev.val
  go_enter Tryd.func9, Tryd.ntmps9
  go_wp2_with (first | (go_at_call 26; refine (HH.out _).mono ?_; rintro e w1 ⟨rfl, hb1⟩; obtain ⟨hc1, _⟩ := bcells hb1; have HB := Lib.hid hb1; clear hb1) | (go_at_call 27; refine (refhas_any _ _ _ (by decide)).mono ?_; rintro e w2 ⟨rfl, rfl⟩))
  all_goals
    go_ret
    refine ⟨ret_bool ?_, ((Below.refl _ _).alloc (Nat.le_refl _) _).trans (HB.out.mono (by simp))⟩
    rw [Bool.eq_iff_iff]
    simp_all [rightB, hasI, hasM, hasA, hasN, hasO, partB, memB, amtB] <;> omega

set_option maxRecDepth 100000 in
set_option maxHeartbeats 4000000 in
theorem refRight19 (ms ss m a n o : Int) (w : World) :
    Calls Tryd.prog 9 #[.int .i64 ms, .int .i64 ss, (Ev.mk 19 m a n o).val] w fun e w' => e = .returned (.bool (rightB ms ss ⟨19, m, a, n, o⟩)) ∧ Below w.heap.size w w' := by
  have hH : ∀ W, Calls Tryd.prog 26 #[.int .i64 19] W fun e w' => e = .returned (.string ⟨#[109, 110, 111]⟩) ∧ Below W.heap.size W w' := fun W => refHas_any 19 W
  have f1 : inS ⟨#[109, 110, 111]⟩ 109 = true := by decide
  have f2 : inS ⟨#[109, 110, 111]⟩ 97 = false := by decide
  have f3 : inS ⟨#[109, 110, 111]⟩ 110 = true := by decide
  have f4 : inS ⟨#[109, 110, 111]⟩ 111 = true := by decide
  have HH := Lib.hid hH
  clear hH
  unfold Ev.val
  go_enter Tryd.func9, Tryd.ntmps9
  go_wp2_with (first | (go_at_call 26; refine (HH.out _).mono ?_; rintro e w1 ⟨rfl, hb1⟩; obtain ⟨hc1, _⟩ := bcells hb1; have HB := Lib.hid hb1; clear hb1) | (go_at_call 27; refine (refhas_any _ _ _ (by decide)).mono ?_; rintro e w2 ⟨rfl, rfl⟩))
  all_goals
    go_ret
    refine ⟨ret_bool ?_, ((Below.refl _ _).alloc (Nat.le_refl _) _).trans (HB.out.mono (by simp))⟩
    rw [Bool.eq_iff_iff]
    simp_all [rightB, hasI, hasM, hasA, hasN, hasO, partB, memB, amtB, othB] <;> omega
end Go.Proofs.YtikcodnmlenpeaaDoor
