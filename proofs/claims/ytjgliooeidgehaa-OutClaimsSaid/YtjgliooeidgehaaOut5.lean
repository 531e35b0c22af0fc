/-
  The page's example of layer 28 holds, over this seat's translation.
-/
import Derived.Test.YtjgliooeidgehaaOut4
namespace Go.Proofs.Ytjgliooeidgehaa
open Go.RowKit

theorem once_one (x : Int) : onceL [x] = [x] := by unfold onceL; rw [List.mergeSort_singleton]; rfl
def exL : List Ob := [⟨0, 1, 0, 5, 3, 1⟩, ⟨0, 1, 1, -7, 0, 1⟩]
theorem ex_fail : onceL ((exL.filter fun x => x.st == 1 && failB x).map (·.m)) = [1] := by
  rw [show (exL.filter fun x => x.st == 1 && failB x).map (·.m) = [1] from by decide]
  exact once_one 1
theorem ex_held : (exL.filter fun x => x.st == 1 && clB (fun x : Ob => hasB [1] x.m) x).map Ob.claim = [⟨1, 1, 7⟩] := by
  rw [show (exL.filter fun x => x.st == 1 && clB (fun x : Ob => hasB [1] x.m) x) = [⟨0, 1, 1, -7, 0, 1⟩] from rfl]
  rfl
theorem ex_seg (w : World) : Seg (w.alloc (.cells #[.int .i64 0, .int .i64 1, .int .i64 0, .int .i64 5, .int .i64 3, .int .i64 1, .int .i64 0, .int .i64 1, .int .i64 1, .int .i64 (-7), .int .i64 0, .int .i64 1] 34)) (w.alloc (.cells #[.int .i64 0, .int .i64 1, .int .i64 0, .int .i64 5, .int .i64 3, .int .i64 1, .int .i64 0, .int .i64 1, .int .i64 1, .int .i64 (-7), .int .i64 0, .int .i64 1] 34)).heap.size (some ⟨w.heap.size, 0, none⟩) (obRows exL) := by
  intro j u hu
  refine ⟨w.heap.size, 0, rfl, by simp, ?_⟩
  rw [cell_new _ _ _ _ (by simp), Nat.zero_add, ← Array.getElem?_toList]
  exact hu
set_option maxRecDepth 100000 in
set_option maxHeartbeats 800000 in
theorem awake_any (w : World) : Calls Try.prog 5 #[] w fun e w' => e = .returned (.bool true) ∧ Below w.heap.size w w' := by
  have hb : Below w.heap.size w (w.alloc (.cells #[.int .i64 0, .int .i64 1, .int .i64 0, .int .i64 5, .int .i64 3, .int .i64 1, .int .i64 0, .int .i64 1, .int .i64 1, .int .i64 (-7), .int .i64 0, .int .i64 1] 34)) := (Below.refl _ _).alloc (Nat.le_refl _) _
  have HC := Lib.hid (failed_any exL (some ⟨w.heap.size, 0, none⟩) 2 _ (ex_seg w) (by decide))
  rw [ex_fail] at HC
  have HS := Lib.hid (ex_seg w)
  have HB := Lib.hid hb
  clear hb
  go_enter Try.func5, Try.ntmps5
  go_wp2_with fail
  refine HC.out.mono ?_
  rintro e w1 ⟨A1, c1, rfl, hs1, hb1⟩
  have HS1 := Lib.hid hs1
  have HSE := Lib.hid ((HS.out.below hb1).mono hb1.size)
  have HB1 : Hid (Below w.heap.size w w1) := HB.out.trans (hb1.mono (by simp))
  clear hs1 hb1 HS
  have HW := Lib.hid (withheld_any exL (some ⟨w.heap.size, 0, none⟩) 2 [1] A1 c1 w1 HSE.out (by decide) (by intro x hx; simp [exL] at hx; rcases hx with rfl | rfl <;> decide) HS1.out (by decide))
  rw [ex_held] at HW
  go_wp2_with fail
  refine HW.out.mono ?_
  rintro e w2 ⟨v2, rfl, ho2, hb2⟩
  obtain ⟨A2, c2, rfl⟩ := own_form ho2
  obtain ⟨b1, o1, rfl, hlt1, d0⟩ := int_at (k := 0) ((HS1.out.below hb2).mono hb2.size) (by decide)
  obtain ⟨b2, o2, rfl, hlt2, f0, f1, f2⟩ := lg_at (k := 0) (Seg.of_own ho2) (by decide)
  have HB2 : Hid (Below w.heap.size w w2) := HB1.out.trans (hb2.mono HB1.out.size)
  simp at d0 f0 f1 f2
  clear ho2 hb2
  go_wp2_with fail
  go_ret
  exact ⟨rfl, HB2.out⟩
end Go.Proofs.Ytjgliooeidgehaa
