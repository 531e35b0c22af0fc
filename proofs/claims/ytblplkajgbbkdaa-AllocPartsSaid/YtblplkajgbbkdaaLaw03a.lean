/-
  The examples of complinelaw03, and the walks of ShareParts, ShareAllots: over this seat's translation.
-/
import Derived.Test.YtblplkajgbbkdaaRf3b
namespace Go.Proofs.Ytblplkajgbbkdaa
open Go.RowKit Go.Lib Go.Sort Go.Proofs.Ytblplkajgbbkdaa.StableLaw Go.Proofs.Ytblplkajgbbkdaa.ShareLaw

theorem app_ex : appL 100 [1, 1, 1] = [34, 33, 33] ∧ appE 100 [1, 1, 1] = 0 := by decide +kernel
theorem al_ex : alL 5 [4, 4] = [3, 2] ∧ alE 5 [4, 4] = 0 := by decide +kernel
theorem seg3 (w : World) (a b c : Int) : Seg (w.alloc (.cells #[.int .i64 a, .int .i64 b, .int .i64 c] 2)) (w.alloc (.cells #[.int .i64 a, .int .i64 b, .int .i64 c] 2)).heap.size (some ⟨w.heap.size, 0, none⟩) ([a, b, c].map (Value.int .i64)) := (Rowb.new w 2 [a, b, c]).seg (by simp)
theorem seg2 (w : World) (a b : Int) : Seg (w.alloc (.cells #[.int .i64 a, .int .i64 b] 2)) (w.alloc (.cells #[.int .i64 a, .int .i64 b] 2)).heap.size (some ⟨w.heap.size, 0, none⟩) ([a, b].map (Value.int .i64)) := (Rowb.new w 2 [a, b]).seg (by simp)
set_option maxHeartbeats 1600000 in
theorem awake3_any (w : World) : Calls Try.prog 13 #[] w fun e w' => e = .returned (.bool true) ∧ Below w.heap.size w w' := by
  have HA : Hid (∀ W : World, Calls Try.prog 14 #[.int .i64 100, .slice (some ⟨W.heap.size, 0, none⟩) 3 3] (W.alloc (.cells #[.int .i64 1, .int .i64 1, .int .i64 1] 2)) (GotI (W.alloc (.cells #[.int .i64 1, .int .i64 1, .int .i64 1] 2)) [34, 33, 33] 0)) := fun W => by
    have := Apportion_any 100 [1, 1, 1] (some ⟨W.heap.size, 0, none⟩) 3 _ (by unfold I64; omega) (by intro x hx; simp at hx; subst hx; unfold I64; omega) (seg3 W 1 1 1) (by simp [maxLen])
    rw [app_ex.1, app_ex.2] at this
    exact this
  have HB : Hid (∀ W : World, Calls Try.prog 17 #[.int .i64 5, .slice (some ⟨W.heap.size, 0, none⟩) 2 2] (W.alloc (.cells #[.int .i64 4, .int .i64 4] 2)) (GotI (W.alloc (.cells #[.int .i64 4, .int .i64 4] 2)) [3, 2] 0)) := fun W => by
    have := Allocate_any 5 [4, 4] (some ⟨W.heap.size, 0, none⟩) 2 _ (by unfold I64; omega) (by intro x hx; simp at hx; subst hx; unfold I64; omega) (seg2 W 4 4) (by simp [maxLen])
    rw [al_ex.1, al_ex.2] at this
    exact this
  go_enter Try.func13, Try.ntmps13
  go_wp2_with fail
  refine (HA.out _).mono ?_
  rintro e w1 ⟨A1, c1, rfl, hs1, hb1⟩
  have HS1 := Lib.hid hs1
  have HB1 : Hid (Below w.heap.size w w1) := ((Below.refl _ _).alloc (Nat.le_refl _) _).trans (hb1.mono (by simp))
  clear hs1 hb1
  go_wp2_with fail
  refine (HB.out _).mono ?_
  rintro e w2 ⟨A2, c2, rfl, hs2, hb2⟩
  have HS2 := Lib.hid hs2
  have HBd : Hid (Below w1.heap.size w1 w2) := ((Below.refl _ _).alloc (Nat.le_refl _) _).trans (hb2.mono (by simp))
  have HB2 : Hid (Below w.heap.size w w2) := HB1.out.trans (HBd.out.mono HB1.out.size)
  have HS1' : Hid (Seg w2 w2.heap.size A1 ([34, 33, 33].map (Value.int .i64))) := (HS1.out.below HBd.out).mono HBd.out.size
  clear hs2 hb2 HS1 HB1
  have HSM : Hid (∀ W : World, Below w2.heap.size w2 W → Calls Try.prog 16 #[.slice A1 3 c1, .slice (some ⟨W.heap.size, 0, none⟩) 3 3] (W.alloc (.cells #[.int .i64 34, .int .i64 33, .int .i64 33] 2)) fun e w' => e = .returned (.bool true) ∧ Below (W.alloc (.cells #[.int .i64 34, .int .i64 33, .int .i64 33] 2)).heap.size (W.alloc (.cells #[.int .i64 34, .int .i64 33, .int .i64 33] 2)) w') := fun W hW =>
    same_any [34, 33, 33] [34, 33, 33] A1 (some ⟨W.heap.size, 0, none⟩) c1 3 _ (((HS1'.out.below hW).mono hW.size).below ((Below.refl _ _).alloc (Nat.le_refl _) _) |>.mono (by simp)) (seg3 W 34 33 33) (by simp) rfl
  have HSM2 : Hid (∀ W : World, Below w2.heap.size w2 W → Calls Try.prog 16 #[.slice A2 2 c2, .slice (some ⟨W.heap.size, 0, none⟩) 2 2] (W.alloc (.cells #[.int .i64 3, .int .i64 2] 2)) fun e w' => e = .returned (.bool true) ∧ Below (W.alloc (.cells #[.int .i64 3, .int .i64 2] 2)).heap.size (W.alloc (.cells #[.int .i64 3, .int .i64 2] 2)) w') := fun W hW =>
    same_any [3, 2] [3, 2] A2 (some ⟨W.heap.size, 0, none⟩) c2 2 _ (((HS2.out.below hW).mono hW.size).below ((Below.refl _ _).alloc (Nat.le_refl _) _) |>.mono (by simp)) (seg2 W 3 2) (by simp) rfl
  go_wp2_with fail
  refine (HSM.out _ (Below.refl _ _)).mono ?_
  rintro e w3 ⟨rfl, hb3⟩
  have HBe : Hid (Below w2.heap.size w2 w3) := ((Below.refl _ _).alloc (Nat.le_refl _) _).trans (hb3.mono (by simp))
  clear hb3
  go_wp2_with fail
  refine (HSM2.out _ HBe.out).mono ?_
  rintro e w4 ⟨rfl, hb4⟩
  have HBf : Hid (Below w2.heap.size w2 w4) := HBe.out.trans (((Below.refl _ _).alloc HBe.out.size _).trans (hb4.mono (by simp; have := HBe.out.size; omega)))
  clear hb4
  go_wp2_with fail
  go_ret
  exact ⟨rfl, HB2.out.trans (HBf.out.mono HB2.out.size)⟩
end Go.Proofs.Ytblplkajgbbkdaa
