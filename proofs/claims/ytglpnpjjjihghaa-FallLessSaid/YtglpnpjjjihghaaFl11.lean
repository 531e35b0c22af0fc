/-
  The page's example of layer 23, over this seat's translation: a contract for callers.
-/
import Derived.Test.YtglpnpjjjihghaaFl10
namespace Go.Proofs.Ytglpnpjjjihghaa
open Go.RowKit

def exD23 : List Dw := [⟨8, 1, 10⟩, ⟨9, 1, 5⟩, ⟨9, 2, 3⟩]
theorem ex23E (Ac Af : Option Addr) : planE ⟨[10, 10], Ac, 2, [5, 5], Af, 2, 20, 7⟩ [1] 18 = 0 := by kernel_rfl
theorem ex23L (Ac Af : Option Addr) : planL ⟨[10, 10], Ac, 2, [5, 5], Af, 2, 20, 7⟩ [1] 18 = exD23 := by kernel_rfl
theorem ex23T : totV exD23 = 18 := by kernel_rfl
set_option maxHeartbeats 1600000 in
set_option maxRecDepth 100000 in
theorem awake23_any (w : World) : Calls Try.prog 16 #[] w fun e w' => e = .returned (.bool true) ∧ Below w.heap.size w w' := by
  have HS : Hid (∀ (A B : Option Addr) (c d : Nat) (W : World), Seg W W.heap.size A (dwRows exD23) → Seg W W.heap.size B (dwRows exD23) → Calls Try.prog 26 #[.slice A 3 c, .slice B 3 d] W fun e w' => e = .returned (.bool true) ∧ Below W.heap.size W w') := Lib.hid fun A B c d W h1 h2 => dsame_any exD23 A B c d W h1 h2 (by simp [exD23])
  have HT : Hid (∀ (A : Option Addr) (c : Nat) (W : World), Seg W W.heap.size A (dwRows exD23) → Calls Try.prog 30 #[.slice A 3 c] W fun e w' => e = .returned (.int .i64 18) ∧ Below W.heap.size W w') := Lib.hid fun A c W h => by
    have := total_any exD23 A c W h (by intro x hx; simp [exD23] at hx; rcases hx with rfl | rfl | rfl <;> (unfold I64; simp)) (by simp [exD23])
    rw [ex23T] at this
    exact this
  have HP : Hid (∀ W : World, Calls Try.prog 17 #[.agg #[.slice (some ⟨W.heap.size, 0, none⟩) 2 2, .slice (some ⟨W.heap.size + 1, 0, none⟩) 2 2, .int .i64 20, .int .i64 7], .slice (some ⟨W.heap.size + 2, 0, none⟩) 1 1, .int .i64 18] (((W.alloc (.cells #[.int .i64 10, .int .i64 10] 2)).alloc (.cells #[.int .i64 5, .int .i64 5] 2)).alloc (.cells #[.int .i64 1] 3)) (GotDE exD23 0 (((W.alloc (.cells #[.int .i64 10, .int .i64 10] 2)).alloc (.cells #[.int .i64 5, .int .i64 5] 2)).alloc (.cells #[.int .i64 1] 3)))) := Lib.hid fun W => by
    have h1 := ((seg_mk W 2 [.int .i64 10, .int .i64 10] rfl).below ((Below.refl _ _).alloc (Nat.le_refl _) (.cells #[.int .i64 5, .int .i64 5] 2))).mono (B' := ((W.alloc (.cells #[.int .i64 10, .int .i64 10] 2)).alloc (.cells #[.int .i64 5, .int .i64 5] 2)).heap.size) (by simp)
    have h2 := seg_mk (W.alloc (.cells #[.int .i64 10, .int .i64 10] 2)) 2 [.int .i64 5, .int .i64 5] (b := W.heap.size + 1) (by simp)
    have hb : Below ((W.alloc (.cells #[.int .i64 10, .int .i64 10] 2)).alloc (.cells #[.int .i64 5, .int .i64 5] 2)).heap.size ((W.alloc (.cells #[.int .i64 10, .int .i64 10] 2)).alloc (.cells #[.int .i64 5, .int .i64 5] 2)) (((W.alloc (.cells #[.int .i64 10, .int .i64 10] 2)).alloc (.cells #[.int .i64 5, .int .i64 5] 2)).alloc (.cells #[.int .i64 1] 3)) := (Below.refl _ _).alloc (Nat.le_refl _) _
    have h3 := seg_mk ((W.alloc (.cells #[.int .i64 10, .int .i64 10] 2)).alloc (.cells #[.int .i64 5, .int .i64 5] 2)) 3 [.int .i64 1] (b := W.heap.size + 2) (by simp)
    have := plan_any ⟨[10, 10], some ⟨W.heap.size, 0, none⟩, 2, [5, 5], some ⟨W.heap.size + 1, 0, none⟩, 2, 20, 7⟩ [1] 18 (some ⟨W.heap.size + 2, 0, none⟩) 1 _ ⟨⟨(h1.below hb).mono hb.size, fun e => by cases e⟩, ⟨(h2.below hb).mono hb.size, fun e => by cases e⟩⟩ (by unfold maxLen; simp) h3 (by simp) (by intro x hx; simp at hx; subst hx; unfold I64; simp) (by unfold I64; simp)
    rw [ex23E, ex23L] at this
    exact this
  go_enter Try.func16, Try.ntmps16
  go_wp2_with fail
  refine (HP.out w).mono ?_
  rintro e w1 ⟨A1, c1, rfl, hs1, hb1⟩
  have HS1 := Lib.hid hs1
  have HB1 : Hid (Below w.heap.size w w1) := Lib.hid (((((Below.refl _ _).alloc (Nat.le_refl _) _).alloc (by simp) _).alloc (by simp; omega) _).trans (hb1.mono (by simp; omega)))
  clear hs1 hb1
  rw [show exD23.length = 3 from rfl]
  go_wp2_with fail
  have b2 : Below w1.heap.size w1 (w1.alloc (.cells #[.int .i64 8, .int .i64 1, .int .i64 10, .int .i64 9, .int .i64 1, .int .i64 5, .int .i64 9, .int .i64 2, .int .i64 3] 47)) := (Below.refl _ _).alloc (Nat.le_refl _) _
  have HS2 := Lib.hid ((HS1.out.below b2).mono b2.size)
  have HB2 : Hid (Below w.heap.size w (w1.alloc (.cells #[.int .i64 8, .int .i64 1, .int .i64 10, .int .i64 9, .int .i64 1, .int .i64 5, .int .i64 9, .int .i64 2, .int .i64 3] 47))) := Lib.hid (HB1.out.trans (b2.mono HB1.out.size))
  refine (HS.out A1 _ c1 3 _ HS2.out (seg_mk w1 _ (dwRows exD23) rfl)).mono ?_
  rintro e w2 ⟨rfl, hb2⟩
  have HS3 := Lib.hid ((HS2.out.below hb2).mono hb2.size)
  have HB3 : Hid (Below w.heap.size w w2) := Lib.hid (HB2.out.trans (hb2.mono HB2.out.size))
  clear b2 hb2 HB2 HS2
  go_wp2_with fail
  refine (HT.out A1 c1 _ HS3.out).mono ?_
  rintro e w5 ⟨rfl, hb5⟩
  have HB5 : Hid (Below w.heap.size w w5) := Lib.hid (HB3.out.trans (hb5.mono HB3.out.size))
  clear hb5
  go_wp2_with fail
  go_ret
  exact ⟨rfl, HB5.out⟩
end Go.Proofs.Ytglpnpjjjihghaa
