/-
  What complineref34.Has and Right come to, over this seat's translation: contracts for callers.
-/
import Derived.Test.YtikcodnmlenpeaaDoorRef34a
namespace Go.Proofs.YtikcodnmlenpeaaDoor
open Go.RowKit

/-- What a kind has, as a text. -/
def hasS (k : Int) : ByteArray :=
  if k = 1 then ⟨#[110, 111]⟩ else if k = 2 ∨ k = 3 then ⟨#[110]⟩ else if k = 4 ∨ k = 5 ∨ k = 6 ∨ k = 9 ∨ k = 13 ∨ k = 14 then ⟨#[109, 97, 110]⟩
  else if k = 7 then ⟨#[109, 111]⟩ else if k = 8 then ⟨#[109]⟩ else if k = 10 ∨ k = 19 then ⟨#[109, 110, 111]⟩ else if k = 11 ∨ k = 12 then ⟨#[109, 97, 110, 111]⟩
  else if k = 15 ∨ k = 17 ∨ k = 18 then ⟨#[109, 110]⟩ else if k = 16 then ⟨#[97, 110]⟩ else ⟨#[63]⟩
theorem ret_str {a b : ByteArray} (h : a = b) : Ending.returned (.string a) = .returned (.string b) := by rw [h]
set_option maxHeartbeats 4000000 in
theorem refHas_any (k : Int) (w : World) :
    Calls Tryd.prog 26 #[.int .i64 k] w fun e w' => e = .returned (.string (hasS k)) ∧ Below w.heap.size w w' := by
  rcases kinds k with h | h | h | h
  · have hz : (⟨#[63]⟩ : ByteArray) = hasS k := by
      unfold hasS
      repeat rw [if_neg (by omega)]
    have HZ := Lib.hid hz
    clear hz
    go_enter Tryd.func26, Tryd.ntmps26
    go_wp2
    go_ret
    exact ⟨ret_str HZ.out, (Below.refl _ _).alloc (Nat.le_refl _) _⟩
  · have hz : (⟨#[63]⟩ : ByteArray) = hasS k := by
      unfold hasS
      repeat rw [if_neg (by omega)]
    have HZ := Lib.hid hz
    clear hz
    go_enter Tryd.func26, Tryd.ntmps26
    go_wp2
    go_ret
    exact ⟨ret_str HZ.out, (Below.refl _ _).alloc (Nat.le_refl _) _⟩
  · rcases h with rfl | rfl | rfl | rfl | rfl | rfl | rfl | rfl | rfl | rfl
    all_goals
      go_enter Tryd.func26, Tryd.ntmps26
      go_wp2
      go_ret
      exact ⟨rfl, (Below.refl _ _).alloc (Nat.le_refl _) _⟩
  · rcases h with rfl | rfl | rfl | rfl | rfl | rfl | rfl | rfl | rfl
    all_goals
      go_enter Tryd.func26, Tryd.ntmps26
      go_wp2
      go_ret
      exact ⟨rfl, (Below.refl _ _).alloc (Nat.le_refl _) _⟩
end Go.Proofs.YtikcodnmlenpeaaDoor
