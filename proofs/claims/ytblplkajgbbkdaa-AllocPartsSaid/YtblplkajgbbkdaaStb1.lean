/-
  What slices.swapRangeCmpFunc and rotateCmpFunc come to at numbers, over this seat's translation: contracts for callers.
-/
import Derived.Test.YtblplkajgbbkdaaMoneyDef
import Derived.Test.YtblplkajgbbkdaaStableLaw
import Derived.Shelf.SlSortCmp.Kit1
import Derived.Sort.WalkB2
import Derived.Deep.LoopGhost
import Derived.BigRegion
namespace Go.Proofs.Ytblplkajgbbkdaa
open Go.RowKit Go.Lib Go.Sort Go.Shelf Go.Proofs.Ytblplkajgbbkdaa.StableLaw

/-- A row of numbers, as a function of places. -/
def fn (d : Array Int) : Nat → Int := fun p => d[p]!
theorem fn_swp (d : Array Int) {i j : Nat} (hi : i < d.size) (hj : j < d.size) : fn (swp d i j) = swapF (fn d) i j := by
  funext p
  unfold fn swapF
  by_cases c1 : p = i
  · subst c1
    rw [if_pos rfl]
    by_cases c2 : p = j
    · subst c2; rw [swp_right d p p hj]
    · rw [swp_left d p j hi c2]
  · rw [if_neg c1]
    by_cases c2 : p = j
    · subst c2; rw [if_pos rfl, swp_right d i p hj]
    · rw [if_neg c2, swp_other d i j p c1 c2]
theorem enc_one : OneCell (Value.int .i64) := fun _ => rfl
set_option maxHeartbeats 4000000 in
set_option maxRecDepth 1000000 in
theorem swapRange_any (f : Value) (blk off cap a b n : Nat) (d0 d : Array Int) (w0 w : World)
    (R : Row1 (Value.int .i64) w0 blk off d0) (hs : d0.size = d.size) (S : SW (Value.int .i64) w0 blk off d w) (h1 : a + n ≤ b) (h2 : b + n ≤ d.size) (hsz : d.size < 4611686018427387904) :
    Calls Try.prog 117 #[.slice (some ⟨blk, off, none⟩) d.size cap, .int .i64 a, .int .i64 b, .int .i64 n, f] w fun e w' => e = .returned (.tuple #[]) ∧ ∃ d' : Array Int, d'.size = d.size ∧ fn d' = swapR (fn d) a b n ∧ SW (Value.int .i64) w0 blk off d' w' := by
  have S0 : Hid (SW (Value.int .i64) w0 blk off d w) := S
  clear S
  go_enter Try.func117, Try.ntmps117
  go_wp2
  go_loopg [10] n (fun kx s wr => ∃ (i : Nat) (dk : Array Int), s = .int .i64 i ∧ i ≤ n ∧ n - i ≤ kx ∧ dk.size = d.size ∧ Hid (SW (Value.int .i64) w0 blk off dk wr) ∧ Hid (fn dk = swapR (fn d) a b i))
  case atStart => exact ⟨0, d, rfl, Nat.zero_le _, by omega, rfl, S0, (swapR_zero _ _ _).symm⟩
  case round =>
    clear S0
    obtain ⟨i, dk, rfl, hin, hkx, hds, S1, HF⟩ := hrel
    by_cases hlt : i < n
    · have hltz : (i : Int) < (n : Int) := by omega
      go_wp2_with fail
      obtain ⟨iN, hiN⟩ : ∃ q, q = a + i := ⟨_, rfl⟩
      obtain ⟨jN, hjN⟩ : ∃ q, q = b + i := ⟨_, rfl⟩
      have ea : ((a : Int) + (i : Int)).toNat = iN := by omega
      have pa : (0 : Int) ≤ (a : Int) + (i : Int) := by omega
      have ba : (a : Int) + (i : Int) < (d.size : Int) := by omega
      have ra : IntKind.i64.wrap ((a : Int) + (i : Int)) = (a : Int) + (i : Int) := by rw [IntKind.wrap_i64]; omega
      have ec : ((b : Int) + (i : Int)).toNat = jN := by omega
      have pc : (0 : Int) ≤ (b : Int) + (i : Int) := by omega
      have bc : (b : Int) + (i : Int) < (d.size : Int) := by omega
      have rc : IntKind.i64.wrap ((b : Int) + (i : Int)) = (b : Int) + (i : Int) := by rw [IntKind.wrap_i64]; omega
      obtain ⟨x, hx⟩ : ∃ x, x = dk[a + i]! := ⟨_, rfl⟩
      obtain ⟨y, hy⟩ : ∃ x, x = dk[b + i]! := ⟨_, rfl⟩
      have S2 : Hid (SW (Value.int .i64) w0 blk off (swp dk (a + i) (b + i)) ((wr.setCell ⟨blk, off + iN, none⟩ (.int .i64 y)).setCell ⟨blk, off + jN, none⟩ (.int .i64 x)).drew) := by rw [hiN, hjN, hx, hy]; exact S1.out.swapped R (a + i) (b + i) (by omega) (by omega)
      have ca := S1.out.c1 R (by omega) (a + i) (by omega)
      have cb := S1.out.c1 R (by omega) (b + i) (by omega)
      have fa := S1.out.f1 R (by omega) (a + i) (by omega)
      have fb := S1.out.f1 R (by omega) (b + i) (by omega)
      obtain ⟨u, cc⟩ := S1.out.c2 R (by omega) (a + i) (b + i) (by omega) (by omega) (.int .i64 y)
      rw [← hjN, ← hiN] at cc
      rw [← hx, ← hiN] at ca
      rw [← hy, ← hjN] at cb
      rw [← hiN] at fa
      rw [← hjN] at fb
      have HF2 : Hid (fn (swp dk (a + i) (b + i)) = swapR (fn d) a b (i + 1)) := by
        show _ = _
        rw [fn_swp dk (by omega) (by omega), HF.out, swapR_succ _ (by omega)]
      clear S1 hx hy hiN hjN HF
      go_wp2_with fail
      go_big_region
      clear ca cb cc fa fb
      generalize ((wr.setCell ⟨blk, off + iN, none⟩ (.int .i64 y)).setCell ⟨blk, off + jN, none⟩ (.int .i64 x)).drew = w2 at S2 ⊢
      clear ea ec
      go_wp2
      go_roundg (n - (i + 1))
      case measure => omega
      case rel => exact ⟨i + 1, swp dk (a + i) (b + i), by simp, by omega, Nat.le_refl _, by rw [size_swp]; exact hds, S2, HF2⟩
    · have e : i = n := by omega
      subst e
      go_wp2
      go_end0
      exact ⟨rfl, dk, hds, HF.out, S1.out⟩
end Go.Proofs.Ytblplkajgbbkdaa
