/-
  What slices.rotateCmpFunc comes to at numbers, over this seat's translation: a contract for callers.
-/
import Derived.Test.YtblplkajgbbkdaaStb1
namespace Go.Proofs.Ytblplkajgbbkdaa
open Go.RowKit Go.Lib Go.Sort Go.Shelf Go.Proofs.Ytblplkajgbbkdaa.StableLaw

set_option maxHeartbeats 4000000 in
set_option maxRecDepth 1000000 in
theorem rotate_any (f : Value) (blk off cap a m b : Nat) (d0 d : Array Int) (w0 w : World)
    (R : Row1 (Value.int .i64) w0 blk off d0) (hs : d0.size = d.size) (S : SW (Value.int .i64) w0 blk off d w) (h1 : a < m) (h2 : m < b) (h3 : b ≤ d.size) (hsz : d.size < 4611686018427387904) :
    Calls Try.prog 110 #[.slice (some ⟨blk, off, none⟩) d.size cap, .int .i64 a, .int .i64 m, .int .i64 b, f] w fun e w' => e = .returned (.tuple #[]) ∧ ∃ d' : Array Int, d'.size = d.size ∧ fn d' = rot (fn d) a m b ∧ SW (Value.int .i64) w0 blk off d' w' := by
  have S0 : Hid (SW (Value.int .i64) w0 blk off d w) := S
  have RR : Hid (Row1 (Value.int .i64) w0 blk off d0) := R
  clear S R
  have wi : IntKind.i64.wrap ((m : Int) - (a : Int)) = (m : Int) - (a : Int) := by rw [IntKind.wrap_i64]; omega
  have wj : IntKind.i64.wrap ((b : Int) - (m : Int)) = (b : Int) - (m : Int) := by rw [IntKind.wrap_i64]; omega
  go_enter Try.func110, Try.ntmps110
  go_wp2_with fail
  go_loopg [10, 11] (b - a) (fun kx s t wr => ∃ (i j : Nat) (dk : Array Int), s = .int .i64 i ∧ t = .int .i64 j ∧ 0 < i ∧ 0 < j ∧ i ≤ m ∧ m + j ≤ d.size ∧ i + j ≤ kx ∧ dk.size = d.size ∧ Hid (SW (Value.int .i64) w0 blk off dk wr) ∧ Hid (rot (fn dk) (m - i) m (m + j) = rot (fn d) a m b))
  case atStart =>
    refine ⟨m - a, b - m, d, by rw [Int.ofNat_sub (by omega)], by rw [Int.ofNat_sub (by omega)], by omega, by omega, by omega, by omega, by omega, rfl, S0, ?_⟩
    show _ = _
    rw [show m - (m - a) = a by omega, show m + (b - m) = b by omega]
  case round =>
    clear S0 wi wj
    obtain ⟨i, j, dk, rfl, rfl, hi0, hj0, him, hjd, hkx, hds, S1, HF⟩ := hrel
    have wmi : IntKind.i64.wrap ((m : Int) - (i : Int)) = ((m - i : Nat) : Int) := by rw [IntKind.wrap_i64]; omega
    by_cases hij : i = j
    · subst hij
      have hne : (i : Int) = (i : Int) := rfl
      have HC := Lib.hid (swapRange_any f blk off cap (m - i) m i d0 dk w0 wr RR.out (by omega) S1.out (by omega) (by omega) (by omega))
      rw [hds] at HC
      go_wp2_with fail
      refine HC.out.mono ?_
      rintro e w2 ⟨rfl, d2, hd2, hf2, hs2⟩
      have HF3 := Lib.hid hf2
      have HS3 := Lib.hid hs2
      clear hf2 hs2 HC
      go_wp2_with fail
      go_end0
      refine ⟨rfl, d2, hd2, ?_, HS3.out⟩
      rw [HF3.out, rot_same _ him, HF.out]
    · have hne : ¬ ((i : Int) = (j : Int)) := by omega
      by_cases hlt : j < i
      · have hltz : (j : Int) < (i : Int) := by omega
        have HC := Lib.hid (swapRange_any f blk off cap (m - i) m j d0 dk w0 wr RR.out (by omega) S1.out (by omega) (by omega) (by omega))
        rw [hds] at HC
        have HF2 := Lib.hid (rot_more (fn dk) hj0 hlt him)
        have wij : IntKind.i64.wrap ((i : Int) - (j : Int)) = ((i - j : Nat) : Int) := by rw [IntKind.wrap_i64]; omega
        go_wp2_with fail
        refine HC.out.mono ?_
        rintro e w2 ⟨rfl, d2, hd2, hf2, hs2⟩
        have HF3 := Lib.hid hf2
        have HS3 := Lib.hid hs2
        clear hf2 hs2 HC
        go_wp2_with fail
        go_roundg (i - j + j)
        case measure => omega
        case rel =>
          refine ⟨i - j, j, d2, rfl, rfl, by omega, hj0, by omega, hjd, Nat.le_refl _, hd2, HS3.out, ?_⟩
          show _ = _
          rw [HF3.out, HF2.out, HF.out]
      · have hltz : ¬ (j : Int) < (i : Int) := by omega
        have HC := Lib.hid (swapRange_any f blk off cap (m - i) (m + j - i) i d0 dk w0 wr RR.out (by omega) S1.out (by omega) (by omega) (by omega))
        rw [hds] at HC
        have HF2 := Lib.hid (rot_less (fn dk) hi0 (by omega : i < j) him)
        have wij : IntKind.i64.wrap ((j : Int) - (i : Int)) = ((j - i : Nat) : Int) := by rw [IntKind.wrap_i64]; omega
        have wmj : IntKind.i64.wrap ((m : Int) + (j : Int)) = (m : Int) + (j : Int) := by rw [IntKind.wrap_i64]; omega
        have wmji : IntKind.i64.wrap ((m : Int) + (j : Int) - (i : Int)) = ((m + j - i : Nat) : Int) := by rw [IntKind.wrap_i64]; omega
        go_wp2_with fail
        refine HC.out.mono ?_
        rintro e w2 ⟨rfl, d2, hd2, hf2, hs2⟩
        have HF3 := Lib.hid hf2
        have HS3 := Lib.hid hs2
        clear hf2 hs2 HC
        go_wp2_with fail
        go_roundg (i + (j - i))
        case measure => omega
        case rel =>
          refine ⟨i, j - i, d2, rfl, rfl, hi0, by omega, him, by omega, Nat.le_refl _, hd2, HS3.out, ?_⟩
          show _ = _
          rw [HF3.out, HF2.out, HF.out]
end Go.Proofs.Ytblplkajgbbkdaa
