/-
  What complinelaw33.awake comes to, over this seat's translation: a contract for callers.
-/
import Derived.Test.YtmplokdbbhlomaaDoorSc17
namespace Go.Proofs.YtmplokdbbhlomaaDoor
open Go.RowKit

def exS : List St := [⟨1, ⟨10, 0, 0, 0, 0, 0, 0⟩, 0⟩, ⟨3, zeroC, 5⟩]
theorem exS_ok : ∀ x ∈ exS, StOk x := by
  intro x hx
  simp [exS] at hx
  rcases hx with rfl | rfl <;> (unfold StOk CmOk I64; simp [zeroC])
theorem exS_wrong : wrongL exS = 0 := by simp [wrongL, exS, rightS, rightC, isK, zeroC, hasB, Cm.get, List.range_succ]
theorem uv_small {z : Nat} (h : z < 128) : Lib.uvarint z = [z.toUInt8] := Lib.uvarint_small h
theorem putN_small {n : Int} (h0 : 0 ≤ n) (h : n < 64) : putN n = [(2 * n.toNat).toUInt8] := by
  have e : Lib.zigzag n = 2 * n.toNat := by unfold Lib.zigzag; rw [if_pos h0]; omega
  unfold putN
  rw [e, Lib.uvarint_small (by omega)]
theorem exS_put : putL exS = [4, 0, 2, 20, 4, 10] := by
  simp [putL, exS, putS, putT, putC, putF, six, hasB, putN_small]
theorem exS_print : printL exS = [116, 105, 99, 107, 10, 99, 114, 97, 115, 104, 32, 53, 10] := by
  have h5 : Lib.itoa 5 = [53] := by unfold Lib.itoa; rw [if_neg (by omega)]; unfold Lib.decDigits; rfl
  simp [printL, exS, lineS, wordS, numsS, wordL, crashW, numL, h5, jsOf, six, hasB]
theorem exS_seg (w : World) : Seg (w.alloc (.cells #[.int .i64 1, .int .i64 10, .int .i64 0, .int .i64 0, .int .i64 0, .int .i64 0, .int .i64 0, .int .i64 0, .int .i64 0, .int .i64 3, .int .i64 0, .int .i64 0, .int .i64 0, .int .i64 0, .int .i64 0, .int .i64 0, .int .i64 0, .int .i64 5] TSt)) (w.alloc (.cells #[.int .i64 1, .int .i64 10, .int .i64 0, .int .i64 0, .int .i64 0, .int .i64 0, .int .i64 0, .int .i64 0, .int .i64 0, .int .i64 3, .int .i64 0, .int .i64 0, .int .i64 0, .int .i64 0, .int .i64 0, .int .i64 0, .int .i64 0, .int .i64 5] TSt)).heap.size (some ⟨w.heap.size, 0, none⟩) (stRows exS) := by
  intro j u hu
  refine ⟨w.heap.size, 0, rfl, by simp, ?_⟩
  rw [Nat.zero_add, cell_new _ _ _ j rfl]
  have e : stRows exS = (#[.int .i64 1, .int .i64 10, .int .i64 0, .int .i64 0, .int .i64 0, .int .i64 0, .int .i64 0, .int .i64 0, .int .i64 0, .int .i64 3, .int .i64 0, .int .i64 0, .int .i64 0, .int .i64 0, .int .i64 0, .int .i64 0, .int .i64 0, .int .i64 5] : Array Value).toList := rfl
  rw [e] at hu
  simpa using hu
set_option maxRecDepth 100000 in
set_option maxHeartbeats 3200000 in
theorem sawake_any (w : World) (he : EnvS w) : Calls Tryd.prog 5 #[] w fun e w' => e = .returned (.bool true) ∧ Below w.heap.size w w' := by
  have HW1 : Hid (Below w.heap.size w (w.alloc (.cells #[.int .i64 1, .int .i64 10, .int .i64 0, .int .i64 0, .int .i64 0, .int .i64 0, .int .i64 0, .int .i64 0, .int .i64 0, .int .i64 3, .int .i64 0, .int .i64 0, .int .i64 0, .int .i64 0, .int .i64 0, .int .i64 0, .int .i64 0, .int .i64 5] TSt))) := Lib.hid ((Below.refl _ _).alloc (Nat.le_refl _) _)
  have HS1 := Lib.hid (exS_seg w)
  have HE := Lib.hid he
  clear he
  have HPU := Lib.hid (sput_any exS (some ⟨w.heap.size, 0, none⟩) 2 _ HS1.out exS_ok)
  rw [if_pos exS_wrong, exS_wrong, exS_put] at HPU
  go_enter Tryd.func5, Tryd.ntmps5
  go_wp2_with (go_at_call 6; refine HPU.out.mono ?_)
  rintro e w2 ⟨rfl, hb2⟩
  have HS2 := Lib.hid (HS1.out.below hb2 |>.mono hb2.size)
  have HW2 : Hid (Below w.heap.size w w2) := Lib.hid (HW1.out.trans (hb2.mono HW1.out.size))
  clear hb2 HPU HW1 HS1
  have HPR := Lib.hid (print_any exS (some ⟨w.heap.size, 0, none⟩) 2 w2 HS2.out exS_ok (HE.out.below HW2.out))
  rw [if_pos exS_wrong, exS_wrong, exS_print] at HPR
  go_wp2_with (go_at_call 13; refine HPR.out.mono ?_; rintro e w3 ⟨rfl, hb3⟩; have HW3 : Hid (Below w.heap.size w w3) := Lib.hid (HW2.out.trans (hb3.mono HW2.out.size)); clear hb3)
  go_ret
  exact ⟨rfl, HW3.out⟩
end Go.Proofs.YtmplokdbbhlomaaDoor
