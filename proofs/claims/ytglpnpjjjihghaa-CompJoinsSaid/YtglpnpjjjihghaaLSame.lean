/-
  What complineref16.Same comes to at like lists, over this seat's translation: a contract for callers.
-/
import Derived.Test.YtglpnpjjjihghaaObPlain
import Derived.Test.YtglpnpjjjihghaaIntsW
import Derived.Deep.QuietTactic
import Derived.BigQuiet
namespace Go.Proofs.Ytglpnpjjjihghaa
open Go.RowKit

set_option maxHeartbeats 400000 in
theorem lsame_any (L : List Lg) (A B : Option Addr) (c d : Nat) (w : World) (h1 : Seg w w.heap.size A (lgRows L)) (h2 : Seg w w.heap.size B (lgRows L)) (hl : L.length ≤ 1000000) :
    Calls Try.prog 14 #[.slice A L.length c, .slice B L.length d] w fun e w' => e = .returned (.bool true) ∧ Below w.heap.size w w' := by
  have H1 := Lib.hid h1
  have H2 := Lib.hid h2
  clear h1 h2
  go_enter Try.func14, Try.ntmps14
  go_wp2_with fail
  go_loopw [5] (fun i wr => ∃ k : Nat, k ≤ L.length ∧ i = .int .i64 k ∧ Hid (∃ n, w.drewN n = wr)) (fun i _ => L.length - (intOf i).toNat)
  case atStart => exact ⟨0, Nat.zero_le _, rfl, ⟨0, rfl⟩⟩
  case round =>
    obtain ⟨k, hk, rfl, HW⟩ := hrel
    obtain ⟨n, rfl⟩ := HW.out
    by_cases hlt : k < L.length
    · obtain ⟨b, o, rfl, hb, d0, d1, d2⟩ := lg_at H1.out hlt
      obtain ⟨b', o', rfl, hb', e0, e1, e2⟩ := lg_at H2.out hlt
      have hkb : (k : Int) < (L.length : Int) := by omega
      have hk0 : (0 : Int) ≤ (k : Int) := by omega
      go_wp2_with fail
      go_quiet (fail)
      go_wp2_with fail
      go_roundw
      case rel => exact ⟨k + 1, by omega, by go_num, ⟨n + nq, rfl⟩⟩
      case measure => simp [intOf]; omega
    · go_wp2_with fail
      go_ret
      exact ⟨rfl, below_drewN (Below.refl _ _) n⟩
end Go.Proofs.Ytglpnpjjjihghaa
