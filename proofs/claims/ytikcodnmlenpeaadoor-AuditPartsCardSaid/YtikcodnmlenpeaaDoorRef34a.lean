/-
  What audit.Flow, complineref34.Flow, Has, has and Right come to, over this seat's translation: contracts for callers.
-/
import Derived.Test.YtikcodnmlenpeaaDoorAudit1
import Derived.Test.YtikcodnmlenpeaaDoorMoneySum
namespace Go.Proofs.YtikcodnmlenpeaaDoor
open Go.RowKit

theorem ret_int {k : IntKind} {a b : Int} (h : a = b) : Ending.returned (.int k a) = .returned (.int k b) := by rw [h]

/-- What an event brings to the house. -/
def flowI (x : Ev) : Int := if x.k = 5 ∨ x.k = 10 ∨ x.k = 12 then x.n else if x.k = 6 ∨ x.k = 13 ∨ x.k = 16 ∨ x.k = 19 then amtV (-x.n) else 0

set_option maxHeartbeats 800000 in
theorem flow_any (x : Ev) (w : World) (hn : I64 x.n) :
    Calls Tryd.prog 10 #[x.val] w fun e w' => e = .returned (.int .i64 (flowI x)) ∧ Below w.heap.size w w' := by
  have HN := Lib.hid hn
  clear hn
  obtain ⟨k, m, a, n, o⟩ := x
  unfold Ev.val
  go_enter Tryd.func10, Tryd.ntmps10
  go_wp2_with (go_at_call 28; refine (neg_any n _ HN.out).mono ?_; rintro e w' ⟨rfl, rfl⟩)
  all_goals
    go_ret
    refine ⟨ret_int ?_, (Below.refl _ _).alloc (Nat.le_refl _) _⟩
    simp_all [flowI]

set_option maxHeartbeats 800000 in
theorem refflow_any (x : Ev) (w : World) (hn : I64 x.n) :
    Calls Tryd.prog 11 #[x.val] w fun e w' => e = .returned (.int .i64 (flowI x)) ∧ Below w.heap.size w w' := by
  have h1 : -9223372036854775808 < x.n → wrap64 (-x.n) = amtV (-x.n) := fun h => by
    unfold I64 at hn
    rw [(amt_in (by unfold I64; omega)).1]
    exact IntWalk.wrap64_in _ (by omega)
  have h2 : x.n ≤ -9223372036854775808 → amtV (-x.n) = 0 := fun h => by
    unfold I64 at hn
    exact (amt_out (by unfold I64; omega)).1
  have H1 := Lib.hid h1
  have H2 := Lib.hid h2
  have hlo := hn.1
  have hhi := hn.2
  clear hn h1 h2
  obtain ⟨k, m, a, n, o⟩ := x
  unfold Ev.val
  go_enter Tryd.func11, Tryd.ntmps11
  go_wp2
  all_goals
    go_ret
    refine ⟨ret_int ?_, (Below.refl _ _).alloc (Nat.le_refl _) _⟩
    simp_all [flowI] <;> first | done | exact H1.out (by omega) | exact H1.out | exact H2.out.symm | exact H2.out

def inS (s : ByteArray) (c : Int) : Bool := s.data.toList.any fun b => (b.toNat : Int) == c
set_option maxHeartbeats 400000 in
theorem refhas_any (s : ByteArray) (c : Int) (w : World) (hs : s.size ≤ 1000) :
    Calls Tryd.prog 27 #[.string s, .int .u8 c] w fun e w' => e = .returned (.bool (inS s c)) ∧ w = w' := by
  go_enter Tryd.func27, Tryd.ntmps27
  go_wp2
  go_loop [5] (fun i => ∃ k : Nat, k ≤ s.size ∧ i = .int .i64 k ∧ Hid ((s.data.toList.take k).any (fun b => (b.toNat : Int) == c) = false)) (fun i => s.size - (intOf i).toNat)
  case atStart => exact ⟨0, Nat.zero_le _, rfl, rfl⟩
  case round =>
    obtain ⟨k, hk, rfl, HK⟩ := hrel
    by_cases hlt : k < s.size
    · have hts : s.data.toList.take (k + 1) = s.data.toList.take k ++ [s[k]] := by
        rw [List.take_succ_eq_append_getElem (by simpa using hlt)]; rfl
      have HT := Lib.hid hts
      clear hts
      cases hb : (((s[k].toNat : Int)) == c)
      · go_wp2
        go_round
        case rel => exact ⟨k + 1, by omega, by go_num, by show _ = _; rw [HT.out, List.any_append, HK.out]; simpa using hb⟩
        case measure => simp [intOf]; omega
      · go_wp2
        go_ret
        refine ⟨ret_bool ?_, rfl⟩
        symm
        unfold inS
        rw [← List.take_append_drop (k + 1) s.data.toList, HT.out, List.any_append, List.any_append]
        simp [beq_iff_eq.1 hb]
    · go_wp2
      go_ret
      refine ⟨ret_bool ?_, rfl⟩
      symm
      have := HK.out
      rw [List.take_of_length_le (by simp; omega)] at this
      exact this
end Go.Proofs.YtikcodnmlenpeaaDoor
