/-
  What complineref03.Wrong, Same and Apportion come to, over this seat's translation: contracts for callers.
-/
import Derived.Test.YtblplkajgbbkdaaRf2c
import Derived.Test.YtblplkajgbbkdaaShr6
import Derived.Test.YtblplkajgbbkdaaRef01D
namespace Go.Proofs.Ytblplkajgbbkdaa
open Go.RowKit Go.Lib Go.Sort Go.Proofs.Ytblplkajgbbkdaa.StableLaw Go.Proofs.Ytblplkajgbbkdaa.ShareLaw

set_option maxHeartbeats 1600000 in
theorem wrong_any (T : Int) (l : List Int) (A : Option Addr) (c : Nat) (w : World) (hl : ∀ x ∈ l, I64 x) (hs : Seg w w.heap.size A (l.map (Value.int .i64))) (hn : l.length ≤ maxLen) :
    Calls Try.prog 48 #[.int .i64 T, .slice A l.length c] w fun e w' => e = .returned (.tuple #[.int .i64 (chkV T l), .int .i64 (chkE T l)]) ∧ w = w' := by
  unfold maxLen at hn
  by_cases h1 : 1024 < l.length
  · have e1 : chkV T l = 0 := by unfold chkV; rw [if_pos h1]
    have e2 : chkE T l = 6 := by unfold chkE; rw [if_pos h1]
    rw [e1, e2]
    clear hl hs e1 e2
    go_enter Try.func48, Try.ntmps48
    go_wp2_with fail
    go_ret2
    exact ⟨rfl, rfl⟩
  · have h1' : l.length ≤ 1024 := by omega
    by_cases h2 : T < 0
    · have e1 : chkV T l = 0 := by unfold chkV; rw [if_neg h1, if_pos (.inl h2)]
      have e2 : chkE T l = 1 := by unfold chkE; rw [if_neg h1, if_pos (.inl h2)]
      rw [e1, e2]
      clear hl hs e1 e2
      go_enter Try.func48, Try.ntmps48
      go_wp2_with fail
      go_ret2
      exact ⟨rfl, rfl⟩
    · have HS := Lib.hid hs
      have HD := Lib.hid (refsum_any l A c w hl hs (by omega))
      clear hl hs
      have HYES : Hid (negB l = true → chkV T l = 0 ∧ chkE T l = 1) := fun h3 => ⟨by unfold chkV; rw [if_neg h1, if_pos (.inr h3)], by unfold chkE; rw [if_neg h1, if_pos (.inr h3)]⟩
      have HNO : Hid (negB l = false → chkV T l = amtV (sumI l) ∧ chkE T l = amtE (sumI l)) := fun h3 => ⟨by unfold chkV; rw [if_neg h1, if_neg (by simp [h2, h3])], by unfold chkE; rw [if_neg h1, if_neg (by simp [h2, h3])]⟩
      go_enter Try.func48, Try.ntmps48
      go_wp2_with fail
      go_loop [6] (fun i => ∃ k : Nat, k ≤ l.length ∧ i = .int .i64 k ∧ Hid (∀ j (hj : j < l.length), j < k → 0 ≤ l[j])) (fun i => l.length - (intOf i).toNat)
      case atStart => exact ⟨0, Nat.zero_le _, rfl, fun j _ h => by omega⟩
      case round =>
        obtain ⟨k, hk, rfl, HP⟩ := hrel
        by_cases hlt : k < l.length
        · obtain ⟨b, o, rfl, hb, hc⟩ := HS.out.at (k := k) (by simpa using hlt)
          rw [List.getElem_map] at hc
          by_cases hx : l[k] < 0
          · have HT := Lib.hid (HYES.out (negB_true hlt hx))
            go_wp2_with fail
            go_ret2
            exact ⟨by rw [HT.out.1, HT.out.2]; rfl, rfl⟩
          · have HP2 : Hid (∀ j (hj : j < l.length), j < k + 1 → 0 ≤ l[j]) := by
              intro j hj hjk
              by_cases e : j = k
              · subst e; omega
              · exact HP.out j hj (by omega)
            go_wp2_with fail
            go_round
            case rel => exact ⟨k + 1, by omega, by go_num, HP2⟩
            case measure => simp [intOf]; omega
        · have HT := Lib.hid (HNO.out (negB_of fun j hj => by have := HP.out j hj (by omega); omega))
          go_wp2_with fail
          refine HD.out.mono ?_
          rintro e w' ⟨rfl, rfl⟩
          go_wp2_with fail
          go_ret2
          exact ⟨by rw [HT.out.1, HT.out.2]; rfl, rfl⟩
set_option maxHeartbeats 1600000 in
theorem same_any (l m : List Int) (A B : Option Addr) (c d : Nat) (w : World) (hs : Seg w w.heap.size A (l.map (Value.int .i64))) (ht : Seg w w.heap.size B (m.map (Value.int .i64))) (hn : l.length ≤ 1000000) (he : l = m) :
    Calls Try.prog 16 #[.slice A l.length c, .slice B m.length d] w fun e w' => e = .returned (.bool true) ∧ Below w.heap.size w w' := by
  subst he
  have HS := Lib.hid hs
  have HT := Lib.hid ht
  clear hs ht
  go_enter Try.func16, Try.ntmps16
  go_wp2_with fail
  go_loopw [5] (fun i wr => ∃ k : Nat, k ≤ l.length ∧ i = .int .i64 k ∧ Hid (Below w.heap.size w wr)) (fun i _ => l.length - (intOf i).toNat)
  case atStart => exact ⟨0, Nat.zero_le _, rfl, Below.refl _ _⟩
  case round =>
    obtain ⟨k, hk, rfl, HB⟩ := hrel
    by_cases hlt : k < l.length
    · obtain ⟨b, o, rfl, hb, hc⟩ := (HS.out.below HB.out).at (k := k) (by simpa using hlt)
      obtain ⟨b', o', rfl, hb', hc'⟩ := (HT.out.below HB.out).at (k := k) (by simpa using hlt)
      rw [List.getElem_map] at hc hc'
      generalize l[k] = y at *
      have i1 : (0 : Int) ≤ (k : Int) := by omega
      have i2 : (k : Int) < (l.length : Int) := by omega
      go_wp2_with fail
      go_quiet (fail)
      have HB2 := Lib.hid (below_drewN HB.out nq)
      clear hc hc' HB
      generalize wr.drewN nq = w2 at HB2 ⊢
      go_wp2_with fail
      go_roundw
      case rel => exact ⟨k + 1, by omega, by go_num, HB2⟩
      case measure => simp [intOf]; omega
    · go_wp2_with fail
      go_ret
      exact ⟨rfl, HB.out⟩
end Go.Proofs.Ytblplkajgbbkdaa
