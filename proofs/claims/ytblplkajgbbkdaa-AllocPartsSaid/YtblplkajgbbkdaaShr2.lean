/-
  What share.check comes to, over this seat's translation: a contract for callers.
-/
import Derived.Test.YtblplkajgbbkdaaShr1
import Derived.Test.YtblplkajgbbkdaaMoneySumD
namespace Go.Proofs.Ytblplkajgbbkdaa
open Go.RowKit Go.Lib

theorem isneg_any (x : Int) (w : World) : Calls Try.prog 72 #[.int .i64 x] w fun e w' => e = .returned (.bool (decide (x < 0))) ∧ w = w' := by
  go_enter Try.func72, Try.ntmps72
  go_wp2
  go_ret
  exact ⟨rfl, rfl⟩
/-- Is any below 0? -/
def negB (l : List Int) : Bool := l.any fun x => decide (x < 0)
theorem negB_false {l : List Int} (h : negB l = false) : ∀ x ∈ l, 0 ≤ x := by
  intro x hx
  unfold negB at h
  rw [List.any_eq_false] at h
  have := h x hx
  simp at this
  exact this
theorem negB_of {l : List Int} (h : ∀ k (hk : k < l.length), ¬ l[k] < 0) : negB l = false := by
  unfold negB
  rw [List.any_eq_false]
  intro x hx
  obtain ⟨k, hk, rfl⟩ := List.mem_iff_getElem.1 hx
  simpa using h k hk
theorem negB_true {l : List Int} {k : Nat} (hk : k < l.length) (h : l[k] < 0) : negB l = true := by
  unfold negB
  rw [List.any_eq_true]
  exact ⟨l[k], List.getElem_mem hk, by simpa using h⟩
/-- Where the first one is. -/
def IdxPost (l : List Int) (w : World) : Ending → World → Prop := fun e w' => ∃ n : Int, e = .returned (.int .i64 n) ∧ decide (0 ≤ n) = negB l ∧ w = w'
set_option maxHeartbeats 1600000 in
theorem indexNeg_any (l : List Int) (A : Option Addr) (c : Nat) (w : World) (hs : Seg w w.heap.size A (l.map (Value.int .i64))) (hn : l.length ≤ 4611686018427387904) :
    Calls Try.prog 88 #[.slice A l.length c, .func (.func 72) #[] #[]] w (IdxPost l w) := by
  have HS := Lib.hid hs
  clear hs
  go_enter Try.func88, Try.ntmps88
  go_wp2_with fail
  go_loopw [5, 8] (fun _ i wr => ∃ k : Nat, k ≤ l.length ∧ i = .int .i64 k ∧ Hid (∀ j (hj : j < l.length), j < k → 0 ≤ l[j]) ∧ wr = w) (fun _ i _ => l.length - (intOf i).toNat)
  case atStart => exact ⟨0, Nat.zero_le _, rfl, fun j _ h => by omega, rfl⟩
  case round =>
    obtain ⟨k, hk, rfl, HP, rfl⟩ := hrel
    by_cases hlt : k < l.length
    · obtain ⟨b, o, rfl, hb, hc⟩ := HS.out.at (k := k) (by simpa using hlt)
      rw [List.getElem_map] at hc
      by_cases hx : l[k] < 0
      · have HT := Lib.hid (negB_true hlt hx)
        go_wp2_with (go_at_call 72; refine (isneg_any _ _).mono ?_; rintro e w' ⟨rfl, rfl⟩)
        go_ret
        exact ⟨_, rfl, by rw [HT.out]; simp, rfl⟩
      · have HP2 : Hid (∀ j (hj : j < l.length), j < k + 1 → 0 ≤ l[j]) := by
          intro j hj hjk
          by_cases e : j = k
          · subst e; omega
          · exact HP.out j hj (by omega)
        go_wp2_with (go_at_call 72; refine (isneg_any _ _).mono ?_; rintro e w' ⟨rfl, rfl⟩)
        go_roundw
        case rel => exact ⟨k + 1, by omega, by go_num, HP2, by first | rfl | trivial⟩
        case measure => simp [intOf]; omega
    · go_wp2_with fail
      go_ret
      exact ⟨_, rfl, by rw [negB_of fun j hj => by have := HP.out j hj (by omega); omega]; rfl, rfl⟩
theorem anyNeg_any (l : List Int) (A : Option Addr) (c : Nat) (w : World) (hs : Seg w w.heap.size A (l.map (Value.int .i64))) (hn : l.length ≤ 4611686018427387904) :
    Calls Try.prog 71 #[.slice A l.length c, .func (.func 72) #[] #[]] w fun e w' => e = .returned (.bool (negB l)) ∧ w = w' := by
  have HC := Lib.hid (indexNeg_any l A c w hs hn)
  clear hs
  go_enter Try.func71, Try.ntmps71
  go_wp2_with fail
  refine HC.out.mono ?_
  rintro e w' ⟨n, rfl, hn, rfl⟩
  have HN := Lib.hid hn
  clear hn
  go_wp2_with fail
  go_ret
  exact ⟨by rw [← HN.out]; rfl, rfl⟩
/-- What is wrong with weights, and their sum. -/
def chkE (T : Int) (l : List Int) : Int := if 1024 < l.length then 6 else if T < 0 ∨ negB l = true then 1 else amtE (sumI l)
def chkV (T : Int) (l : List Int) : Int := if 1024 < l.length then 0 else if T < 0 ∨ negB l = true then 0 else amtV (sumI l)
set_option maxHeartbeats 1600000 in
theorem check_any (T : Int) (l : List Int) (A : Option Addr) (c : Nat) (w : World) (hl : ∀ x ∈ l, I64 x) (hs : Seg w w.heap.size A (l.map (Value.int .i64))) (hn : l.length ≤ maxLen) :
    Calls Try.prog 46 #[.int .i64 T, .slice A l.length c] w fun e w' => e = .returned (.tuple #[.int .i64 (chkV T l), .int .i64 (chkE T l)]) ∧ Below w.heap.size w w' := by
  unfold maxLen at hn
  by_cases h1 : 1024 < l.length
  · have e1 : chkV T l = 0 := by unfold chkV; rw [if_pos h1]
    have e2 : chkE T l = 6 := by unfold chkE; rw [if_pos h1]
    rw [e1, e2]
    clear hl hs e1 e2
    go_enter Try.func46, Try.ntmps46
    go_wp2_with fail
    go_ret2
    exact ⟨rfl, Below.refl _ _⟩
  · have h1' : l.length ≤ 1024 := by omega
    by_cases h2 : T < 0
    · have e1 : chkV T l = 0 := by unfold chkV; rw [if_neg h1, if_pos (.inl h2)]
      have e2 : chkE T l = 1 := by unfold chkE; rw [if_neg h1, if_pos (.inl h2)]
      rw [e1, e2]
      clear hl hs e1 e2
      go_enter Try.func46, Try.ntmps46
      go_wp2_with fail
      go_ret2
      exact ⟨rfl, Below.refl _ _⟩
    · have HC := Lib.hid (anyNeg_any l A c w hs (by omega))
      have h2d : decide (T < 0) = false := decide_eq_false h2
      cases h3 : negB l
      · have e1 : chkV T l = amtV (sumI l) := by unfold chkV; rw [if_neg h1, if_neg (by simp [h2, h3])]
        have e2 : chkE T l = amtE (sumI l) := by unfold chkE; rw [if_neg h1, if_neg (by simp [h2, h3])]
        rw [e1, e2]
        have HD := Lib.hid (sum_any l A c w hl hs (by omega))
        rw [h3] at HC
        clear hl hs e1 e2 h3
        go_enter Try.func46, Try.ntmps46
        go_wp2_with fail
        refine HC.out.mono ?_
        rintro e w' ⟨rfl, rfl⟩
        go_wp2_with fail
        refine HD.out.mono ?_
        rintro e w1 ⟨rfl, hb⟩
        have HB := Lib.hid hb
        clear hb
        go_wp2_with fail
        go_ret2
        exact ⟨rfl, HB.out⟩
      · have e1 : chkV T l = 0 := by unfold chkV; rw [if_neg h1, if_pos (.inr h3)]
        have e2 : chkE T l = 1 := by unfold chkE; rw [if_neg h1, if_pos (.inr h3)]
        rw [e1, e2]
        rw [h3] at HC
        clear hl hs e1 e2 h3
        go_enter Try.func46, Try.ntmps46
        go_wp2_with fail
        refine HC.out.mono ?_
        rintro e w' ⟨rfl, rfl⟩
        go_wp2_with fail
        go_ret2
        exact ⟨rfl, Below.refl _ _⟩
end Go.Proofs.Ytblplkajgbbkdaa
