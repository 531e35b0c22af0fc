/-
  The laws AuditFinds and AuditParts return true, over this seat's translation: their walks.
-/
import Derived.Test.YtikcodnmlenpeaaDoorRefWhy
namespace Go.Proofs.YtikcodnmlenpeaaDoor
open Go.RowKit

set_option maxRecDepth 100000 in
set_option maxHeartbeats 1600000 in
theorem finds_any (a b : Nat) (l : List Ev) (A : Option Addr) (c : Nat) (w : World) (ha : a < 256) (hb : b < 256) (hw : WordsAt w) (hw0 : 0 < w.heap.size) (hs : Seg w w.heap.size A (evRows l)) (hn : l.length ≤ maxLen) (hI : ∀ x ∈ l, I64 x.n) :
    Calls Tryd.prog 4 #[.int .u8 a, .int .u8 b, .slice A l.length c] w fun e w' => e = .returned (.bool true) ∧ Below w.heap.size w w' := by
  have HW := Lib.hid hw
  unfold maxLen at hn
  by_cases hbig : 60 < l.length
  · have hd : decide ((60 : Int) < (l.length : Int)) = true := by simp; omega
    clear hw hI hs
    go_enter Tryd.func4, Tryd.ntmps4
    go_wp2_with (go_at_call 7; refine (awake_any _ HW.out hw0).mono ?_; rintro e w1 ⟨rfl, hb1⟩)
    go_ret
    exact ⟨rfl, hb1⟩
  have hl : ¬ (60 : Int) < (l.length : Int) := by omega
  obtain ⟨n, hF⟩ := first_exists ((a % 17 : Nat) : Int) ((b % 9 : Nat) : Int) l
  have HC := Lib.hid (wrong_any l ((a % 17 : Nat) : Int) (b % 9) n (by omega) (by omega) A c w hF hI hs (by omega) hw hw0)
  have HR : Hid (∀ W, Below w.heap.size w W → Calls Tryd.prog 13 #[.int .i64 ((a % 17 : Nat) : Int), .int .i64 ((b % 9 : Nat) : Int), .slice A l.length c] W fun e w' => e = .returned (.tuple #[.int .i64 n, .int .i64 (whyAt l n (whyN ((a % 17 : Nat) : Int) ((b % 9 : Nat) : Int) l))]) ∧ Below W.heap.size W w') := fun W hW => rwrong_any _ _ l A c n W hF hI ((hs.below hW).mono hW.size) (by omega)
  have e1 : (a : Int) % 17 = ((a % 17 : Nat) : Int) := by omega
  have e2 : (b : Int) % 9 = ((b % 9 : Nat) : Int) := by omega
  have d1 : 0 ≤ (a : Int) := by omega
  have d2 : (a : Int) ≤ 255 := by omega
  have d3 : 0 ≤ (b : Int) := by omega
  have d4 : (b : Int) ≤ 255 := by omega
  have d5 : a % 17 ≤ 16 := by omega
  have d6 : b % 9 ≤ 8 := by omega
  clear hF hI hs hw ha hb
  generalize a % 17 = m at *
  generalize b % 9 = s at *
  generalize whyAt l n (whyN (m : Int) (s : Int) l) = y at *
  go_enter Tryd.func4, Tryd.ntmps4
  go_wp2_with fail
  refine HC.out.mono ?_
  rintro e w1 ⟨rfl, hb1⟩
  have HB1 := Lib.hid hb1
  clear hb1
  go_wp2_with fail
  refine (HR.out _ HB1.out).mono ?_
  rintro e w2 ⟨rfl, hb2⟩
  have HB2 : Hid (Below w.heap.size w w2) := HB1.out.trans (hb2.mono HB1.out.size)
  clear hb2
  have s2 := HB2.out.size
  go_wp2_with fail
  refine (awake_any _ (HW.out.below hw0 HB2.out) (by omega)).mono ?_
  rintro e w3 ⟨rfl, hb3⟩
  have HB3 : Hid (Below w.heap.size w w3) := HB2.out.trans (hb3.mono s2)
  clear hb3
  go_wp2_with fail
  go_ret
  exact ⟨rfl, HB3.out⟩

/-! ### Beginnings -/
theorem why_take {ms ss : Int} {l : List Ev} {n k : Nat} (hk : k < l.length) (hkn : k < n) : whyP ms ss (l.take n) k ((l.take n)[k]'(by rw [List.length_take]; omega)) = whyP ms ss l k l[k] := by
  have e1 : (l.take n)[k]'(by rw [List.length_take]; omega) = l[k] := List.getElem_take
  have e2 : (l.take n).take k = l.take k := by rw [List.take_take, Nat.min_eq_left (by omega)]
  rw [e1]
  unfold whyP houseS
  rw [e2]
theorem first_take {ms ss : Int} {l : List Ev} {m n : Nat} (h : First ms ss l m) (hn : n ≤ l.length) : First ms ss (l.take n) (min n m) := by
  have hl : (l.take n).length = n := by rw [List.length_take]; omega
  refine ⟨by omega, fun i hi him => ?_, fun hb => ?_⟩
  · rw [why_take (by omega) (by omega)]
    exact h.fine i (by omega) (by omega)
  · have hmn : m < n := by omega
    have e : min n m = m := by omega
    have hml : m < l.length := by omega
    have hbad := h.bad hml
    have := why_take (ms := ms) (ss := ss) hml hmn
    have key : ∀ k (hk : k < (l.take n).length), k = m → whyP ms ss (l.take n) k (l.take n)[k] ≠ 0 := fun k hk ek => by
      subst ek
      rw [this]
      exact hbad
    exact key _ hb e
theorem whyAt_take {ms ss : Int} {l : List Ev} {m n : Nat} (hn : n ≤ l.length) : whyAt (l.take n) (min n m) (whyN ms ss (l.take n)) = if n ≤ m then 0 else whyAt l m (whyN ms ss l) := by
  have hl : (l.take n).length = n := by rw [List.length_take]; omega
  by_cases c : n ≤ m
  · rw [if_pos c]
    unfold whyAt
    rw [if_neg (by omega)]
  · rw [if_neg c]
    have e : min n m = m := by omega
    rw [e]
    unfold whyAt whyN
    have h1 : m < (l.take n).length := by omega
    have h2 : m < l.length := by omega
    rw [if_pos h1, if_pos h2, dif_pos h1, dif_pos h2]
    exact why_take h2 (by omega)
theorem whyAt_zero {ms ss : Int} {l : List Ev} {m : Nat} (h : First ms ss l m) : (whyAt l m (whyN ms ss l) == 0) = (m == l.length) := by
  have hle := h.le
  unfold whyAt
  by_cases c : m < l.length
  · have hb := h.bad c
    rw [if_pos c]
    unfold whyN
    rw [dif_pos c]
    have e : (m == l.length) = false := by rw [beq_eq_false_iff_ne]; omega
    rw [e, beq_eq_false_iff_ne]
    exact hb
  · rw [if_neg c]
    have e : m = l.length := by omega
    subst e
    simp
theorem seg_evs {w : World} {B : Nat} {A : Option Addr} {l : List Ev} (h : Seg w B A (evRows l)) (n : Nat) : Seg w B A (evRows (l.take n)) := fun j u hu => by
  refine h j u ?_
  have e : evRows l = evRows (l.take n) ++ evRows (l.drop n) := by
    unfold evRows
    rw [← List.flatMap_append, List.take_append_drop]
  rw [e, List.getElem?_append_left (List.getElem?_eq_some_iff.1 hu).1]
  exact hu
set_option maxRecDepth 100000 in
set_option maxHeartbeats 3200000 in
theorem parts_any (a b : Nat) (l : List Ev) (A : Option Addr) (c : Nat) (w : World) (ha : a < 256) (hb : b < 256) (hw : WordsAt w) (hw0 : 0 < w.heap.size) (hs : Seg w w.heap.size A (evRows l)) (hlc : l.length ≤ c) (hI : ∀ x ∈ l, I64 x.n) :
    Calls Tryd.prog 5 #[.int .u8 a, .int .u8 b, .slice A l.length c] w fun e w' => e = .returned (.bool true) ∧ Below w.heap.size w w' := by
  have HW := Lib.hid hw
  by_cases hbig : 60 < l.length
  · have hd : decide ((60 : Int) < (l.length : Int)) = true := by simp; omega
    clear hw hI hs
    go_enter Tryd.func5, Tryd.ntmps5
    go_wp2_with (go_at_call 7; refine (awake_any _ HW.out hw0).mono ?_; rintro e w1 ⟨rfl, hb1⟩)
    go_ret
    exact ⟨rfl, hb1⟩
  have hl : ¬ (60 : Int) < (l.length : Int) := by omega
  obtain ⟨n, hF⟩ := first_exists ((a % 17 : Nat) : Int) ((b % 9 : Nat) : Int) l
  have HC := Lib.hid (wrong_any l ((a % 17 : Nat) : Int) (b % 9) n (by omega) (by omega) A c w hF hI hs (by omega) hw hw0)
  have HP : Hid (∀ k, k ≤ l.length → ∀ W, Below w.heap.size w W → Calls Tryd.prog 12 #[.int .i64 ((a % 17 : Nat) : Int), .int .i64 ((b % 9 : Nat) : Int), .slice A k c] W fun e w' => e = .returned (.tuple #[.int .i64 (min k n : Nat), .int .i64 (if k ≤ n then 0 else whyAt l n (whyN ((a % 17 : Nat) : Int) ((b % 9 : Nat) : Int) l))]) ∧ Below W.heap.size W w') := fun k hk W hW => by
    have hlk : (l.take k).length = k := by rw [List.length_take]; omega
    have h := wrong_any (l.take k) ((a % 17 : Nat) : Int) (b % 9) (min k n) (by omega) (by omega) A c W (first_take hF hk) (fun x hx => hI x (List.mem_of_mem_take hx)) (seg_evs ((hs.below hW).mono hW.size) k) (by omega) (hw.below hw0 hW) (by have := hW.size; omega)
    rw [hlk, whyAt_take hk] at h
    exact h
  have hz := whyAt_zero hF
  have hnl := hF.le
  have HNIL : Hid (A = none → l.length = 0) := fun h => by
    rcases Nat.eq_zero_or_pos l.length with h0 | h0
    · exact h0
    · obtain ⟨b', o', e, _⟩ := ev_at hs h0
      rw [h] at e
      cases e
  have e1 : (a : Int) % 17 = ((a % 17 : Nat) : Int) := by omega
  have e2 : (b : Int) % 9 = ((b % 9 : Nat) : Int) := by omega
  have d1 : 0 ≤ (a : Int) := by omega
  have d2 : (a : Int) ≤ 255 := by omega
  have d3 : 0 ≤ (b : Int) := by omega
  have d4 : (b : Int) ≤ 255 := by omega
  have d5 : a % 17 ≤ 16 := by omega
  have d6 : b % 9 ≤ 8 := by omega
  clear hF hI hs hw ha hb
  generalize a % 17 = m at *
  generalize b % 9 = s at *
  generalize whyAt l n (whyN (m : Int) (s : Int) l) = y at *
  have t1 : decide ((n : Int) < 0) = false := decide_eq_false (by omega)
  have t2 : decide ((l.length : Int) < (n : Int)) = false := decide_eq_false (by omega)
  have t2' : decide (l.length < n) = false := decide_eq_false (by omega)
  have HZ := Lib.hid hz
  clear hz
  obtain ⟨q, hq⟩ : ∃ q, q = (n == l.length) := ⟨_, rfl⟩
  have z1 : (y == 0) = q := by rw [hq]; exact HZ.out
  have z2 : ((n : Int) == (l.length : Int)) = q := by rw [hq, Bool.eq_iff_iff, beq_iff_eq, beq_iff_eq]; omega
  have z3 : (n == l.length) = q := hq.symm
  clear hq
  go_enter Tryd.func5, Tryd.ntmps5
  go_wp2_with fail
  refine HC.out.mono ?_
  rintro e w1 ⟨rfl, hb1⟩
  have HB1 := Lib.hid hb1
  clear hb1
  cases q
  all_goals
    go_wp2_with fail
    clear z1 z2 z3 t1 t2 t2'
    go_loopw [11, 12, 13] (fun i _ _ wr => ∃ k : Nat, k ≤ l.length + 1 ∧ i = .int .i64 k ∧ Hid (Below w.heap.size w wr)) (fun i _ _ _ => l.length + 1 - (intOf i).toNat)
    case atStart => exact ⟨0, by omega, rfl, HB1.out⟩
    case round =>
      obtain ⟨k, hk, rfl, HB⟩ := hrel
      have hsz := HB.out.size
      by_cases hkl : k ≤ l.length
      · have HPK := Lib.hid (HP.out k hkl _ HB.out)
        have hk0 : (0 : Int) ≤ (k : Int) := by omega
        have hkc : (k : Int) ≤ (c : Int) := by omega
        have hkl1 : (k : Int) ≤ (l.length : Int) := by omega
        by_cases hkn : k ≤ n
        · rw [if_pos hkn, Nat.min_eq_left hkn] at HPK
          have s1 : decide ((k : Int) ≤ (n : Int)) = true := decide_eq_true (by omega)
          have s2 : decide ((n : Int) < (k : Int)) = false := decide_eq_false (by omega)
          have s1' : decide (k ≤ n) = true := decide_eq_true hkn
          have s2' : decide (n < k) = false := decide_eq_false (by omega)
          go_wp2_with fail
          refine HPK.out.mono ?_
          rintro e w2 ⟨rfl, hb2⟩
          have HB2 : Hid (Below w.heap.size w w2) := HB.out.trans (hb2.mono hsz)
          clear hb2
          go_wp2_with fail
          go_roundw
          case rel => exact ⟨k + 1, by omega, by go_num, HB2.out⟩
          case measure => simp [intOf]; omega
        · rw [if_neg hkn, Nat.min_eq_right (by omega)] at HPK
          have s1 : decide ((k : Int) ≤ (n : Int)) = false := decide_eq_false (by omega)
          have s2 : decide ((n : Int) < (k : Int)) = true := decide_eq_true (by omega)
          have s1' : decide (k ≤ n) = false := decide_eq_false hkn
          have s2' : decide (n < k) = true := decide_eq_true (by omega)
          go_wp2_with fail
          refine HPK.out.mono ?_
          rintro e w2 ⟨rfl, hb2⟩
          have HB2 : Hid (Below w.heap.size w w2) := HB.out.trans (hb2.mono hsz)
          clear hb2
          go_wp2_with fail
          go_roundw
          case rel => exact ⟨k + 1, by omega, by go_num, HB2.out⟩
          case measure => simp [intOf]; omega
      · obtain rfl : k = l.length + 1 := by omega
        have hn1 : ¬ ((l.length + 1 : Nat) : Int) ≤ (l.length : Int) := by omega
        have hw2 := HW.out.below hw0 HB.out
        have HW2 := Lib.hid hw2
        clear hw2
        go_wp2_with fail
        refine (awake_any _ HW2.out (by omega)).mono ?_
        rintro e w3 ⟨rfl, hb3⟩
        have HB3 : Hid (Below w.heap.size w w3) := HB.out.trans (hb3.mono hsz)
        clear hb3
        go_wp2_with fail
        go_ret
        exact ⟨rfl, HB3.out⟩
end Go.Proofs.YtikcodnmlenpeaaDoor
