/-
  What fall.place comes to, over this seat's translation: a contract for callers.
-/
import Derived.Test.YtglpnpjjjihghaaFl9
import Derived.Deep.QuietTactic
import Derived.BigQuiet
namespace Go.Proofs.Ytglpnpjjjihghaa
open Go.RowKit

/-- Where a source's amount stands. -/
def plcA (bp n g1 o1 g2 o2 : Nat) (k m : Int) : Option Addr :=
  if 1 ≤ m ∧ m ≤ n ∧ k = 8 then some ⟨g1, o1 + (m - 1).toNat, none⟩ else if 1 ≤ m ∧ m ≤ n ∧ k = 9 then some ⟨g2, o2 + (m - 1).toNat, none⟩ else if m = 0 ∧ k = 3 then some ⟨bp, 2, none⟩ else if m = 0 ∧ k = 4 then some ⟨bp, 3, none⟩ else none
theorem ret_ptr {a b : Option Addr} (h : a = b) : Ending.returned (.pointer a) = .returned (.pointer b) := by rw [h]
set_option maxRecDepth 100000 in
set_option maxHeartbeats 1600000 in
theorem place_any (bp n n2 g1 o1 g2 o2 : Nat) (A1 A2 : Option Addr) (d1 d2 : Nat) (k m : Int) (w : World) (h0 : w.cell? ⟨bp, 0, none⟩ = some (.slice A1 n d1)) (h1 : w.cell? ⟨bp, 1, none⟩ = some (.slice A2 n2 d2)) (hb : bp < w.heap.size) (hf1 : n2 ≤ n) (hf2 : n ≤ n2) (hl : n ≤ 1000) (hA1 : 0 < n → A1 = some ⟨g1, o1, none⟩) (hA2 : 0 < n → A2 = some ⟨g2, o2, none⟩) :
    Calls Try.prog 55 #[.pointer (some ⟨bp, 0, none⟩), .agg #[.int .i64 k, .int .i64 m]] w fun e w' => e = .returned (.pointer (plcA bp n g1 o1 g2 o2 k m)) ∧ Below w.heap.size w w' := by
  have HB0 : Hid (Below w.heap.size w (w.alloc (.cells #[.int .i64 k, .int .i64 m] 45))) := Lib.hid ((Below.refl _ _).alloc (Nat.le_refl _) _)
  have e0 : (w.alloc (.cells #[.int .i64 k, .int .i64 m] 45)).cell? ⟨w.heap.size, 0, none⟩ = some (.int .i64 k) := by rw [cell_new _ _ _ _ rfl]; rfl
  have e1 : (w.alloc (.cells #[.int .i64 k, .int .i64 m] 45)).cell? ⟨w.heap.size, 1, none⟩ = some (.int .i64 m) := by rw [cell_new _ _ _ _ rfl]; rfl
  have c0 : (w.alloc (.cells #[.int .i64 k, .int .i64 m] 45)).cell? ⟨bp, 0, none⟩ = some (.slice A1 n d1) := (cell_old _ _ _ hb).trans h0
  have c1 : (w.alloc (.cells #[.int .i64 k, .int .i64 m] 45)).cell? ⟨bp, 1, none⟩ = some (.slice A2 n2 d2) := (cell_old _ _ _ hb).trans h1
  obtain ⟨r, hr⟩ : ∃ r, r = plcA bp n g1 o1 g2 o2 k m := ⟨_, rfl⟩
  rw [← hr]
  unfold plcA at hr
  have HR := Lib.hid hr
  clear hr h0 h1 hb
  by_cases hm : 1 ≤ m ∧ m ≤ n
  · obtain ⟨s, hs, rfl⟩ : ∃ s : Nat, s < n ∧ m = (s : Int) + 1 := ⟨(m - 1).toNat, by omega, by omega⟩
    have hs2 : s < n2 := by omega
    rw [hA1 (by omega)] at c0
    rw [hA2 (by omega)] at c1
    clear hA1 hA2
    have hkw : IntKind.i64.wrap ((s : Int) + 1 - 1) = (s : Int) := by rw [IntWalk.i64_in _ (by omega)]; omega
    have hkw2 : IntKind.i64.wrap (s : Int) = (s : Int) := IntWalk.i64_in _ (by omega)
    have hsb : (s : Int) < (n : Int) := by omega
    have hsf : (s : Int) < (n2 : Int) := by omega
    have hg1 : decide ((1 : Int) ≤ (s : Int) + 1) = true := decide_eq_true (by omega)
    have hg2 : decide ((s : Int) + 1 ≤ (n : Int)) = true := decide_eq_true (by omega)
    have hg3 : ((s : Int) + 1 == 0) = false := by rw [beq_eq_false_iff_ne]; omega
    have hts : ((s : Int) + 1 - 1).toNat = s := by omega
    by_cases h8 : k = 8
    · subst h8
      have HE : Hid (r = some ⟨g1, o1 + s, none⟩) := Lib.hid (by rw [HR.out, if_pos ⟨by omega, by omega, rfl⟩, hts])
      clear HR hm hts
      go_enter Try.func55, Try.ntmps55
      go_wp2_with fail
      go_quiet (fail)
      go_wp2_with fail
      go_quiet (fail)
      go_wp2_with fail
      go_ret
      exact ⟨ret_ptr HE.out.symm, by first | exact below_drewN HB0.out _ | exact below_drewN (below_drewN HB0.out _) _⟩
    · have h8b : (k == 8) = false := by rw [beq_eq_false_iff_ne]; exact h8
      by_cases h9 : k = 9
      · subst h9
        have HE : Hid (r = some ⟨g2, o2 + s, none⟩) := Lib.hid (by rw [HR.out, if_neg (by omega), if_pos ⟨by omega, by omega, rfl⟩, hts])
        clear HR hm hts
        go_enter Try.func55, Try.ntmps55
        go_wp2_with fail
        go_quiet (fail)
        go_wp2_with fail
        go_quiet (fail)
        go_wp2_with fail
        go_ret
        exact ⟨ret_ptr HE.out.symm, by first | exact below_drewN HB0.out _ | exact below_drewN (below_drewN HB0.out _) _⟩
      · have h9b : (k == 9) = false := by rw [beq_eq_false_iff_ne]; exact h9
        have HE : Hid (r = none) := Lib.hid (by rw [HR.out, if_neg (by omega), if_neg (by omega), if_neg (by omega), if_neg (by omega)])
        clear HR hm hts
        go_enter Try.func55, Try.ntmps55
        go_wp2_with fail
        go_quiet (fail)
        go_wp2_with fail
        go_ret
        exact ⟨ret_ptr HE.out.symm, by first | exact below_drewN HB0.out _ | exact below_drewN (below_drewN HB0.out _) _⟩
  · clear hA1 hA2
    by_cases hm0 : m = 0
    · subst hm0
      by_cases h3 : k = 3
      · subst h3
        have HE : Hid (r = some ⟨bp, 2, none⟩) := Lib.hid (by rw [HR.out, if_neg (by omega), if_neg (by omega), if_pos ⟨rfl, rfl⟩])
        clear HR hm
        go_enter Try.func55, Try.ntmps55
        go_wp2_with fail
        go_quiet (fail)
        go_wp2_with fail
        go_ret
        exact ⟨ret_ptr HE.out.symm, by first | exact below_drewN HB0.out _ | exact below_drewN (below_drewN HB0.out _) _⟩
      · have h3b : (k == 3) = false := by rw [beq_eq_false_iff_ne]; exact h3
        by_cases h4 : k = 4
        · subst h4
          have HE : Hid (r = some ⟨bp, 3, none⟩) := Lib.hid (by rw [HR.out, if_neg (by omega), if_neg (by omega), if_neg (by omega), if_pos ⟨rfl, rfl⟩])
          clear HR hm
          go_enter Try.func55, Try.ntmps55
          go_wp2_with fail
          go_quiet (fail)
          go_wp2_with fail
          go_ret
          exact ⟨ret_ptr HE.out.symm, by first | exact below_drewN HB0.out _ | exact below_drewN (below_drewN HB0.out _) _⟩
        · have h4b : (k == 4) = false := by rw [beq_eq_false_iff_ne]; exact h4
          have HE : Hid (r = none) := Lib.hid (by rw [HR.out, if_neg (by omega), if_neg (by omega), if_neg (by omega), if_neg (by omega)])
          clear HR hm
          cases h8 : (k == 8)
          all_goals
            cases h9 : (k == 9)
            all_goals
              go_enter Try.func55, Try.ntmps55
              go_wp2_with fail
              go_quiet (fail)
              go_wp2_with fail
              go_ret
              exact ⟨ret_ptr HE.out.symm, by first | exact below_drewN HB0.out _ | exact below_drewN (below_drewN HB0.out _) _⟩
    · have hm0b : (m == 0) = false := by rw [beq_eq_false_iff_ne]; exact hm0
      have HE : Hid (r = none) := Lib.hid (by rw [HR.out, if_neg (by omega), if_neg (by omega), if_neg (by omega), if_neg (by omega)])
      have hd : (decide ((1 : Int) ≤ m) = false) ∨ (decide ((1 : Int) ≤ m) = true ∧ decide (m ≤ (n : Int)) = false) := by
        by_cases h1 : 1 ≤ m
        · exact .inr ⟨decide_eq_true h1, decide_eq_false (by omega)⟩
        · exact .inl (decide_eq_false h1)
      clear HR hm
      rcases hd with hd1 | ⟨hd1, hd2⟩
      all_goals
        cases h8 : (k == 8)
        all_goals
          cases h9 : (k == 9)
          all_goals
            cases h3 : (k == 3)
            all_goals
              cases h4 : (k == 4)
              all_goals
                go_enter Try.func55, Try.ntmps55
                go_wp2_with fail
                go_quiet (fail)
                go_wp2_with fail
                go_ret
                exact ⟨ret_ptr HE.out.symm, by first | exact below_drewN HB0.out _ | exact below_drewN (below_drewN HB0.out _) _⟩
end Go.Proofs.Ytglpnpjjjihghaa
