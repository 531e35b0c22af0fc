/-
  What complineref23.There, the law's own few and rank, and the page's example of layer 23 come to, over this seat's translation: contracts for callers.
-/
import Derived.Test.YtglpnpjjjihghaaFl9
namespace Go.Proofs.Ytglpnpjjjihghaa
open Go.RowKit

/-- What is there of a source. -/
def thereV (p : Pol) (k m : Int) : Int :=
  if 1 ≤ m ∧ m ≤ p.co.length ∧ k = 8 then atI p.co m else if 1 ≤ m ∧ m ≤ p.co.length ∧ k = 9 then atI p.fu m else if m = 0 ∧ k = 3 then p.line else if m = 0 ∧ k = 4 then p.cap else -1
set_option maxRecDepth 100000 in
set_option maxHeartbeats 1600000 in
theorem there_any (p : Pol) (k m : Int) (w : World) (h : PolOk w p) (hl : p.fu.length = p.co.length) (hc : p.co.length ≤ 1000) :
    Calls Try.prog 21 #[p.val, .agg #[.int .i64 k, .int .i64 m]] w fun e w' => e = .returned (.int .i64 (thereV p k m)) ∧ Below w.heap.size w w' := by
  have HB0 : Hid (Below w.heap.size w ((w.alloc (.cells #[.slice p.Ac p.co.length p.cc, .slice p.Af p.fu.length p.cf, .int .i64 p.line, .int .i64 p.cap] 37)).alloc (.cells #[.int .i64 k, .int .i64 m] 45))) := Lib.hid (((Below.refl _ _).alloc (Nat.le_refl _) _).alloc (by simp) _)
  have HC := Lib.hid (h.c.seg.below HB0.out)
  have HF := Lib.hid (h.f.seg.below HB0.out)
  have HT : Hid (thereV p k m = if 1 ≤ m ∧ m ≤ p.co.length ∧ k = 8 then atI p.co m else if 1 ≤ m ∧ m ≤ p.co.length ∧ k = 9 then atI p.fu m else if m = 0 ∧ k = 3 then p.line else if m = 0 ∧ k = 4 then p.cap else -1) := Lib.hid rfl
  have HL := Lib.hid hl
  have hfl : p.fu.length ≤ p.co.length := by omega
  have hfg : p.co.length ≤ p.fu.length := by omega
  clear h hl
  generalize thereV p k m = tv at *
  unfold Pol.val
  by_cases hm : 1 ≤ m ∧ m ≤ p.co.length
  · obtain ⟨s, hs, rfl⟩ : ∃ s : Nat, s < p.co.length ∧ m = (s : Int) + 1 := ⟨(m - 1).toNat, by omega, by omega⟩
    have hs2 : s < p.fu.length := by omega
    have hkw : IntKind.i64.wrap ((s : Int) + 1 - 1) = (s : Int) := by rw [IntWalk.i64_in _ (by omega)]; omega
    have hkw2 : IntKind.i64.wrap (s : Int) = (s : Int) := IntWalk.i64_in _ (by omega)
    have hsb : (s : Int) < (p.co.length : Int) := by omega
    have hsf : (s : Int) < (p.fu.length : Int) := by omega
    have hg1 : decide ((1 : Int) ≤ (s : Int) + 1) = true := decide_eq_true (by omega)
    have hg2 : decide ((s : Int) + 1 ≤ (p.co.length : Int)) = true := decide_eq_true (by omega)
    have hg3 : ((s : Int) + 1 == 0) = false := by rw [beq_eq_false_iff_ne]; omega
    by_cases h8 : k = 8
    · subst h8
      have hE : tv = p.co[s] := by rw [HT.out, if_pos ⟨by omega, hm.2, rfl⟩, atI_at hs]
      have HE := Lib.hid hE
      obtain ⟨bc, oc, hA, hbc, hcc⟩ := int_at HC.out hs
      rw [hA] at HB0 hcc ⊢
      clear hE HT hm
      go_enter Try.func21, Try.ntmps21
      go_wp2_with fail
      go_ret
      exact ⟨ret_int HE.out.symm, HB0.out⟩
    · have h8b : (k == 8) = false := by rw [beq_eq_false_iff_ne]; exact h8
      by_cases h9 : k = 9
      · subst h9
        have hE : tv = p.fu[s] := by rw [HT.out, if_neg (by omega), if_pos ⟨by omega, hm.2, rfl⟩, atI_at hs2]
        have HE := Lib.hid hE
        obtain ⟨bc, oc, hA, hbc, hcc⟩ := int_at HF.out hs2
        rw [hA] at HB0 hcc ⊢
        clear hE HT hm
        go_enter Try.func21, Try.ntmps21
        go_wp2_with fail
        go_ret
        exact ⟨ret_int HE.out.symm, HB0.out⟩
      · have h9b : (k == 9) = false := by rw [beq_eq_false_iff_ne]; exact h9
        have HE : Hid (tv = -1) := Lib.hid (by rw [HT.out, if_neg (by omega), if_neg (by omega), if_neg (by omega), if_neg (by omega)])
        clear HT hm
        go_enter Try.func21, Try.ntmps21
        go_wp2_with fail
        go_ret
        exact ⟨ret_int HE.out.symm, HB0.out⟩
  · by_cases hm0 : m = 0
    · subst hm0
      by_cases h3 : k = 3
      · subst h3
        have HE : Hid (tv = p.line) := Lib.hid (by rw [HT.out, if_neg (by omega), if_neg (by omega), if_pos ⟨rfl, rfl⟩])
        clear HT hm
        go_enter Try.func21, Try.ntmps21
        go_wp2_with fail
        go_ret
        exact ⟨ret_int HE.out.symm, HB0.out⟩
      · have h3b : (k == 3) = false := by rw [beq_eq_false_iff_ne]; exact h3
        by_cases h4 : k = 4
        · subst h4
          have HE : Hid (tv = p.cap) := Lib.hid (by rw [HT.out, if_neg (by omega), if_neg (by omega), if_neg (by omega), if_pos ⟨rfl, rfl⟩])
          clear HT hm
          go_enter Try.func21, Try.ntmps21
          go_wp2_with fail
          go_ret
          exact ⟨ret_int HE.out.symm, HB0.out⟩
        · have h4b : (k == 4) = false := by rw [beq_eq_false_iff_ne]; exact h4
          have HE : Hid (tv = -1) := Lib.hid (by rw [HT.out, if_neg (by omega), if_neg (by omega), if_neg (by omega), if_neg (by omega)])
          clear HT hm
          go_enter Try.func21, Try.ntmps21
          go_wp2_with fail
          go_ret
          exact ⟨ret_int HE.out.symm, HB0.out⟩
    · have hm0b : (m == 0) = false := by rw [beq_eq_false_iff_ne]; exact hm0
      have HE : Hid (tv = -1) := Lib.hid (by rw [HT.out, if_neg (by omega), if_neg (by omega), if_neg (by omega), if_neg (by omega)])
      clear HT
      by_cases hm1 : 1 ≤ m
      · have hg1 : decide (1 ≤ m) = true := decide_eq_true hm1
        have hg2 : decide (m ≤ (p.co.length : Int)) = false := decide_eq_false (by omega)
        clear hm
        go_enter Try.func21, Try.ntmps21
        go_wp2_with fail
        go_ret
        exact ⟨ret_int HE.out.symm, HB0.out⟩
      · have hg1 : decide (1 ≤ m) = false := decide_eq_false hm1
        clear hm
        go_enter Try.func21, Try.ntmps21
        go_wp2_with fail
        go_ret
        exact ⟨ret_int HE.out.symm, HB0.out⟩
/-- Where a source stands. -/
def rankV (os : List Int) (k m : Int) : Int := if k = 8 then m else if k = 9 then (if os.contains m then wrap64 (100 + m) else 200) else if k = 3 then 300 else 400
set_option maxHeartbeats 800000 in
theorem rank_any (os : List Int) (k m : Int) (A : Option Addr) (c : Nat) (w : World) (hs : Seg w w.heap.size A (os.map (Value.int .i64))) (hl : os.length ≤ 100000) :
    Calls Try.prog 18 #[.slice A os.length c, .agg #[.int .i64 k, .int .i64 m]] w fun e w' => e = .returned (.int .i64 (rankV os k m)) ∧ Below w.heap.size w w' := by
  have HB0 : Hid (Below w.heap.size w (w.alloc (.cells #[.int .i64 k, .int .i64 m] 45))) := Lib.hid ((Below.refl _ _).alloc (Nat.le_refl _) _)
  have HO := Lib.hid (out23_any os m A c (w.alloc (.cells #[.int .i64 k, .int .i64 m] 45)) ((hs.below HB0.out).mono HB0.out.size) hl)
  have HR : Hid (rankV os k m = if k = 8 then m else if k = 9 then (if os.contains m then wrap64 (100 + m) else 200) else if k = 3 then 300 else 400) := Lib.hid rfl
  clear hs
  generalize rankV os k m = rv at *
  generalize os.contains m = oc at *
  by_cases h8 : k = 8
  · subst h8
    have HE : Hid (rv = m) := Lib.hid (by rw [HR.out, if_pos rfl])
    clear HR
    go_enter Try.func18, Try.ntmps18
    go_wp2_with fail
    go_ret
    exact ⟨ret_int HE.out.symm, HB0.out⟩
  · have h8b : (k == 8) = false := by rw [beq_eq_false_iff_ne]; exact h8
    by_cases h9 : k = 9
    · subst h9
      cases oc with
      | true =>
        have HE : Hid (rv = wrap64 (100 + m)) := Lib.hid (by rw [HR.out, if_neg (by decide), if_pos rfl, if_pos rfl])
        clear HR
        go_enter Try.func18, Try.ntmps18
        go_wp2_with fail
        refine HO.out.mono ?_
        rintro e w1 ⟨rfl, rfl⟩
        go_wp2_with fail
        go_ret
        exact ⟨ret_int HE.out.symm, HB0.out⟩
      | false =>
        have HE : Hid (rv = 200) := Lib.hid (by rw [HR.out, if_neg (by decide), if_pos rfl]; rfl)
        clear HR
        go_enter Try.func18, Try.ntmps18
        go_wp2_with fail
        refine HO.out.mono ?_
        rintro e w1 ⟨rfl, rfl⟩
        go_wp2_with fail
        go_ret
        exact ⟨ret_int HE.out.symm, HB0.out⟩
    · have h9b : (k == 9) = false := by rw [beq_eq_false_iff_ne]; exact h9
      by_cases h3 : k = 3
      · subst h3
        have HE : Hid (rv = 300) := Lib.hid (by rw [HR.out, if_neg (by decide), if_neg (by decide), if_pos rfl])
        clear HR
        go_enter Try.func18, Try.ntmps18
        go_wp2_with fail
        go_ret
        exact ⟨ret_int HE.out.symm, HB0.out⟩
      · have h3b : (k == 3) = false := by rw [beq_eq_false_iff_ne]; exact h3
        have HE : Hid (rv = 400) := Lib.hid (by rw [HR.out, if_neg h8, if_neg h9, if_neg h3])
        clear HR
        go_enter Try.func18, Try.ntmps18
        go_wp2_with fail
        go_ret
        exact ⟨ret_int HE.out.symm, HB0.out⟩
def few23 (p : Pol) (os : List Int) : Bool := decide (p.co.length ≤ 20) && (decide (p.fu.length ≤ 20) && decide (os.length ≤ 20))
set_option maxHeartbeats 800000 in
theorem few23_any (p : Pol) (os : List Int) (A : Option Addr) (c : Nat) (w : World) (h1 : p.co.length ≤ maxLen) (h2 : p.fu.length ≤ maxLen) (h3 : os.length ≤ maxLen) :
    Calls Try.prog 15 #[p.val, .slice A os.length c] w fun e w' => e = .returned (.bool (few23 p os)) ∧ Below w.heap.size w w' := by
  have HB0 : Hid (Below w.heap.size w (w.alloc (.cells #[.slice p.Ac p.co.length p.cc, .slice p.Af p.fu.length p.cf, .int .i64 p.line, .int .i64 p.cap] 37))) := Lib.hid ((Below.refl _ _).alloc (Nat.le_refl _) _)
  have HF : Hid (few23 p os = (decide (p.co.length ≤ 20) && (decide (p.fu.length ≤ 20) && decide (os.length ≤ 20)))) := Lib.hid rfl
  unfold maxLen at h1 h2 h3
  generalize few23 p os = fb at *
  unfold Pol.val
  by_cases g1 : p.co.length ≤ 20
  · have d1 : decide ((p.co.length : Int) ≤ 20) = true := decide_eq_true (by omega)
    by_cases g2 : p.fu.length ≤ 20
    · have d2 : decide ((p.fu.length : Int) ≤ 20) = true := decide_eq_true (by omega)
      by_cases g3 : os.length ≤ 20
      · have d3 : decide ((os.length : Int) ≤ 20) = true := decide_eq_true (by omega)
        have HE : Hid (true = fb) := Lib.hid (by rw [HF.out, decide_eq_true g1, decide_eq_true g2, decide_eq_true g3]; rfl)
        clear HF
        go_enter Try.func15, Try.ntmps15
        go_wp2_with fail
        go_ret
        exact ⟨ret_bool HE.out, HB0.out⟩
      · have d3 : decide ((os.length : Int) ≤ 20) = false := decide_eq_false (by omega)
        have HE : Hid (false = fb) := Lib.hid (by rw [HF.out, decide_eq_false g3, Bool.and_false, Bool.and_false])
        clear HF
        go_enter Try.func15, Try.ntmps15
        go_wp2_with fail
        go_ret
        exact ⟨ret_bool HE.out, HB0.out⟩
    · have d2 : decide ((p.fu.length : Int) ≤ 20) = false := decide_eq_false (by omega)
      have HE : Hid (false = fb) := Lib.hid (by rw [HF.out, decide_eq_false g2, Bool.false_and, Bool.and_false])
      clear HF
      go_enter Try.func15, Try.ntmps15
      go_wp2_with fail
      go_ret
      exact ⟨ret_bool HE.out, HB0.out⟩
  · have d1 : decide ((p.co.length : Int) ≤ 20) = false := decide_eq_false (by omega)
    have HE : Hid (false = fb) := Lib.hid (by rw [HF.out, decide_eq_false g1, Bool.false_and])
    clear HF
    go_enter Try.func15, Try.ntmps15
    go_wp2_with fail
    go_ret
    exact ⟨ret_bool HE.out, HB0.out⟩
end Go.Proofs.Ytglpnpjjjihghaa
