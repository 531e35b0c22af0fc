/-
  The walk of FallPlans, over this seat's translation.
-/
import Derived.Test.YtglpnpjjjihghaaFl19
import Derived.Test.YtglpnpjjjihghaaRoomLaw
import Derived.Test.YtglpnpjjjihghaaFl11
import Derived.Test.YtglpnpjjjihghaaFl14
namespace Go.Proofs.Ytglpnpjjjihghaa
open Go.RowKit

theorem arg_like (p : Pol) (os : List Int) : ((polE p == 1) == (mayE p os == 1)) = true := by
  unfold mayE
  by_cases h : polE p = 0
  · rw [if_neg (by omega), h]
    split <;> rfl
  · rw [if_pos h]
    simp
theorem polE_of_may {p : Pol} {os : List Int} (h : mayE p os = 0) : polE p = 0 := by
  unfold mayE at h
  by_cases h0 : polE p = 0
  · exact h0
  · rw [if_pos h0] at h
    exact h
set_option maxRecDepth 100000 in
set_option maxHeartbeats 6400000 in
theorem plans_law (p : Pol) (os : List Int) (need : Int) (A : Option Addr) (c : Nat) (w : World) (h : PolOk w p) (h1 : p.co.length ≤ maxLen) (h2 : p.fu.length ≤ maxLen) (hs : Seg w w.heap.size A (os.map (Value.int .i64))) (h3 : os.length ≤ maxLen) (hI : ∀ x ∈ os, I64 x) (hN : I64 need) :
    Calls Try.prog 5 #[p.val, .slice A os.length c, .int .i64 need] w fun e w' => e = .returned (.bool true) ∧ Below w.heap.size w w' := by
  have HB0 : Hid (Below w.heap.size w (w.alloc (.cells #[.slice p.Ac p.co.length p.cc, .slice p.Af p.fu.length p.cf, .int .i64 p.line, .int .i64 p.cap] 37))) := Lib.hid ((Below.refl _ _).alloc (Nat.le_refl _) _)
  have HX := Lib.hid fun j => cell_new w #[.slice p.Ac p.co.length p.cc, .slice p.Af p.fu.length p.cf, .int .i64 p.line, .int .i64 p.cap] 37 (b := w.heap.size) j rfl
  have hlt0 : w.heap.size < (w.alloc (.cells #[.slice p.Ac p.co.length p.cc, .slice p.Af p.fu.length p.cf, .int .i64 p.line, .int .i64 p.cap] 37)).heap.size := by simp
  have HFW : Hid (∀ W : World, Calls Try.prog 15 #[p.val, .slice A os.length c] W fun e w' => e = .returned (.bool (few23 p os)) ∧ Below W.heap.size W w') := Lib.hid fun W => few23_any p os A c W h1 h2 h3
  have HL : Hid (few23 p os = true → os.length ≤ 20) := Lib.hid fun hf => by
    unfold few23 at hf
    simp only [Bool.and_eq_true, decide_eq_true_eq] at hf
    omega
  have HPL : Hid (os.length ≤ 20 → ∀ W, Below w.heap.size w W → Calls Try.prog 17 #[p.val, .slice A os.length c, .int .i64 need] W (GotDE (planL p os need) (planE p os need) W)) := Lib.hid fun hf W hW => plan_any p os need A c W (h.below hW) h1 ((hs.below hW).mono hW.size) (by omega) hI hN
  have HRM : Hid (os.length ≤ 20 → ∀ W, Below w.heap.size w W → Calls Try.prog 22 #[p.val, .slice A os.length c] W fun e w' => e = .returned (.tuple #[.int .i64 (roomV p os), .int .i64 (mayE p os)]) ∧ Below W.heap.size W w') := Lib.hid fun hf W hW => room_any p os A c W (h.below hW) h1 ((hs.below hW).mono hW.size) (by omega) hI
  have HWR : Hid (os.length ≤ 20 → ∀ W, Below w.heap.size w W → Calls Try.prog 23 #[p.val, .slice A os.length c] W fun e w' => e = .returned (.int .i64 (mayE p os)) ∧ Below W.heap.size W w') := Lib.hid fun hf W hW => wrong23_any p os A c W (h.below hW) h1 ((hs.below hW).mono hW.size) (by omega)
  have HCK : Hid (∀ W, Below w.heap.size w W → Calls Try.prog 24 #[p.val] W fun e w' => e = .returned (.int .i64 (polE p)) ∧ Below W.heap.size W w') := Lib.hid fun W hW => pcheck_any p W (h.below hW) h1
  have HR2 : Hid (os.length ≤ 20 → mayE p os = 0 → ∀ W, Below w.heap.size w W → Calls Try.prog 25 #[p.val, .slice A os.length c] W fun e w' => e = .returned (.int .i64 (roomV p os)) ∧ Below W.heap.size W w') := Lib.hid fun hf hm W hW => by
    rw [room_law hm]
    exact room23_any p os A c W (h.below hW) (mayF_of hm) ((hs.below hW).mono hW.size) (by omega)
  have HP2 : Hid (os.length ≤ 20 → mayE p os = 0 → 0 ≤ need → ∀ W, Below w.heap.size w W → Calls Try.prog 27 #[p.val, .slice A os.length c, .int .i64 need] W (GotPl (planL p os need) W)) := Lib.hid fun hf hm hn W hW => by
    have e : planL p os need = planR p os need := by
      unfold planL planE
      rw [if_pos (by rw [if_neg (by omega), if_neg (by omega)]), plan_law hm hn hN]
    rw [e]
    exact plan23_any p os need A c W (h.below hW) (mayF_of hm) ((hs.below hW).mono hW.size) (by omega) hn hN
  have HSM : Hid (os.length ≤ 20 → mayE p os = 0 → 0 ≤ need → ∀ (A B : Option Addr) (c d : Nat) W, Seg W W.heap.size A (dwRows (planL p os need)) → Seg W W.heap.size B (dwRows (planL p os need)) → Calls Try.prog 26 #[.slice A (planL p os need).length c, .slice B (planL p os need).length d] W fun e w' => e = .returned (.bool true) ∧ Below W.heap.size W w') := Lib.hid fun hf hm hn A B c d W h1 h2 => dsame_any (planL p os need) A B c d W h1 h2 (by
    have O := ordF_of (p := p) (os := os) (need := need) (by unfold planE; rw [if_neg (by omega), if_neg (by omega)]) hN (by omega)
    have := O.len
    omega)
  have HE : Hid ((mayE p os ≠ 0 → planE p os need = mayE p os ∧ planL p os need = [] ∧ roomV p os = 0) ∧ (mayE p os = 0 → need < 0 → planE p os need = 1 ∧ planL p os need = []) ∧ (mayE p os = 0 → 0 ≤ need → planE p os need = 0)) := Lib.hid (by
    refine ⟨fun hm => ?_, fun hm hn => ?_, fun hm hn => ?_⟩
    · have e : planE p os need = mayE p os := by unfold planE; rw [if_pos hm]
      exact ⟨e, by unfold planL; rw [if_neg (by rw [e]; exact hm)], by unfold roomV; rw [if_neg hm]⟩
    · have e : planE p os need = 1 := by unfold planE; rw [if_neg (by omega), if_pos hn]
      exact ⟨e, by unfold planL; rw [if_neg (by rw [e]; decide)]⟩
    · unfold planE; rw [if_neg (by omega), if_neg (by omega)])
  have HAR := Lib.hid (arg_like p os)
  have HPE : Hid (mayE p os = 0 → polE p = 0) := Lib.hid polE_of_may
  clear h h1 h2 hs h3 hI hN
  unfold Pol.val at HFW HPL HRM HWR HCK HR2 HP2
  unfold Pol.val
  generalize planL p os need = l at *
  generalize planE p os need = pe at *
  generalize roomV p os = rm at *
  generalize mayE p os = me at *
  generalize polE p = ce at *
  go_enter Try.func5, Try.ntmps5
  go_wp2_with fail
  generalize w.alloc (.cells #[.slice p.Ac p.co.length p.cc, .slice p.Af p.fu.length p.cf, .int .i64 p.line, .int .i64 p.cap] 37) = w0 at *
  have HX0 : Hid (∀ W, Below w0.heap.size w0 W → W.cell? ⟨w.heap.size, 0, none⟩ = some (.slice p.Ac p.co.length p.cc) ∧ W.cell? ⟨w.heap.size, 1, none⟩ = some (.slice p.Af p.fu.length p.cf) ∧ W.cell? ⟨w.heap.size, 2, none⟩ = some (.int .i64 p.line) ∧ W.cell? ⟨w.heap.size, 3, none⟩ = some (.int .i64 p.cap)) := Lib.hid fun W hW => by
    have hk := fun j => (hW.cell (p := ⟨w.heap.size, j, none⟩) hlt0).trans (HX.out j)
    exact ⟨hk 0, hk 1, hk 2, hk 3⟩
  have HW0 : Hid (∀ W, Below w0.heap.size w0 W → Below w.heap.size w W) := Lib.hid fun W hW => HB0.out.trans (hW.mono (Nat.le_of_lt hlt0))
  have HAW : Hid (∀ W, Below w0.heap.size w0 W → Calls Try.prog 16 #[] W fun e w' => e = .returned (.bool true) ∧ Below W.heap.size W w') := Lib.hid fun W _ => awake23_any W
  have HTR : Hid (∀ W W', Below w0.heap.size w0 W → Below W.heap.size W W' → Below w0.heap.size w0 W') := Lib.hid fun W W' h h' => h.trans (h'.mono h.size)
  clear HX HB0
  refine (HFW.out w0).mono ?_
  rintro e w1 ⟨rfl, hb1⟩
  have HB1 : Hid (Below w0.heap.size w0 w1) := Lib.hid hb1
  clear hb1 HFW
  obtain ⟨c0, c1, c2, c3⟩ := HX0.out w1 HB1.out
  cases hf : few23 p os with
  | false =>
    clear HPL HL HRM HWR HCK HR2 HP2 HSM HE HAR HPE
    go_wp2_with fail
    refine (HAW.out w1 HB1.out).mono ?_
    rintro e w4 ⟨rfl, hb4⟩
    have HB4 := Lib.hid (HTR.out _ _ HB1.out hb4)
    clear hb4
    go_wp2_with fail
    go_ret
    exact ⟨rfl, HW0.out _ HB4.out⟩
  | true =>
    have hl := HL.out hf
    clear HL hf
    have HPL := Lib.hid (HPL.out hl)
    have HRM := Lib.hid (HRM.out hl)
    have HWR := Lib.hid (HWR.out hl)
    have HR2 := Lib.hid (HR2.out hl)
    have HP2 := Lib.hid (HP2.out hl)
    have HSM := Lib.hid (HSM.out hl)
    clear hl
    go_wp2_with fail
    refine (HPL.out w1 (HW0.out _ HB1.out)).mono ?_
    rintro e w2 ⟨A2, c2', rfl, hs2, hb2⟩
    have HB2 := Lib.hid (HTR.out _ _ HB1.out hb2)
    have HS2 := Lib.hid hs2
    clear hb2 hs2 c0 c1 c2 c3 HPL
    obtain ⟨c0, c1, c2, c3⟩ := HX0.out w2 HB2.out
    go_wp2_with fail
    refine (HRM.out w2 (HW0.out _ HB2.out)).mono ?_
    rintro e w3 ⟨rfl, hb3⟩
    have HB3 := Lib.hid (HTR.out _ _ HB2.out hb3)
    have HS3 := Lib.hid ((HS2.out.below hb3).mono hb3.size)
    clear hb3 HS2 c0 c1 c2 c3 HRM
    obtain ⟨c0, c1, c2, c3⟩ := HX0.out w3 HB3.out
    go_wp2_with fail
    refine (HWR.out w3 (HW0.out _ HB3.out)).mono ?_
    rintro e w4 ⟨rfl, hb4⟩
    have HB4 := Lib.hid (HTR.out _ _ HB3.out hb4)
    have HS4 := Lib.hid ((HS3.out.below hb4).mono hb4.size)
    clear hb4 HS3 c0 c1 c2 c3 HWR
    obtain ⟨c0, c1, c2, c3⟩ := HX0.out w4 HB4.out
    by_cases hm : me = 0
    · subst hm
      have HR3 := Lib.hid (HR2.out rfl)
      have hce := HPE.out rfl
      subst hce
      clear HR2 HAR HPE
      go_wp2_with fail
      refine (HR3.out w4 (HW0.out _ HB4.out)).mono ?_
      rintro e w5 ⟨rfl, hb5⟩
      have HB5 := Lib.hid (HTR.out _ _ HB4.out hb5)
      have HS5 := Lib.hid ((HS4.out.below hb5).mono hb5.size)
      clear hb5 HS4 c0 c1 c2 c3 HR3
      obtain ⟨c0, c1, c2, c3⟩ := HX0.out w5 HB5.out
      have hrr : (rm != rm) = false := by simp
      go_wp2_with fail
      refine (HCK.out w5 (HW0.out _ HB5.out)).mono ?_
      rintro e w6 ⟨rfl, hb6⟩
      have HB6 := Lib.hid (HTR.out _ _ HB5.out hb6)
      have HS6 := Lib.hid ((HS5.out.below hb6).mono hb6.size)
      clear hb6 HS5 c0 c1 c2 c3 HCK
      obtain ⟨c0, c1, c2, c3⟩ := HX0.out w6 HB6.out
      by_cases hn : need < 0
      · obtain ⟨he, hl⟩ := HE.out.2.1 (by trivial) hn
        subst he hl
        have hnd : decide (need < 0) = true := decide_eq_true hn
        clear HE HP2 HSM
        go_wp2_with fail
        refine (HAW.out w6 HB6.out).mono ?_
        rintro e w7 ⟨rfl, hb7⟩
        have HB7 := Lib.hid (HTR.out _ _ HB6.out hb7)
        clear hb7
        go_wp2_with fail
        go_ret
        exact ⟨rfl, HW0.out _ HB7.out⟩
      · have he := HE.out.2.2 (by trivial) (by omega)
        subst he
        have hnd : decide (need < 0) = false := decide_eq_false hn
        have HP3 := Lib.hid (HP2.out (by trivial) (by omega))
        have HS3 := Lib.hid (HSM.out (by trivial) (by omega))
        clear HE HP2 HSM
        go_wp2_with fail
        refine (HAW.out w6 HB6.out).mono ?_
        rintro e w7 ⟨rfl, hb7⟩
        have HB7 := Lib.hid (HTR.out _ _ HB6.out hb7)
        have HS7 : Hid (Seg w7 w7.heap.size A2 (dwRows l)) := Lib.hid ((HS6.out.below hb7).mono hb7.size)
        clear hb7 HS6 c0 c1 c2 c3
        obtain ⟨c0, c1, c2, c3⟩ := HX0.out w7 HB7.out
        go_wp2_with fail
        refine (HP3.out w7 (HW0.out _ HB7.out)).mono ?_
        rintro e w8 ⟨A8, c8, rfl, hs8, hb8⟩
        have HB8 := Lib.hid (HTR.out _ _ HB7.out hb8)
        have HS8 := Lib.hid ((HS7.out.below hb8).mono hb8.size)
        have HT8 := Lib.hid hs8
        clear hb8 hs8 HS7 c0 c1 c2 c3 HP3
        go_wp2_with fail
        refine (HS3.out _ _ _ _ w8 HS8.out HT8.out).mono ?_
        rintro e w9 ⟨rfl, hb9⟩
        have HB9 := Lib.hid (HTR.out _ _ HB8.out hb9)
        clear hb9 HS3
        go_wp2_with fail
        go_ret
        exact ⟨rfl, HW0.out _ HB9.out⟩
    · obtain ⟨he, hl, hr⟩ := HE.out.1 hm
      subst he hl hr
      have hmb : (pe != 0) = true := by simpa using hm
      have hmm : (pe == pe) = true := by simp
      clear HE HP2 HSM HR2
      go_wp2_with fail
      refine (HAW.out w4 HB4.out).mono ?_
      rintro e w7 ⟨rfl, hb7⟩
      have HB7 := Lib.hid (HTR.out _ _ HB4.out hb7)
      clear hb7 c0 c1 c2 c3
      obtain ⟨c0, c1, c2, c3⟩ := HX0.out w7 HB7.out
      go_wp2_with fail
      refine (HCK.out w7 (HW0.out _ HB7.out)).mono ?_
      rintro e w8 ⟨rfl, hb8⟩
      have HB8 := Lib.hid (HTR.out _ _ HB7.out hb8)
      clear hb8 c0 c1 c2 c3
      have har := HAR.out
      go_wp2_with fail
      go_ret
      exact ⟨rfl, HW0.out _ HB8.out⟩
end Go.Proofs.Ytglpnpjjjihghaa
