/-
  What complineref23.Wrong comes to, over this seat's translation: a contract for callers.
-/
import Derived.Test.YtglpnpjjjihghaaFl13
namespace Go.Proofs.Ytglpnpjjjihghaa
open Go.RowKit

set_option maxRecDepth 100000 in
set_option maxHeartbeats 1600000 in
theorem wrong23_any (p : Pol) (os : List Int) (A : Option Addr) (c : Nat) (w : World) (h : PolOk w p) (hc : p.co.length ≤ maxLen) (hs : Seg w w.heap.size A (os.map (Value.int .i64))) (hl : os.length ≤ 100000) :
    Calls Try.prog 23 #[p.val, .slice A os.length c] w fun e w' => e = .returned (.int .i64 (mayE p os)) ∧ Below w.heap.size w w' := by
  have HB0 : Hid (Below w.heap.size w (w.alloc (.cells #[.slice p.Ac p.co.length p.cc, .slice p.Af p.fu.length p.cf, .int .i64 p.line, .int .i64 p.cap] 37))) := Lib.hid ((Below.refl _ _).alloc (Nat.le_refl _) _)
  have HC : Hid (∀ W, Below w.heap.size w W → Calls Try.prog 50 #[p.val] W fun e w' => e = .returned (.bool (polB p)) ∧ Below W.heap.size W w') := Lib.hid fun W hW => right23_any p W (h.below hW) hc
  have HX := Lib.hid fun j => cell_new w #[.slice p.Ac p.co.length p.cc, .slice p.Af p.fu.length p.cf, .int .i64 p.line, .int .i64 p.cap] 37 (b := w.heap.size) j rfl
  have hbl : w.heap.size < (w.alloc (.cells #[.slice p.Ac p.co.length p.cc, .slice p.Af p.fu.length p.cf, .int .i64 p.line, .int .i64 p.cap] 37)).heap.size := by simp
  have HS := Lib.hid hs
  have HPE : Hid (polE p = if polB p then 0 else 1) := Lib.hid rfl
  have HD : Hid (polE p ≠ 0 → mayE p os = polE p) := Lib.hid fun h => by unfold mayE; rw [if_pos h]
  have HG := Lib.hid (fun (h0 : polE p = 0) => mayE_good (p := p) (os := os) h0)
  have HBD := Lib.hid (fun (h0 : polE p = 0) k (hk : k < os.length) => mayE_bad (p := p) (os := os) (k := k) h0 hk)
  unfold maxLen at hc
  clear h hs
  generalize mayE p os = me at *
  generalize polE p = pe at *
  unfold Pol.val at *
  go_enter Try.func23, Try.ntmps23
  go_wp2_with fail
  generalize w.alloc (.cells #[.slice p.Ac p.co.length p.cc, .slice p.Af p.fu.length p.cf, .int .i64 p.line, .int .i64 p.cap] 37) = w0 at *
  have c0 : w0.cell? ⟨w.heap.size, 0, none⟩ = some (.slice p.Ac p.co.length p.cc) := HX.out 0
  have c1 : w0.cell? ⟨w.heap.size, 1, none⟩ = some (.slice p.Af p.fu.length p.cf) := HX.out 1
  have c2 : w0.cell? ⟨w.heap.size, 2, none⟩ = some (.int .i64 p.line) := HX.out 2
  have c3 : w0.cell? ⟨w.heap.size, 3, none⟩ = some (.int .i64 p.cap) := HX.out 3
  go_wp2_with fail
  refine (HC.out _ HB0.out).mono ?_
  rintro e w1 ⟨rfl, hb1⟩
  have HB1 : Hid (Below w.heap.size w w1) := Lib.hid (HB0.out.trans (hb1.mono HB0.out.size))
  have hbx : w1.cell? ⟨w.heap.size, 0, none⟩ = some (.slice p.Ac p.co.length p.cc) := (hb1.cell (p := ⟨w.heap.size, 0, none⟩) hbl).trans c0
  have hbl1 : w.heap.size < w1.heap.size := Nat.lt_of_lt_of_le hbl hb1.size
  have HBX := Lib.hid hbx
  clear hb1 HB0 HC HX c0 c1 c2 c3 hbl
  cases hpb : polB p with
  | false =>
    have hpe : pe = 1 := by rw [HPE.out, hpb]; rfl
    have HE : Hid (me = 1) := Lib.hid ((HD.out (by omega)).trans hpe)
    clear HD HG HBD HPE hpb hpe
    go_wp2_with fail
    go_ret
    exact ⟨ret_int HE.out.symm, HB1.out⟩
  | true =>
    have hpe : pe = 0 := by rw [HPE.out, hpb]; rfl
    have HG := Lib.hid (HG.out hpe)
    have HBD := Lib.hid (HBD.out hpe)
    clear HD HPE hpb hpe
    go_wp2_with fail
    go_loopw [5] (fun i wr => ∃ k : Nat, k ≤ os.length ∧ i = .int .i64 k ∧ Hid (Below w1.heap.size w1 wr) ∧ Hid (∀ j, j < k → obad p.co.length os j = false)) (fun i _ => os.length - (intOf i).toNat)
    case atStart => exact ⟨0, Nat.zero_le _, rfl, Below.refl _ _, fun j h => absurd h (Nat.not_lt_zero _)⟩
    case round =>
      obtain ⟨k, hk, rfl, HB, HK⟩ := hrel
      have HBW : Hid (Below w.heap.size w wr) := Lib.hid (HB1.out.trans (HB.out.mono HB1.out.size))
      have hbx : wr.cell? ⟨w.heap.size, 0, none⟩ = some (.slice p.Ac p.co.length p.cc) := (HB.out.cell (p := ⟨w.heap.size, 0, none⟩) hbl1).trans HBX.out
      by_cases hlt : k < os.length
      case neg =>
        obtain rfl : k = os.length := by omega
        have HE := Lib.hid (HG.out HK.out)
        go_wp2_with fail
        go_ret
        exact ⟨ret_int HE.out.symm, HBW.out⟩
      have hkb : (k : Int) < (os.length : Int) := by omega
      have hk0 : (0 : Int) ≤ (k : Int) := by omega
      obtain ⟨b, o, rfl, hb, d0⟩ := int_at (HS.out.below HBW.out) hlt
      have HOB : Hid (obad p.co.length os k = (decide (os[k] < 1) || (decide ((p.co.length : Int) < os[k]) || (decide (0 < k) && decide (os[k] ≤ os.getD (k - 1) 0))))) := Lib.hid (by unfold obad; rw [getD_at hlt])
      have HKB := Lib.hid (HBD.out k hlt)
      have HK2 : Hid (obad p.co.length os k = false → ∀ j, j < k + 1 → obad p.co.length os j = false) := Lib.hid fun hE j hj => by
        by_cases e : j = k
        · subst e; exact hE
        · exact HK.out j (by omega)
      by_cases h1 : os[k] < 1
      case pos =>
        have HE := Lib.hid (HKB.out (by rw [HOB.out, decide_eq_true h1]; rfl))
        generalize os[k] = x at *
        have h1d : decide (x < 1) = true := decide_eq_true h1
        clear HKB HOB HK2
        go_wp2_with fail
        go_quiet (fail)
        go_wp2_with fail
        go_ret
        exact ⟨ret_int HE.out.symm, below_drewN HBW.out nq⟩
      by_cases h2 : (p.co.length : Int) < os[k]
      case pos =>
        have HE := Lib.hid (HKB.out (by rw [HOB.out, decide_eq_true h2, Bool.true_or, Bool.or_true]))
        generalize os[k] = x at *
        have h1d : decide (x < 1) = false := decide_eq_false h1
        have h2d : decide ((p.co.length : Int) < x) = true := decide_eq_true h2
        clear HKB HOB HK2
        go_wp2_with fail
        go_quiet (fail)
        go_wp2_with fail
        go_ret
        exact ⟨ret_int HE.out.symm, below_drewN HBW.out nq⟩
      by_cases h3 : 0 < k
      case neg =>
        obtain rfl : k = 0 := by omega
        have HK3 := Lib.hid (HK2.out (by rw [HOB.out, decide_eq_false h1, decide_eq_false h2, decide_eq_false h3]; rfl))
        generalize os[0] = x at *
        rw [Nat.add_zero] at d0
        have h1d : decide (x < 1) = false := decide_eq_false h1
        have h2d : decide ((p.co.length : Int) < x) = false := decide_eq_false h2
        have h3d : decide ((0 : Int) < ((0 : Nat) : Int)) = false := by decide
        clear HKB HOB HK2
        go_wp2_with fail
        go_quiet (fail)
        go_wp2_with fail
        go_round
        case rel => exact ⟨0 + 1, by omega, by go_num, below_drewN HB.out nq, HK3⟩
        case measure => simp [intOf]; omega
      obtain ⟨j, rfl⟩ : ∃ j, k = j + 1 := ⟨k - 1, by omega⟩
      have hjl : j < os.length := by omega
      obtain ⟨b', o', hA', hb', d1⟩ := int_at (HS.out.below HBW.out) hjl
      have hgd : os.getD (j + 1 - 1) 0 = os[j] := getD_at hjl
      obtain ⟨rfl, rfl⟩ : b = b' ∧ o = o' := by simpa using hA'
      clear hA' hb'
      have hjw : IntKind.i64.wrap (((j + 1 : Nat) : Int) - 1) = (j : Int) := by rw [IntWalk.i64_in _ (by omega)]; omega
      have hj0 : (0 : Int) ≤ (j : Int) := by omega
      have hjb : (j : Int) < (os.length : Int) := by omega
      have h3d : decide ((0 : Int) < ((j + 1 : Nat) : Int)) = true := decide_eq_true (by omega)
      by_cases h4 : os[j + 1] ≤ os[j]
      case pos =>
        have HE := Lib.hid (HKB.out (by rw [HOB.out, hgd, decide_eq_true h3, decide_eq_true h4]; simp))
        clear HKB HOB HK2 hgd
        generalize os[j + 1] = x at *
        generalize os[j] = y at *
        have h1d : decide (x < 1) = false := decide_eq_false h1
        have h2d : decide ((p.co.length : Int) < x) = false := decide_eq_false h2
        have h4d : decide (x ≤ y) = true := decide_eq_true h4
        go_wp2_with fail
        go_quiet (fail)
        go_wp2_with fail
        go_ret
        exact ⟨ret_int HE.out.symm, below_drewN HBW.out nq⟩
      have HK3 := Lib.hid (HK2.out (by rw [HOB.out, hgd, decide_eq_false h1, decide_eq_false h2, decide_eq_false h4, Bool.and_false]; rfl))
      clear HKB HOB HK2 hgd
      generalize os[j + 1] = x at *
      generalize os[j] = y at *
      have h1d : decide (x < 1) = false := decide_eq_false h1
      have h2d : decide ((p.co.length : Int) < x) = false := decide_eq_false h2
      have h4d : decide (x ≤ y) = false := decide_eq_false h4
      go_wp2_with fail
      go_quiet (fail)
      go_wp2_with fail
      go_round
      case rel => exact ⟨j + 1 + 1, by omega, by go_num, below_drewN HB.out nq, HK3⟩
      case measure => simp [intOf]; omega
end Go.Proofs.Ytglpnpjjjihghaa
