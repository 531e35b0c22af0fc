/-
  What complineref23.Right and Wrong come to, over this seat's translation: contracts for callers.
-/
import Derived.Test.YtglpnpjjjihghaaFl12
import Derived.BigQuiet
namespace Go.Proofs.Ytglpnpjjjihghaa
open Go.RowKit

theorem polB_bad {p : Pol} {x : Int} (hx : x ∈ polL p) (h : okN x = false) : polB p = false := by
  have : (polL p).all okN = false := by
    rw [List.all_eq_false]
    exact ⟨_, hx, by rw [h]; decide⟩
  unfold polB
  rw [this, Bool.and_false, Bool.and_false]
theorem okN_neg {x : Int} (h : x < 0) : okN x = false := by unfold okN; rw [decide_eq_false (by omega), Bool.false_and]
theorem okN_big {x : Int} (h : 1099511627776 < x) : okN x = false := by unfold okN; rw [decide_eq_false (by omega : ¬ x ≤ 1099511627776), Bool.and_false]
theorem okN_good {x : Int} (h : ¬ x < 0) (h' : ¬ 1099511627776 < x) : okN x = true := by unfold okN; rw [decide_eq_true (by omega : 0 ≤ x), decide_eq_true (by omega : x ≤ 1099511627776)]; rfl
theorem polB_good {p : Pol} (h1 : p.co.length = p.fu.length) (h2 : p.co.length ≤ 16) (hl : okN p.line = true) (hc : okN p.cap = true) (hx : ∀ k (h : k < p.co.length) (h' : k < p.fu.length), okN p.co[k] = true ∧ okN p.fu[k] = true) : polB p = true := by
  unfold polB
  rw [decide_eq_true h1, decide_eq_true h2, Bool.true_and, Bool.true_and, List.all_eq_true]
  intro x hm
  unfold polL at hm
  rw [List.mem_append, List.mem_append] at hm
  rcases hm with (hm | hm) | hm
  · obtain ⟨k, hk, rfl⟩ := List.getElem_of_mem hm
    exact (hx k hk (by omega)).1
  · obtain ⟨k, hk, rfl⟩ := List.getElem_of_mem hm
    exact (hx k (by omega) hk).2
  · simp at hm
    rcases hm with rfl | rfl
    · exact hl
    · exact hc
set_option maxRecDepth 100000 in
set_option maxHeartbeats 1600000 in
theorem right23_any (p : Pol) (w : World) (h : PolOk w p) (hc : p.co.length ≤ maxLen) :
    Calls Try.prog 50 #[p.val] w fun e w' => e = .returned (.bool (polB p)) ∧ Below w.heap.size w w' := by
  unfold maxLen at hc
  have HB0 : Hid (Below w.heap.size w (w.alloc (.cells #[.slice p.Ac p.co.length p.cc, .slice p.Af p.fu.length p.cf, .int .i64 p.line, .int .i64 p.cap] 37))) := Lib.hid ((Below.refl _ _).alloc (Nat.le_refl _) _)
  have HC := Lib.hid (h.c.seg.below HB0.out)
  have HF := Lib.hid (h.f.seg.below HB0.out)
  have H1 : Hid (¬ p.co.length = p.fu.length → polB p = false) := Lib.hid fun h => by unfold polB; rw [decide_eq_false h]; rfl
  have H2 : Hid (¬ p.co.length ≤ 16 → polB p = false) := Lib.hid fun h => by unfold polB; rw [decide_eq_false h, Bool.false_and, Bool.and_false]
  have H3 : Hid (∀ x ∈ polL p, okN x = false → polB p = false) := Lib.hid fun x hx h => polB_bad hx h
  have HG : Hid (p.co.length = p.fu.length → p.co.length ≤ 16 → okN p.line = true → okN p.cap = true → (∀ k (h : k < p.co.length) (h' : k < p.fu.length), okN p.co[k] = true ∧ okN p.fu[k] = true) → polB p = true) := Lib.hid fun h1 h2 hl hk hx => polB_good h1 h2 hl hk hx
  have HML : Hid (p.line ∈ polL p) := Lib.hid (by simp [polL])
  have HMK : Hid (p.cap ∈ polL p) := Lib.hid (by simp [polL])
  have HMC : Hid (∀ k (h : k < p.co.length), p.co[k] ∈ polL p) := Lib.hid fun k h => by
    unfold polL
    rw [List.append_assoc]
    exact List.mem_append_left _ (List.getElem_mem h)
  have HMF : Hid (∀ k (h : k < p.fu.length), p.fu[k] ∈ polL p) := Lib.hid fun k h => by
    unfold polL
    exact List.mem_append_left _ (List.mem_append_right _ (List.getElem_mem h))
  clear h
  generalize polB p = rb at *
  unfold Pol.val
  by_cases h1 : p.co.length = p.fu.length
  case neg =>
    have HE := Lib.hid (H1.out h1)
    have hne : ((p.co.length : Int) != (p.fu.length : Int)) = true := by simp [bne]; omega
    clear H1 H2 H3 HG HML HMK HMC HMF h1
    go_enter Try.func50, Try.ntmps50
    go_wp2_with fail
    go_ret
    exact ⟨ret_bool HE.out.symm, HB0.out⟩
  have hne : ((p.co.length : Int) != (p.fu.length : Int)) = false := by rw [h1]; simp
  by_cases h2 : p.co.length ≤ 16
  case neg =>
    have HE := Lib.hid (H2.out h2)
    have hgt : decide ((16 : Int) < (p.co.length : Int)) = true := decide_eq_true (by omega)
    clear H1 H2 H3 HG HML HMK HMC HMF h1
    go_enter Try.func50, Try.ntmps50
    go_wp2_with fail
    go_ret
    exact ⟨ret_bool HE.out.symm, HB0.out⟩
  have hgt : decide ((16 : Int) < (p.co.length : Int)) = false := decide_eq_false (by omega)
  by_cases hl1 : p.line < 0
  case pos =>
    have HE := Lib.hid (H3.out _ HML.out (okN_neg hl1))
    have hl1d : decide (p.line < 0) = true := decide_eq_true hl1
    clear H1 H2 H3 HG HML HMK HMC HMF h1
    go_enter Try.func50, Try.ntmps50
    go_wp2_with fail
    go_ret
    exact ⟨ret_bool HE.out.symm, HB0.out⟩
  have hl1d : decide (p.line < 0) = false := decide_eq_false hl1
  by_cases hl2 : 1099511627776 < p.line
  case pos =>
    have HE := Lib.hid (H3.out _ HML.out (okN_big hl2))
    have hl2d : decide (1099511627776 < p.line) = true := decide_eq_true hl2
    clear H1 H2 H3 HG HML HMK HMC HMF h1
    go_enter Try.func50, Try.ntmps50
    go_wp2_with fail
    go_ret
    exact ⟨ret_bool HE.out.symm, HB0.out⟩
  have hl2d : decide (1099511627776 < p.line) = false := decide_eq_false hl2
  by_cases hk1 : p.cap < 0
  case pos =>
    have HE := Lib.hid (H3.out _ HMK.out (okN_neg hk1))
    have hk1d : decide (p.cap < 0) = true := decide_eq_true hk1
    clear H1 H2 H3 HG HML HMK HMC HMF h1
    go_enter Try.func50, Try.ntmps50
    go_wp2_with fail
    go_ret
    exact ⟨ret_bool HE.out.symm, HB0.out⟩
  have hk1d : decide (p.cap < 0) = false := decide_eq_false hk1
  by_cases hk2 : 1099511627776 < p.cap
  case pos =>
    have HE := Lib.hid (H3.out _ HMK.out (okN_big hk2))
    have hk2d : decide (1099511627776 < p.cap) = true := decide_eq_true hk2
    clear H1 H2 H3 HG HML HMK HMC HMF h1
    go_enter Try.func50, Try.ntmps50
    go_wp2_with fail
    go_ret
    exact ⟨ret_bool HE.out.symm, HB0.out⟩
  have hk2d : decide (1099511627776 < p.cap) = false := decide_eq_false hk2
  have HG := Lib.hid (HG.out h1 h2 (okN_good hl1 hl2) (okN_good hk1 hk2))
  have hfl : p.fu.length ≤ 16 := by omega
  have hfc : p.co.length ≤ p.fu.length := by omega
  clear h1 H1 H2 HML HMK hl1 hl2 hk1 hk2
  have HX := Lib.hid fun j => cell_new w #[.slice p.Ac p.co.length p.cc, .slice p.Af p.fu.length p.cf, .int .i64 p.line, .int .i64 p.cap] 37 (b := w.heap.size) j rfl
  go_enter Try.func50, Try.ntmps50
  go_wp2_with fail
  generalize w.alloc (.cells #[.slice p.Ac p.co.length p.cc, .slice p.Af p.fu.length p.cf, .int .i64 p.line, .int .i64 p.cap] 37) = w0 at *
  have c0 : w0.cell? ⟨w.heap.size, 0, none⟩ = some (.slice p.Ac p.co.length p.cc) := HX.out 0
  have c1 : w0.cell? ⟨w.heap.size, 1, none⟩ = some (.slice p.Af p.fu.length p.cf) := HX.out 1
  clear HX
  go_loop [3] (fun i => ∃ k : Nat, k ≤ p.co.length ∧ i = .int .i64 k ∧ Hid (∀ j (h : j < p.co.length) (h' : j < p.fu.length), j < k → okN p.co[j] = true ∧ okN p.fu[j] = true)) (fun i => p.co.length - (intOf i).toNat)
  case atStart => exact ⟨0, Nat.zero_le _, rfl, fun j _ _ h => absurd h (Nat.not_lt_zero _)⟩
  case round =>
    obtain ⟨k, hk, rfl, HK⟩ := hrel
    by_cases hlt : k < p.co.length
    case neg =>
      obtain rfl : k = p.co.length := by omega
      have HE := Lib.hid (HG.out fun j hj h' => HK.out j hj h' hj)
      go_wp2_with fail
      go_ret
      exact ⟨ret_bool HE.out.symm, HB0.out⟩
    have hlf : k < p.fu.length := by omega
    obtain ⟨bc, oc, hAc, hbc, dc⟩ := int_at HC.out hlt
    obtain ⟨bf, of, hAf, hbf, df⟩ := int_at HF.out hlf
    have hkb : (k : Int) < (p.co.length : Int) := by omega
    have hkf : (k : Int) < (p.fu.length : Int) := by omega
    have hk0 : (0 : Int) ≤ (k : Int) := by omega
    have HBC := Lib.hid (H3.out _ (HMC.out k hlt))
    have HBF := Lib.hid (H3.out _ (HMF.out k hlf))
    have HK2 : Hid (okN p.co[k] = true → okN p.fu[k] = true → ∀ j (h : j < p.co.length) (h' : j < p.fu.length), j < k + 1 → okN p.co[j] = true ∧ okN p.fu[j] = true) := Lib.hid fun ha hb j hj hjf hjk => by
      by_cases e : j = k
      · subst e; exact ⟨ha, hb⟩
      · exact HK.out j hj hjf (by omega)
    generalize p.co[k] = x at *
    generalize p.fu[k] = y at *
    by_cases hx1 : x < 0
    case pos =>
      have HE := Lib.hid (HBC.out (okN_neg hx1))
      have hx1d : decide (x < 0) = true := decide_eq_true hx1
      clear HBC HBF HK2
      go_wp2_with fail
      go_ret
      exact ⟨ret_bool HE.out.symm, HB0.out⟩
    have hx1d : decide (x < 0) = false := decide_eq_false hx1
    by_cases hx2 : 1099511627776 < x
    case pos =>
      have HE := Lib.hid (HBC.out (okN_big hx2))
      have hx2d : decide (1099511627776 < x) = true := decide_eq_true hx2
      clear HBC HBF HK2
      go_wp2_with fail
      go_ret
      exact ⟨ret_bool HE.out.symm, HB0.out⟩
    have hx2d : decide (1099511627776 < x) = false := decide_eq_false hx2
    by_cases hy1 : y < 0
    case pos =>
      have HE := Lib.hid (HBF.out (okN_neg hy1))
      have hy1d : decide (y < 0) = true := decide_eq_true hy1
      clear HBC HBF HK2
      go_wp2_with fail
      go_ret
      exact ⟨ret_bool HE.out.symm, HB0.out⟩
    have hy1d : decide (y < 0) = false := decide_eq_false hy1
    by_cases hy2 : 1099511627776 < y
    case pos =>
      have HE := Lib.hid (HBF.out (okN_big hy2))
      have hy2d : decide (1099511627776 < y) = true := decide_eq_true hy2
      clear HBC HBF HK2
      go_wp2_with fail
      go_ret
      exact ⟨ret_bool HE.out.symm, HB0.out⟩
    have hy2d : decide (1099511627776 < y) = false := decide_eq_false hy2
    have HK3 := Lib.hid (HK2.out (okN_good hx1 hx2) (okN_good hy1 hy2))
    clear HBC HBF HK2
    go_wp2_with fail
    go_round
    case rel => exact ⟨k + 1, by omega, by go_num, HK3⟩
    case measure => simp [intOf]; omega
end Go.Proofs.Ytglpnpjjjihghaa
