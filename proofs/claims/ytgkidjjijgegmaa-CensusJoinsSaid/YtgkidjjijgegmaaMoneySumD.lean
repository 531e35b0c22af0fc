/-
  What money.Sub, money.Neg and money.Sum come to, over this seat's translation: contracts for callers.
-/
import Derived.Test.YtgkidjjijgegmaaMoneyDef
import Derived.Test.YtgkidjjijgegmaaMem
namespace Go.Proofs.Ytgkidjjijgegmaa
open Go.RowKit

set_option maxHeartbeats 400000 in
theorem sub_any (a b : Int) (w : World) (ha : I64 a) (hb : I64 b) :
    Calls Try.prog 39 #[.int .i64 a, .int .i64 b] w fun e w' =>
      e = .returned (.tuple #[.int .i64 (amtV (a - b)), .int .i64 (amtE (a - b))]) ∧ w = w' := by
  have HA := Lib.hid ha
  have HB := Lib.hid hb
  clear ha hb
  go_enter Try.func39, Try.ntmps39
  go_wp2
  all_goals
    go_ret2
    have ha := HA.out
    have hb := HB.out
    refine ⟨?_, rfl⟩
    unfold I64 at ha hb
    by_cases h : I64 (a - b)
    · obtain ⟨h1, h2⟩ := amt_in h
      rw [h1, h2]
      unfold I64 at h
      have hw : wrap64 (a - b) = a - b := by unfold wrap64; omega
      simp_all <;> omega
    · obtain ⟨h1, h2⟩ := amt_out h
      rw [h1, h2]
      unfold I64 at h
      unfold wrap64 at *
      simp_all <;> omega

theorem I64_zero : I64 0 := by unfold I64; omega

def m64 (x : Int) : Int := x % 18446744073709551616
def d64 (x : Int) : Int := x / 18446744073709551616
theorem add64_run (x y c : Int) (hx : 0 ≤ x) (hy : 0 ≤ y) (hc0 : 0 ≤ c) (hc : c ≤ 1) (w : World) :
   (callFunc 37 #[.int .u64 x, .int .u64 y, .int .u64 c]).run Try.prog w = .ok (.value (.tuple #[.int .u64 (m64 (x+y+c)), .int .u64 (d64 (x+y+c))])) w := by
  rw [run_callFunc_extern Try.func37 (by kernel_rfl) (by kernel_rfl) (by kernel_rfl) (e := add64Entry) (by kernel_rfl), run_add64 x y c hx hy hc0 hc]
  rfl
theorem m64_step (t a : Int) : m64 (m64 t + IntKind.u64.wrap a) = m64 (t + a) := by
  rw [IntKind.wrap_u64]; unfold m64; omega
theorem d64_step (t a : Int) (ha : I64 a) : m64 (m64 (d64 t) + IntKind.u64.wrap (a / 9223372036854775808) + d64 (m64 t + IntKind.u64.wrap a)) = m64 (d64 (t + a)) := by
  rw [IntKind.wrap_u64, IntKind.wrap_u64]; unfold m64 d64; unfold I64 at ha
  rcases Int.lt_or_le a 0 with h | h
  · have h1 : a / 9223372036854775808 = -1 := by omega
    rw [h1]; omega
  · have h1 : a / 9223372036854775808 = 0 := by omega
    rw [h1]; omega
theorem m64_bd (t : Int) : 0 ≤ m64 t ∧ m64 t ≤ 18446744073709551615 := by unfold m64; omega
set_option maxHeartbeats 400000 in
theorem put_any (a t : Int) (W : World) (ha : I64 a) :
    Calls Try.prog 36 #[.int .i64 a, .pointer (some ⟨W.heap.size + 1, 0, none⟩), .pointer (some ⟨W.heap.size, 0, none⟩)] ((W.alloc (.cells #[.int .u64 (m64 (d64 t))] 80)).alloc (.cells #[.int .u64 (m64 t)] 80)) fun e w' => e = .returned (.tuple #[]) ∧
     ((W.alloc (.cells #[.int .u64 (m64 (d64 (t + a)))] 80)).alloc (.cells #[.int .u64 (m64 (t + a))] 80)) = w' := by
  have k := add64_run
  obtain ⟨hl0, hl1⟩ := m64_bd t
  obtain ⟨hh0, hh1⟩ := m64_bd (d64 t)
  have h1 := m64_step t a
  have h2 := d64_step t a ha
  have hd0 : 0 ≤ d64 (m64 t + IntKind.u64.wrap a) := by rw [IntKind.wrap_u64]; unfold d64; omega
  have hd1 : d64 (m64 t + IntKind.u64.wrap a) ≤ 1 := by rw [IntKind.wrap_u64]; unfold d64; omega
  have H1 := Lib.hid h1
  have H2 := Lib.hid h2
  clear h1 h2
  go_enter Try.func36, Try.ntmps36
  go_wp2
  go_end0
  rw [← H1.out, ← H2.out]
  exact ⟨rfl, rfl⟩

/-- The sum of a list. -/
def sumI : List Int → Int
  | [] => 0
  | a :: l => a + sumI l
theorem sumI_append (l m : List Int) : sumI (l ++ m) = sumI l + sumI m := by
  induction l with
  | nil => simp [sumI]
  | cons a l ih => simp [sumI, ih]; omega
theorem sumI_snoc {l : List Int} {k : Nat} (hk : k < l.length) : sumI (l.take (k + 1)) = sumI (l.take k) + l[k] := by
  rw [List.take_succ_eq_append_getElem hk, sumI_append]; simp [sumI]
theorem sumI_bd (l : List Int) (h : ∀ x ∈ l, I64 x) : -(9223372036854775808 * (l.length : Int)) ≤ sumI l ∧ sumI l ≤ 9223372036854775808 * (l.length : Int) := by
  induction l with
  | nil => simp [sumI]
  | cons a l ih =>
    have h1 := h a (by simp)
    have h2 := ih fun x hx => h x (by simp [hx])
    unfold I64 at h1
    simp only [sumI, List.length_cons]
    omega

theorem sum_end (t : Int) (n : Nat) (hn : n ≤ 4611686018427387904) (hb : -(9223372036854775808 * (n : Int)) ≤ t ∧ t ≤ 9223372036854775808 * (n : Int)) :
    ((m64 (d64 t) != IntKind.u64.wrap (wrap64 (m64 t) / 9223372036854775808)) = false ↔ I64 t) ∧ (I64 t → wrap64 (m64 t) = t) := by
  rw [IntKind.wrap_u64]
  unfold m64 d64 I64 wrap64
  have hq : -4611686018427387904 ≤ t / 18446744073709551616 ∧ t / 18446744073709551616 ≤ 4611686018427387904 := by omega
  have ht : t = 18446744073709551616 * (t / 18446744073709551616) + t % 18446744073709551616 := by omega
  have hr : 0 ≤ t % 18446744073709551616 ∧ t % 18446744073709551616 < 18446744073709551616 := by omega
  generalize t / 18446744073709551616 = q at *
  generalize t % 18446744073709551616 = r at *
  subst ht
  rcases Int.lt_or_le r 9223372036854775808 with h | h
  · have h1 : ((r + 9223372036854775808) % 18446744073709551616 - 9223372036854775808) = r := by omega
    have h2 : r / 9223372036854775808 = 0 := by omega
    rw [h1, h2, bne_eq_false_iff_eq]
    omega
  · have h1 : ((r + 9223372036854775808) % 18446744073709551616 - 9223372036854775808) = r - 18446744073709551616 := by omega
    have h2 : (r - 18446744073709551616) / 9223372036854775808 = -1 := by omega
    rw [h1, h2, bne_eq_false_iff_eq]
    omega

set_option maxHeartbeats 800000 in
theorem sum_any (l : List Int) (A : Option Addr) (c : Nat) (w : World) (hl : ∀ x ∈ l, I64 x) (hs : Seg w w.heap.size A (l.map (Value.int .i64))) (hn : l.length ≤ 4611686018427387904) :
    Calls Try.prog 25 #[.slice A l.length c] w fun e w' =>
      e = .returned (.tuple #[.int .i64 (amtV (sumI l)), .int .i64 (amtE (sumI l))]) ∧ Below w.heap.size w w' := by
  have HL := Lib.hid hl
  have HS := Lib.hid hs
  clear hl hs
  go_enter Try.func25, Try.ntmps25
  go_wp2_with fail
  go_loopw [8, 12] (fun _ i wr => ∃ k : Nat, k ≤ l.length ∧ i = .int .i64 k ∧
      wr = ((w.alloc (.cells #[.int .u64 (m64 (d64 (sumI (l.take k))))] 80)).alloc (.cells #[.int .u64 (m64 (sumI (l.take k)))] 80))) (fun _ i _ => l.length - (intOf i).toNat)
  case atStart => exact ⟨0, Nat.zero_le _, rfl, rfl⟩
  case round =>
    obtain ⟨k, hk, rfl, rfl⟩ := hrel
    by_cases hlt : k < l.length
    · obtain ⟨b, o, rfl, hb, hc⟩ := HS.out.at (k := k) (by simpa using hlt)
      have hc' : ((w.alloc (.cells #[.int .u64 (m64 (d64 (sumI (l.take k))))] 80)).alloc (.cells #[.int .u64 (m64 (sumI (l.take k)))] 80)).cell? ⟨b, o + k, none⟩ = some (.int .i64 l[k]) := by
        rw [cell_old _ _ _ (by simp; omega), cell_old _ _ _ hb, hc]; simp
      have HK := Lib.hid (sumI_snoc hlt)
      have hI := HL.out l[k] (by simp)
      have HI := Lib.hid hI
      clear hc hI
      go_wp2_with (go_at_call 36; refine (put_any _ _ _ HI.out).mono ?_; rintro e w' ⟨rfl, rfl⟩)
      go_roundw
      case rel => exact ⟨k + 1, by omega, by go_num, by rw [HK.out]⟩
      case measure => simp [intOf]; omega
    · obtain rfl : k = l.length := by omega
      have hbd := sumI_bd l HL.out
      obtain ⟨he, hv⟩ := sum_end (sumI l) l.length hn hbd
      clear hbd
      have HE := Lib.hid he
      have HV := Lib.hid hv
      clear he hv
      rw [List.take_length]
      have hbel : ∀ a b : Obj, Below w.heap.size w ((w.alloc a).alloc b) := fun a b => ((Below.refl _ _).alloc (Nat.le_refl _) _).alloc (by simp) _
      go_wp2_with fail
      · have hne : (m64 (d64 (sumI l)) != IntKind.u64.wrap (wrap64 (m64 (sumI l)) / 9223372036854775808)) = true := by assumption
        go_ret2
        have hno : ¬ I64 (sumI l) := fun h => by rw [HE.out.2 h] at hne; cases hne
        refine ⟨?_, hbel _ _⟩
        rw [(amt_out hno).1, (amt_out hno).2]
        rfl
      · have hne : (m64 (d64 (sumI l)) != IntKind.u64.wrap (wrap64 (m64 (sumI l)) / 9223372036854775808)) = false := by assumption
        go_ret2
        have hyes := HE.out.1 hne
        refine ⟨?_, hbel _ _⟩
        rw [(amt_in hyes).1, (amt_in hyes).2]
        exact ret2_int (HV.out hyes) rfl
end Go.Proofs.Ytgkidjjijgegmaa
