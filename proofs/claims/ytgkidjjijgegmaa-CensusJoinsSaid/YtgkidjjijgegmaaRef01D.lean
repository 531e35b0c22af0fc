/-
  What complineref01.halves, whole and Sum come to, over this seat's translation: contracts for callers.
-/
import Derived.Test.YtgkidjjijgegmaaMoneySumD
namespace Go.Proofs.Ytgkidjjijgegmaa
open Go.RowKit

theorem halves_tmod (a : Int) : a.tmod 4294967296 = (if 0 ≤ a then a % 4294967296 else -((-a) % 4294967296)) := by
  split
  · rw [Int.tmod_eq_emod_of_nonneg (by assumption)]
  · have := Int.neg_tmod (-a) 4294967296
    rw [Int.neg_neg] at this
    rw [this, Int.tmod_eq_emod_of_nonneg (by omega)]
theorem halves_div (a : Int) (ha : I64 a) : wrap64 ((wrap64 (a - a % 4294967296)).tdiv 4294967296) = a / 4294967296 := by
  unfold I64 at ha
  have h1 : wrap64 (a - a % 4294967296) = a - a % 4294967296 := IntWalk.wrap64_in _ (by omega)
  rw [h1, Int.tdiv_eq_ediv_of_dvd (Int.dvd_of_emod_eq_zero (by omega)), IntWalk.wrap64_in _ (by omega)]
  omega
theorem halves_lo (a : Int) (h : a.tmod 4294967296 < 0) : wrap64 (a.tmod 4294967296 + 4294967296) = a % 4294967296 := by
  rw [halves_tmod] at *
  split at h
  · omega
  · rw [if_neg (by assumption), IntWalk.wrap64_in _ (by omega)]; omega
theorem halves_hi (a : Int) (h : 0 ≤ a.tmod 4294967296) : a.tmod 4294967296 = a % 4294967296 := by
  rw [halves_tmod] at *
  split at h
  · rw [if_pos (by assumption)]
  · rw [if_neg (by assumption)]; omega

set_option maxHeartbeats 400000 in
theorem halves_any (a : Int) (w : World) (ha : I64 a) :
    Calls Try.prog 26 #[.int .i64 a] w fun e w' =>
      e = .returned (.tuple #[.int .i64 (a / 4294967296), .int .i64 (a % 4294967296)]) ∧ w = w' := by
  have HA := Lib.hid ha
  clear ha
  rcases Int.lt_or_le (a.tmod 4294967296) 0 with h | h
  · go_enter Try.func26, Try.ntmps26
    go_wp2
    go_ret2
    have hlo := halves_lo a h
    have hd := halves_div a HA.out
    exact ⟨ret2_int (by rw [hlo]; exact hd) hlo, rfl⟩
  · go_enter Try.func26, Try.ntmps26
    go_wp2
    go_ret2
    have hlo := halves_hi a h
    have hd := halves_div a HA.out
    exact ⟨ret2_int (by rw [hlo]; exact hd) hlo, rfl⟩

theorem ret_int_bool {k : IntKind} {a c : Int} {b d : Bool} (h : a = c) (h' : b = d) :
    Ending.returned (.tuple #[.int k a, .bool b]) = .returned (.tuple #[.int k c, .bool d]) := by rw [h, h']

/-- whole: high and low, far from the ends. -/
def isAmt (x : Int) : Bool := decide (I64 x)
set_option maxHeartbeats 400000 in
theorem whole_any (h l : Int) (w : World) (hh : -4611686018427387904 ≤ h ∧ h ≤ 4611686018427387904) (hl : I64 l) :
    Calls Try.prog 27 #[.int .i64 h, .int .i64 l] w fun e w' =>
      e = .returned (.tuple #[.int .i64 (amtV (h * 4294967296 + l)), .bool (isAmt (h * 4294967296 + l))]) ∧ w = w' := by
  have HL := Lib.hid hl
  clear hl
  obtain ⟨h0, h1⟩ := hh
  have hq : -2147483648 ≤ l / 4294967296 ∧ l / 4294967296 ≤ 2147483647 := by have := HL.out; unfold I64 at this; omega
  have hr : 0 ≤ l % 4294967296 ∧ l % 4294967296 ≤ 4294967295 := by omega
  obtain ⟨hq0, hq1⟩ := hq
  obtain ⟨hr0, hr1⟩ := hr
  go_enter Try.func27, Try.ntmps27
  go_wp2_with (go_at_call 26; refine (halves_any _ _ HL.out).mono ?_; rintro e w' ⟨rfl, rfl⟩)
  all_goals
    go_ret2
    by_cases hI : I64 (h * 4294967296 + l)
    · rw [(amt_in hI).1, isAmt, decide_eq_true hI]
      unfold I64 at hI
      first
        | (exfalso; omega)
        | exact ⟨ret_int_bool (by omega) rfl, rfl⟩
    · rw [(amt_out hI).1, isAmt, decide_eq_false hI]
      unfold I64 at hI
      first
        | (exfalso; omega)
        | exact ⟨rfl, rfl⟩

/-- An amount's halves, the least one's too. -/
theorem halves_sum (a : Int) : a / 4294967296 * 4294967296 + a % 4294967296 = a := by omega

def hiI (l : List Int) : Int := sumI (l.map (· / 4294967296))
def loI (l : List Int) : Int := sumI (l.map (· % 4294967296))
theorem hilo (l : List Int) : hiI l * 4294967296 + loI l = sumI l := by
  unfold hiI loI
  induction l with
  | nil => simp [sumI]
  | cons a l ih => simp only [List.map_cons, sumI]; omega
theorem hi_snoc {l : List Int} {k : Nat} (hk : k < l.length) : hiI (l.take (k + 1)) = hiI (l.take k) + l[k] / 4294967296 := by
  unfold hiI
  rw [List.take_succ_eq_append_getElem hk, List.map_append, sumI_append]; simp [sumI]
theorem lo_snoc {l : List Int} {k : Nat} (hk : k < l.length) : loI (l.take (k + 1)) = loI (l.take k) + l[k] % 4294967296 := by
  unfold loI
  rw [List.take_succ_eq_append_getElem hk, List.map_append, sumI_append]; simp [sumI]
theorem hi_bd (l : List Int) (h : ∀ x ∈ l, I64 x) : -(2147483648 * (l.length : Int)) ≤ hiI l ∧ hiI l ≤ 2147483648 * (l.length : Int) := by
  unfold hiI
  induction l with
  | nil => simp [sumI]
  | cons a l ih =>
    have h1 := h a (by simp)
    have h2 := ih fun x hx => h x (by simp [hx])
    unfold I64 at h1
    simp only [List.map_cons, sumI, List.length_cons]
    omega
theorem lo_bd (l : List Int) : 0 ≤ loI l ∧ loI l ≤ 4294967296 * (l.length : Int) := by
  unfold loI
  induction l with
  | nil => simp [sumI]
  | cons a l ih =>
    simp only [List.map_cons, sumI, List.length_cons]
    omega

set_option maxHeartbeats 800000 in
theorem refsum_any (l : List Int) (A : Option Addr) (c : Nat) (w : World) (hl : ∀ x ∈ l, I64 x) (hs : Seg w w.heap.size A (l.map (Value.int .i64))) (hn : l.length ≤ 1073741824) :
    Calls Try.prog 17 #[.slice A l.length c] w fun e w' =>
      e = .returned (.tuple #[.int .i64 (amtV (sumI l)), .int .i64 (amtE (sumI l))]) ∧ w = w' := by
  have HL := Lib.hid hl
  have HS := Lib.hid hs
  clear hl hs
  go_enter Try.func17, Try.ntmps17
  go_wp2_with fail
  go_loop [4, 5, 6, 7, 8] (fun h o i _ _ => ∃ k : Nat, k ≤ l.length ∧ i = .int .i64 k ∧ h = .int .i64 (hiI (l.take k)) ∧ o = .int .i64 (loI (l.take k))) (fun _ _ i _ _ => l.length - (intOf i).toNat)
  case atStart => exact ⟨0, Nat.zero_le _, rfl, rfl, rfl⟩
  case round =>
    obtain ⟨k, hk, rfl, rfl, rfl⟩ := hrel
    have hb1 := hi_bd (l.take k) (fun x hx => HL.out x (List.mem_of_mem_take hx))
    have hb2 := lo_bd (l.take k)
    rw [List.length_take_of_le hk] at hb1 hb2
    obtain ⟨hb10, hb11⟩ := hb1
    obtain ⟨hb20, hb21⟩ := hb2
    by_cases hlt : k < l.length
    · obtain ⟨b, o, rfl, hb, hc⟩ := HS.out.at (k := k) (by simpa using hlt)
      rw [List.getElem_map] at hc
      have HK := Lib.hid (hi_snoc hlt)
      have HK2 := Lib.hid (lo_snoc hlt)
      have hI := HL.out l[k] (by simp)
      have HI := Lib.hid hI
      have hq : -2147483648 ≤ l[k] / 4294967296 ∧ l[k] / 4294967296 ≤ 2147483647 := by unfold I64 at hI; omega
      have hr : 0 ≤ l[k] % 4294967296 ∧ l[k] % 4294967296 ≤ 4294967295 := by omega
      obtain ⟨hq0, hq1⟩ := hq
      obtain ⟨hr0, hr1⟩ := hr
      clear hI
      cases hm : (l[k] != -9223372036854775808)
      · have hmin : l[k] = -9223372036854775808 := by simpa using hm
        have h1 : l[k] / 4294967296 = -2147483648 := by rw [hmin]; rfl
        have h2 : l[k] % 4294967296 = 0 := by rw [hmin]; rfl
        have H1 := Lib.hid h1
        have H2 := Lib.hid h2
        clear h1 h2 hmin
        go_wp2_with fail
        go_round
        case rel => exact ⟨k + 1, by omega, by go_num, by rw [HK.out, H1.out], by rw [HK2.out, H2.out]; go_num⟩
        case measure => simp [intOf]; omega
      · go_wp2_with (go_at_call 26; refine (halves_any _ _ HI.out).mono ?_; rintro e w' ⟨rfl, rfl⟩)
        go_round
        case rel => exact ⟨k + 1, by omega, by go_num, by rw [HK.out], by rw [HK2.out]⟩
        case measure => simp [intOf]; omega
    · obtain rfl : k = l.length := by omega
      rw [List.take_length] at *
      have HS2 := Lib.hid (hilo l)
      cases hi : isAmt (hiI l * 4294967296 + loI l)
      all_goals
        go_wp2_with (go_at_call 27; refine (whole_any _ _ _ (by omega) (by unfold I64; omega)).mono ?_; rintro e w' ⟨rfl, rfl⟩)
        go_ret2
        rw [HS2.out] at hi
      · have hn : ¬ I64 (sumI l) := by simpa [isAmt] using hi
        exact ⟨by rw [(amt_out hn).1, (amt_out hn).2]; rfl, rfl⟩
      · have hn : I64 (sumI l) := by simpa [isAmt] using hi
        refine ⟨?_, rfl⟩
        rw [(amt_in hn).1, (amt_in hn).2]
        exact ret2_int (by rw [HS2.out, (amt_in hn).1]) rfl
end Go.Proofs.Ytgkidjjijgegmaa
