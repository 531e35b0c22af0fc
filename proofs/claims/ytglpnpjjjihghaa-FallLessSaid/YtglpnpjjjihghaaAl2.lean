/-
  What money.Over, alloc.Sum, alloc.Short and alloc.Split come to, over this seat's translation: contracts for callers.
-/
import Derived.Test.YtglpnpjjjihghaaAl1
import Derived.Test.YtglpnpjjjihghaaAlLaw
import Derived.Deep.RegionHeld3
import Derived.Deep.AppendLies
import Derived.Laws.EntriesVeiled
namespace Go.Proofs.Ytglpnpjjjihghaa
open Go.RowKit

/-- By how much a number is above another one. -/
def ovV (a b : Int) : Int := if a ≤ b then 0 else if amtE (a - b) = 0 then amtV (a - b) else 9223372036854775807
theorem ov_pos {a b : Int} (ha : 0 ≤ a) (hb : 0 ≤ b) (h : I64 a) : ovV a b = max (a - b) 0 := by
  unfold ovV
  by_cases h1 : a ≤ b
  · rw [if_pos h1]; omega
  · have hI : I64 (a - b) := by unfold I64 at *; omega
    rw [if_neg h1, (amt_in hI).1, (amt_in hI).2, if_pos rfl]; omega
set_option maxHeartbeats 400000 in
theorem over_any (a b : Int) (w : World) (ha : I64 a) (hb : I64 b) :
    Calls Try.prog 56 #[.int .i64 a, .int .i64 b] w fun e w' => e = .returned (.int .i64 (ovV a b)) ∧ w = w' := by
  have HS := fun W => Lib.hid (sub_any a b W ha hb)
  have HD := Lib.hid (show ovV a b = if a ≤ b then 0 else if amtE (a - b) = 0 then amtV (a - b) else 9223372036854775807 from rfl)
  clear ha hb
  by_cases h1 : a ≤ b
  · have HE : Hid (ovV a b = 0) := by show _ = _; rw [HD.out, if_pos h1]
    go_enter Try.func56, Try.ntmps56
    go_wp2_with fail
    go_ret
    exact ⟨ret_int HE.out.symm, rfl⟩
  · by_cases h2 : amtE (a - b) = 0
    · have HE : Hid (ovV a b = amtV (a - b)) := by show _ = _; rw [HD.out, if_neg h1, if_pos h2]
      rw [h2] at HS
      clear h2
      generalize amtV (a - b) = V at *
      go_enter Try.func56, Try.ntmps56
      go_wp2_with fail
      refine (HS _).out.mono ?_
      rintro e w1 ⟨rfl, rfl⟩
      go_wp2_with fail
      go_ret
      exact ⟨ret_int HE.out.symm, rfl⟩
    · have HE : Hid (ovV a b = 9223372036854775807) := by show _ = _; rw [HD.out, if_neg h1, if_neg h2]
      have h2b : (amtE (a - b) != 0) = true := by simpa [bne] using h2
      clear h2
      generalize amtV (a - b) = V at *
      generalize amtE (a - b) = E at *
      go_enter Try.func56, Try.ntmps56
      go_wp2_with fail
      refine (HS _).out.mono ?_
      rintro e w1 ⟨rfl, rfl⟩
      go_wp2_with fail
      go_ret
      exact ⟨ret_int HE.out.symm, rfl⟩

def sumV (L : List Lg) : Int := if clmE L = 0 then sumI (amts L) else 0
theorem clmE_ok {L : List Lg} (h : clmE L = 0) : L.length ≤ 1024 ∧ (∀ k, k < L.length → badAt L k = false) ∧ I64 (sumI (amts L)) := by
  unfold clmE at h
  by_cases h1 : 1024 < L.length
  · rw [if_pos h1] at h; omega
  · rw [if_neg h1] at h
    by_cases h2 : (List.range L.length).any (badAt L) = true
    · rw [if_pos h2] at h; omega
    · rw [if_neg h2] at h
      refine ⟨by omega, fun k hk => ?_, amtE_zero h⟩
      cases hb : badAt L k
      · rfl
      · exact absurd (List.any_eq_true.2 ⟨k, List.mem_range.2 hk, hb⟩) h2
theorem clmE_sum {L : List Lg} (h : clmE L = 0) : amtV (sumI (amts L)) = sumI (amts L) ∧ amtE (sumI (amts L)) = 0 := amt_in (clmE_ok h).2.2
set_option maxHeartbeats 800000 in
theorem asum_any (L : List Lg) (A : Option Addr) (c : Nat) (w : World) (hs : Seg w w.heap.size A (lgRows L)) (hI : ∀ x ∈ L, I64 x.n) (hl : L.length ≤ 100000) :
    Calls Try.prog 60 #[.slice A L.length c] w fun e w' => e = .returned (.tuple #[.int .i64 (sumV L), .int .i64 (clmE L)]) ∧ Below w.heap.size w w' := by
  have HC := Lib.hid (clm_any L A c w hs hI hl)
  have HS := Lib.hid hs
  have HI := Lib.hid hI
  have HD := Lib.hid (show sumV L = if clmE L = 0 then sumI (amts L) else 0 from rfl)
  have HQ := Lib.hid (clmE_sum (L := L))
  clear hs hI
  by_cases h0 : clmE L = 0
  · have HE : Hid (sumV L = sumI (amts L)) := by show _ = _; rw [HD.out, if_pos h0]
    have HQ2 := Lib.hid (HQ.out h0)
    have H00 := Lib.hid h0
    rw [h0] at HC
    go_enter Try.func60, Try.ntmps60
    clear h0
    go_wp2_with fail
    refine HC.out.mono ?_
    rintro e w1 ⟨rfl, hb1⟩
    have HB1 := Lib.hid hb1
    have HAM := Lib.hid (amounts_any L A c _ ((HS.out.below HB1.out).mono HB1.out.size) hl)
    clear hb1
    go_wp2_with fail
    refine HAM.out.mono ?_
    rintro e w2 ⟨A2, c2, rfl, hs2, hb2⟩
    have HS2 := Lib.hid hs2
    have HB2 : Hid (Below w.heap.size w w2) := HB1.out.trans (hb2.mono HB1.out.size)
    have hll : (amts L).length ≤ 4611686018427387904 := by rw [amts_len]; omega
    clear hs2 hb2
    go_wp2_with fail
    refine (sum_any (amts L) A2 c2 _ (amts_I64 HI.out) HS2.out hll).mono ?_
    rintro e w3 ⟨rfl, hb3⟩
    have HB3 : Hid (Below w.heap.size w w3) := HB2.out.trans (hb3.mono HB2.out.size)
    clear hb3
    go_wp2_with fail
    go_ret2
    exact ⟨(by rw [HE.out, HQ2.out.1, HQ2.out.2, H00.out]; first | done | rfl), HB3.out⟩
  · have HE : Hid (sumV L = 0) := by show _ = _; rw [HD.out, if_neg h0]
    have h0b : (clmE L != 0) = true := by simpa [bne] using h0
    clear h0 HQ HD
    generalize clmE L = E at *
    go_enter Try.func60, Try.ntmps60
    go_wp2_with fail
    refine HC.out.mono ?_
    rintro e w1 ⟨rfl, hb1⟩
    have HB1 := Lib.hid hb1
    clear hb1
    go_wp2_with fail
    go_ret2
    exact ⟨(by rw [HE.out]; first | done | rfl), HB1.out⟩

def shE (avail : Int) (L : List Lg) : Int := if clmE L ≠ 0 then clmE L else if avail < 0 then 1 else 0
def shV (avail : Int) (L : List Lg) : Int := if shE avail L = 0 then ovV (sumI (amts L)) avail else 0
set_option maxHeartbeats 800000 in
theorem short_any (avail : Int) (L : List Lg) (A : Option Addr) (c : Nat) (w : World) (hA : I64 avail) (hs : Seg w w.heap.size A (lgRows L)) (hI : ∀ x ∈ L, I64 x.n) (hl : L.length ≤ 100000) :
    Calls Try.prog 83 #[.int .i64 avail, .slice A L.length c] w fun e w' => e = .returned (.tuple #[.int .i64 (shV avail L), .int .i64 (shE avail L)]) ∧ Below w.heap.size w w' := by
  have HC := Lib.hid (asum_any L A c w hs hI hl)
  have HD := Lib.hid (show shE avail L = if clmE L ≠ 0 then clmE L else if avail < 0 then 1 else 0 from rfl)
  have HV := Lib.hid (show shV avail L = if shE avail L = 0 then ovV (sumI (amts L)) avail else 0 from rfl)
  by_cases h0 : clmE L = 0
  · have HSU : Hid (sumV L = sumI (amts L)) := by show _ = _; unfold sumV; rw [if_pos h0]
    have HOV := fun W => Lib.hid (over_any (sumI (amts L)) avail W (clmE_ok h0).2.2 hA)
    rw [HSU.out, h0] at HC
    by_cases h1 : avail < 0
    · have HE : Hid (shE avail L = 1) := by show _ = _; rw [HD.out, if_neg (by omega), if_pos h1]
      have HE2 : Hid (shV avail L = 0) := by show _ = _; rw [HV.out, if_neg (by rw [HE.out]; omega)]
      clear h0 hs hI hA HSU HOV
      go_enter Try.func83, Try.ntmps83
      go_wp2_with fail
      refine HC.out.mono ?_
      rintro e w1 ⟨rfl, hb1⟩
      have HB1 := Lib.hid hb1
      clear hb1
      go_wp2_with fail
      go_ret2
      exact ⟨(by rw [HE.out, HE2.out]; first | done | rfl), HB1.out⟩
    · have HE : Hid (shE avail L = 0) := by show _ = _; rw [HD.out, if_neg (by omega), if_neg h1]
      have HE2 : Hid (shV avail L = ovV (sumI (amts L)) avail) := by show _ = _; rw [HV.out, if_pos HE.out]
      clear h0 hs hI hA HSU
      generalize ovV (sumI (amts L)) avail = OV at *
      generalize sumI (amts L) = S at *
      go_enter Try.func83, Try.ntmps83
      go_wp2_with fail
      refine HC.out.mono ?_
      rintro e w1 ⟨rfl, hb1⟩
      have HB1 := Lib.hid hb1
      clear hb1
      go_wp2_with fail
      refine (HOV _).out.mono ?_
      rintro e w2 ⟨rfl, rfl⟩
      go_wp2_with fail
      go_ret2
      exact ⟨(by rw [HE.out, HE2.out]; first | done | rfl), HB1.out⟩
  · have HE : Hid (shE avail L = clmE L) := by show _ = _; rw [HD.out, if_pos h0]
    have HE2 : Hid (shV avail L = 0) := by show _ = _; rw [HV.out, if_neg (by rw [HE.out]; exact h0)]
    have h0b : (clmE L != 0) = true := by simpa [bne] using h0
    clear h0 hs hI hA HD HV
    generalize clmE L = E at *
    generalize sumV L = S at *
    go_enter Try.func83, Try.ntmps83
    go_wp2_with fail
    refine HC.out.mono ?_
    rintro e w1 ⟨rfl, hb1⟩
    have HB1 := Lib.hid hb1
    clear hb1
    go_wp2_with fail
    go_ret2
    exact ⟨(by rw [HE.out, HE2.out]; first | done | rfl), HB1.out⟩

/-- Legs of claims, with other amounts, without those of nothing. -/
def someL (L : List Lg) (xs : List Int) : List Lg := (List.zipWith (fun (x : Lg) n => (⟨x.m, x.a, n⟩ : Lg)) L xs).filter fun x => decide (0 < x.n)
theorem someL_snoc {L : List Lg} {xs : List Int} {k : Nat} (h : k < L.length) (h' : k < xs.length) : someL (L.take (k + 1)) (xs.take (k + 1)) = someL (L.take k) (xs.take k) ++ if 0 < xs[k] then [⟨L[k].m, L[k].a, xs[k]⟩] else [] := by
  unfold someL
  rw [List.take_succ_eq_append_getElem h, List.take_succ_eq_append_getElem h', List.zipWith_append (by simp; omega), List.filter_append]
  by_cases c : 0 < xs[k] <;> simp [c]
theorem someL_len (L : List Lg) (xs : List Int) (k : Nat) : (someL (L.take k) (xs.take k)).length ≤ k := by
  unfold someL
  refine Nat.le_trans (List.length_filter_le _ _) ?_
  rw [List.length_zipWith, List.length_take]
  omega
theorem someL_le (L : List Lg) (xs : List Int) : (someL L xs).length ≤ L.length := by
  unfold someL
  refine Nat.le_trans (List.length_filter_le _ _) ?_
  rw [List.length_zipWith]
  omega
set_option maxHeartbeats 1600000 in
set_option maxRecDepth 100000 in
theorem some1_any (L : List Lg) (xs : List Int) (A A' : Option Addr) (c c' bc : Nat) (w : World) (hs : Seg w w.heap.size A (lgRows L)) (hs' : Seg w w.heap.size A' (xs.map (Value.int .i64))) (hb : w.cell? ⟨bc, 0, none⟩ = some (.slice A L.length c)) (hbc : bc < w.heap.size) (hl : L.length ≤ 100000) (hx : xs.length = L.length) :
    Calls Try.prog 85 #[.slice A' xs.length c', .pointer (some ⟨bc, 0, none⟩)] w (LegP (someL L xs) w) := by
  obtain ⟨i0, hi0, hz0, hz1', hz2⟩ := info_parts lg_info
  have HS := Lib.hid hs
  have HS' := Lib.hid hs'
  have HBX := Lib.hid hb
  have HX := Lib.hid hx
  have hxl : xs.length ≤ 100000 := by omega
  clear hs hs' hb hx
  go_enter Try.func85, Try.ntmps85
  go_wp2_with fail
  go_loopw [4, 5, 6, 9] (fun u _ _ i wr => ∃ k : Nat, k ≤ xs.length ∧ i = .int .i64 k ∧ Hid (wr.ownsRow w.heap.size 75 3 u (someL (L.take k) (xs.take k)).length (lgRows (someL (L.take k) (xs.take k)))) ∧ Hid (Below w.heap.size w wr)) (fun _ _ _ i _ => xs.length - (intOf i).toNat)
  case atStart => exact ⟨0, Nat.zero_le _, rfl, ⟨by simp [someL, lgRows], Or.inl ⟨rfl, rfl⟩⟩, Below.refl _ _⟩
  case round =>
    obtain ⟨k, hk, rfl, HO, HB⟩ := hrel
    have hsz := HB.out.size
    by_cases hlt : k < xs.length
    · have hltL : k < L.length := by have := HX.out; omega
      obtain ⟨b', o', rfl, hb', hc'⟩ := (HS'.out.below HB.out).at (k := k) (by simpa using hlt)
      rw [List.getElem_map] at hc'
      have HF := Lib.hid (someL_snoc hltL hlt)
      have hyl := someL_len L xs k
      by_cases hp : 0 < xs[k]
      · obtain ⟨b, o, rfl, hb2, -, -, -⟩ := lg_at (HS.out.below HB.out) hltL
        have HKP : Hid (∀ W, Below w.heap.size w W → W.cell? ⟨bc, 0, none⟩ = some (.slice (some ⟨b, o, none⟩) L.length c) ∧ W.cell? ⟨b, o + k * 3, none⟩ = some (.int .i64 L[k].m) ∧ W.cell? ⟨b, o + k * 3 + 1, none⟩ = some (.int .i64 L[k].a)) := fun W hW => by
          obtain ⟨b9, o9, e9, _, d0, d1, d2⟩ := lg_at (HS.out.below hW) hltL
          injection e9 with e9
          injection e9 with e91 e92
          subst e91 e92
          exact ⟨(hW.cell (p := ⟨bc, 0, none⟩) hbc).trans HBX.out, d0, d1⟩
        obtain ⟨q0, q1, q2⟩ := HKP.out _ HB.out
        rw [if_pos hp] at HF
        have hk0 : (0 : Int) ≤ (k : Int) := by omega
        have hkb : (k : Int) < (L.length : Int) := by omega
        generalize someL (L.take k) (xs.take k) = ys at *
        go_wp2_with fail
        go_region_held3 (fun w' => w'.cell? ⟨bc, 0, none⟩ = some (.slice (some ⟨b, o, none⟩) L.length c) ∧ w'.cell? ⟨b, o + k * 3, none⟩ = some (.int .i64 L[k].m) ∧ w'.cell? ⟨b, o + k * 3 + 1, none⟩ = some (.int .i64 L[k].a)) (first | (with_reducible exact HKP.out _ HB.out.drew) | (with_reducible exact HKP.out _ (HB.out.drew.alloc hsz _)) | exact HKP.out _ (HB.out.alloc hsz _).drew | (with_reducible exact HKP.out _ HG4.out)) ((refine step_append_lies _ rfl _ _ 27 rfl w.heap.size 75 i0 _ 3 24 Try.underlying27 hi0 hz0 hz1' hz2 rfl (by decide) _ ys.length (lgRows ys) rfl (HO.out.alloc _) ⟨wr.heap.size, 0, none⟩ 1 1 (Lg.cells ⟨L[k].m, L[k].a, xs[k]⟩) rfl rfl (new_cells _ _ #[_, _, _] (by simp)) (leg_one ⟨L[k].m, L[k].a, xs[k]⟩) (by decide) (by simp only [maxLen]; omega) (by omega) (by simp; omega) _ rfl ?_; intro g cap w4 hown1 hgrow1 _ _; have HO4 := Lib.hid hown1; have HG4 : Hid (Below w.heap.size w w4) := (HB.out.alloc hsz _).drew.grown hgrow1 (by show w.heap.size ≤ (wr.alloc _).heap.size; simp; omega) (fun j hj => own_base HO.out j hj); clear hown1 hgrow1))
        have HO5 : Hid (w4.ownsRow w.heap.size 75 3 (.slice (some ⟨g, 0, none⟩) (ys.length + 1) cap) (someL (L.take (k + 1)) (xs.take (k + 1))).length (lgRows (someL (L.take (k + 1)) (xs.take (k + 1))))) := by
          show World.ownsRow _ _ _ _ _ _ _
          rw [HF.out, lgRows_snoc, List.length_append, List.length_singleton]
          exact HO4.out
        go_wp2_with fail
        go_roundw
        case rel => exact ⟨k + 1, by omega, by go_num, HO5, HG4⟩
        case measure => simp [intOf]; omega
      · rw [if_neg hp, List.append_nil] at HF
        have hO2 := HO.out
        rw [← HF.out] at hO2
        have HO1 := Lib.hid hO2
        clear hO2
        go_wp2_with fail
        go_roundw
        case rel => exact ⟨k + 1, by omega, by go_num, HO1, HB⟩
        case measure => simp [intOf]; omega
    · obtain rfl : k = xs.length := by omega
      have hO := HO.out
      rw [List.take_length, List.take_of_length_le (by have := HX.out; omega)] at hO
      obtain ⟨A1, c1, rfl⟩ := own_form hO
      have HSD := Lib.hid (Seg.of_own hO)
      clear hO
      go_wp2_with fail
      go_ret
      exact ⟨A1, c1, rfl, HSD.out, HB.out⟩
end Go.Proofs.Ytglpnpjjjihghaa
