/-
  The walk of CompPays, over this seat's translation.
-/
import Derived.Test.YtglpnpjjjihghaaPay1
import Derived.Test.YtglpnpjjjihghaaAl4
import Derived.Test.YtglpnpjjjihghaaCw9
namespace Go.Proofs.Ytglpnpjjjihghaa
open Go.RowKit

theorem Seg.up {w w' : World} {A : Option Addr} {xs : List Value} (h : Seg w w.heap.size A xs) (hb : Below w.heap.size w w') : Seg w' w'.heap.size A xs := (h.below hb).mono hb.size
theorem pamts_at {L : List Lg} {k : Nat} (hk : k < L.length) (h : k < (amts L).length) : (amts L)[k] = L[k].n := List.getElem_map _
theorem pamts_take {L : List Lg} (k : Nat) : (amts L).take k = amts (L.take k) := by unfold amts; rw [List.map_take]
theorem ofV_I64 {m : Int} : ∀ {L : List Lg}, (∀ x ∈ L, I64 x.n) → I64 (ofV m L)
  | [], _ => by unfold ofV I64; omega
  | y :: L, h => by
    unfold ofV
    split
    · exact h y (by simp)
    · exact ofV_I64 fun z hz => h z (by simp [hz])
theorem cpayE_cases (cash : Int) (L : List Lg) : (clmE L ≠ 0 ∧ cpayE cash L = clmE L) ∨ (clmE L = 0 ∧ cashB L = false ∧ cpayE cash L = 1) ∨ (clmE L = 0 ∧ cashB L = true ∧ cash < 0 ∧ cpayE cash L = 1) ∨ (clmE L = 0 ∧ cashB L = true ∧ 0 ≤ cash ∧ cpayE cash L = 0 ∧ shE cash L = 0) := by
  unfold cpayE shE
  by_cases h1 : clmE L = 0
  · by_cases h2 : cashB L = true
    · by_cases h3 : cash < 0
      · right; right; left; exact ⟨h1, h2, h3, by simp [h1, h2, h3]⟩
      · right; right; right; exact ⟨h1, h2, by omega, by simp [h1, h2, h3], by simp [h1, h3]⟩
    · right; left
      have h2' : cashB L = false := by simpa using h2
      exact ⟨h1, h2', by simp [h1, h2']⟩
  · left; exact ⟨h1, by simp [h1]⟩
set_option maxHeartbeats 6400000 in
set_option maxRecDepth 1000000 in
theorem pays_law (cash : Int) (L : List Lg) (A : Option Addr) (c : Nat) (m : Int) (w : World) (hA : I64 cash) (hs : Seg w w.heap.size A (lgRows L)) (hn : L.length ≤ maxLen) (hI : ∀ x ∈ L, I64 x.n) :
    Calls Try.prog 9 #[.int .i64 cash, .slice A L.length c, .int .i64 m] w fun e w' => e = .returned (.bool true) ∧ Below w.heap.size w w' := by
  unfold maxLen at hn
  by_cases hbig : 40 < L.length
  · have q1 : decide ((40 : Int) < (L.length : Int)) = true := by simp only [decide_eq_true_eq]; omega
    clear hI hs
    go_enter Try.func9, Try.ntmps9
    go_wp2_with fail
    refine (awake27_any _).mono ?_
    rintro e w1 ⟨rfl, hb1⟩
    have HB1 := Lib.hid hb1
    clear hb1
    go_wp2_with fail
    go_ret
    exact ⟨rfl, HB1.out⟩
  have hl : L.length ≤ 40 := by omega
  have hle' : ¬ (40 : Int) < (L.length : Int) := by omega
  have q1 : decide ((40 : Int) < (L.length : Int)) = false := decide_eq_false hle'
  have HS := Lib.hid hs
  have HI := Lib.hid hI
  have HA := Lib.hid hA
  have HSG : Hid (∀ W, Below w.heap.size w W → Seg W W.heap.size A (lgRows L)) := Lib.hid fun W hW => (hs.below hW).mono hW.size
  have HC1 : Hid (∀ W, Below w.heap.size w W → Calls Try.prog 37 #[.slice A L.length c] W fun e w' => e = .returned (.tuple #[.int .i64 (sumV L), .int .i64 (clmE L)]) ∧ Below W.heap.size W w') := Lib.hid fun W hW => rsum26_any L A c W (HSG.out W hW) hI (by omega)
  have HC2 : Hid (∀ W, Below w.heap.size w W → Calls Try.prog 38 #[.slice A L.length c] W fun e w' => e = .returned (.bool (cashB L)) ∧ W = w') := Lib.hid fun W hW => cash27_any L A c W (HSG.out W hW) (by omega)
  have HC4 : Hid (∀ W, Below w.heap.size w W → Calls Try.prog 36 #[.int .i64 cash, .slice A L.length c] W (Legs2 W (cpayG cash L) (cpayK cash L) (cpayE cash L))) := Lib.hid fun W hW => pay_any cash L A c W hA (HSG.out W hW) hI (by omega)
  have HC6 : Hid (∀ W, Below w.heap.size w W → Calls Try.prog 39 #[.int .i64 cash, .slice A L.length c] W (CloneP (alL cash (amts L)) W)) := Lib.hid fun W hW => given26_any cash L A c W hA (HSG.out W hW) hI (by omega)
  have HGD : Hid (cpayG cash L = if cpayE cash L = 0 then givL cash L else []) := Lib.hid rfl
  have HKD : Hid (cpayK cash L = if cpayE cash L = 0 then lackL cash L else []) := Lib.hid rfl
  have hSV : sumV L = if clmE L = 0 then sumI (amts L) else 0 := rfl
  have HOFB : Hid (I64 (ofV m L)) := Lib.hid (ofV_I64 hI)
  clear hI hA hs
  rcases cpayE_cases cash L with ⟨h1, h2⟩ | ⟨h1, h2, h3⟩ | ⟨h1, h2, h3, h4⟩ | ⟨h1, h2, h3, h4, h5⟩
  · rw [h2] at HC4 HGD HKD
    rw [if_neg h1] at HGD HKD
    rw [HGD.out, HKD.out] at HC4
    have hez : (clmE L == 0) = false := by rw [beq_eq_false_iff_ne]; exact h1
    have hen : (clmE L != 0) = true := by simpa [bne] using h1
    clear hSV h2 HGD HKD
    generalize clmE L = ce at *
    generalize sumV L = sv at *
    go_enter Try.func9, Try.ntmps9
    go_wp2_with fail
    refine (HC4.out _ (Below.refl _ _)).mono ?_
    rintro e w4 ⟨A4, c4, B4, d4, rfl, -, -, hb4⟩
    have HB4 := Lib.hid hb4
    clear hb4
    go_wp2_with fail
    refine (HC1.out _ HB4.out).mono ?_
    rintro e w5 ⟨rfl, hb5⟩
    have HB5 : Hid (Below w.heap.size w w5) := Lib.hid (HB4.out.trans (hb5.mono HB4.out.size))
    clear hb5
    go_wp2_with fail
    refine (awake27_any _).mono ?_
    rintro e w6 ⟨rfl, hb6⟩
    have HB6 : Hid (Below w.heap.size w w6) := Lib.hid (HB5.out.trans (hb6.mono HB5.out.size))
    clear hb6
    go_wp2_with fail
    go_ret
    exact ⟨rfl, HB6.out⟩
  · rw [h3] at HC4 HGD HKD
    rw [if_neg (by decide)] at HGD HKD
    rw [HGD.out, HKD.out] at HC4
    rw [h1] at HC1
    rw [h2] at HC2
    clear hSV h1 h2 h3 HGD HKD
    generalize sumV L = sv at *
    go_enter Try.func9, Try.ntmps9
    go_wp2_with fail
    refine (HC4.out _ (Below.refl _ _)).mono ?_
    rintro e w4 ⟨A4, c4, B4, d4, rfl, -, -, hb4⟩
    have HB4 := Lib.hid hb4
    clear hb4
    go_wp2_with fail
    refine (HC1.out _ HB4.out).mono ?_
    rintro e w5 ⟨rfl, hb5⟩
    have HB5 : Hid (Below w.heap.size w w5) := Lib.hid (HB4.out.trans (hb5.mono HB4.out.size))
    clear hb5
    go_wp2_with fail
    refine (HC2.out _ HB5.out).mono ?_
    rintro e w9 ⟨rfl, rfl⟩
    go_wp2_with fail
    refine (awake27_any _).mono ?_
    rintro e w6 ⟨rfl, hb6⟩
    have HB6 : Hid (Below w.heap.size w w6) := Lib.hid (HB5.out.trans (hb6.mono HB5.out.size))
    clear hb6
    go_wp2_with fail
    go_ret
    exact ⟨rfl, HB6.out⟩
  · rw [h4] at HC4 HGD HKD
    rw [if_neg (by decide)] at HGD HKD
    rw [HGD.out, HKD.out] at HC4
    rw [h1] at HC1
    rw [h2] at HC2
    have hcd : decide (cash < 0) = true := decide_eq_true h3
    clear hSV h1 h2 h4 HGD HKD
    generalize sumV L = sv at *
    go_enter Try.func9, Try.ntmps9
    go_wp2_with fail
    refine (HC4.out _ (Below.refl _ _)).mono ?_
    rintro e w4 ⟨A4, c4, B4, d4, rfl, -, -, hb4⟩
    have HB4 := Lib.hid hb4
    clear hb4
    go_wp2_with fail
    refine (HC1.out _ HB4.out).mono ?_
    rintro e w5 ⟨rfl, hb5⟩
    have HB5 : Hid (Below w.heap.size w w5) := Lib.hid (HB4.out.trans (hb5.mono HB4.out.size))
    clear hb5
    go_wp2_with fail
    refine (HC2.out _ HB5.out).mono ?_
    rintro e w9 ⟨rfl, rfl⟩
    go_wp2_with fail
    refine (awake27_any _).mono ?_
    rintro e w6 ⟨rfl, hb6⟩
    have HB6 : Hid (Below w.heap.size w w6) := Lib.hid (HB5.out.trans (hb6.mono HB5.out.size))
    clear hb6
    go_wp2_with fail
    go_ret
    exact ⟨rfl, HB6.out⟩
  · rw [h4] at HC4 HGD HKD
    rw [if_pos rfl] at HGD HKD
    rw [HGD.out, HKD.out] at HC4
    rw [if_pos h1] at hSV
    rw [h1, hSV] at HC1
    rw [h2] at HC2
    have hcd : decide (cash < 0) = false := decide_eq_false (by omega)
    have F := payF_of m h5
    have HOF := Lib.hid F.of
    have HLO := Lib.hid F.lo
    have HEM := Lib.hid F.em
    have HGS := Lib.hid F.g
    have HKS := Lib.hid F.k
    have HBD := Lib.hid F.bd
    have hal := F.al
    have HALE := Lib.hid (amts_len L)
    have HAMI : Hid (∀ x ∈ L, I64 x.n) := HI
    clear hSV h1 h2 h4 h5 HGD HKD F
    rw [HGS.out, HKS.out] at HC4 HOF
    rw [HGS.out] at HLO
    rw [HKS.out] at HEM
    have HTL : Hid (∀ k, (amts L).take k = amts (L.take k)) := Lib.hid fun k => pamts_take k
    generalize alL cash (amts L) = zs at *
    obtain ⟨ls, hls⟩ : ∃ ls, ls = List.zipWith (· - ·) (amts L) zs := ⟨_, rfl⟩
    rw [← hls] at HC4 HOF HEM
    have HLZ := Lib.hid hls
    obtain ⟨sm, hsm⟩ : ∃ sm, sm = sumI (amts L) := ⟨_, rfl⟩
    rw [← hsm] at HC1 HEM
    clear hls hsm
    have hzl : zs.length ≤ L.length := by omega
    have hzg : L.length ≤ zs.length := by omega
    have HZL := Lib.hid hal
    clear hal
    obtain ⟨i0, hi0, hz0, hz1, hz2⟩ := info_parts i64_info
    go_enter Try.func9, Try.ntmps9
    go_wp2_with fail
    refine (HC4.out _ (Below.refl _ _)).mono ?_
    rintro e w4 ⟨A4, c4, B4, d4, rfl, hg4, hl4, hb4⟩
    have HB4 := Lib.hid hb4
    have HG4 := Lib.hid hg4
    have HL4 := Lib.hid hl4
    clear hb4 hg4 hl4
    go_wp2_with fail
    refine (HC1.out _ HB4.out).mono ?_
    rintro e w5 ⟨rfl, hb5⟩
    have HB5 : Hid (Below w.heap.size w w5) := Lib.hid (HB4.out.trans (hb5.mono HB4.out.size))
    have HG5 := Lib.hid (HG4.out.up hb5)
    have HL5 := Lib.hid (HL4.out.up hb5)
    clear hb5 HG4 HL4
    go_wp2_with fail
    refine (HC2.out _ HB5.out).mono ?_
    rintro e w9 ⟨rfl, rfl⟩
    go_wp2_with fail
    refine (HC6.out _ HB5.out).mono ?_
    rintro e w6 ⟨A6, c6, rfl, hs6, hb6⟩
    have HB6 : Hid (Below w.heap.size w w6) := Lib.hid (HB5.out.trans (hb6.mono HB5.out.size))
    have HS6 := Lib.hid hs6
    have HG6 := Lib.hid (HG5.out.up hb6)
    have HL6 := Lib.hid (HL5.out.up hb6)
    have sz6 := HB6.out.size
    clear hs6 hb6 HG5 HL5
    go_wp2_with fail
    go_loopw [13, 14] (fun u i wr => ∃ k : Nat, k ≤ L.length ∧ i = .int .i64 k ∧ Hid (wr.ownsRow w6.heap.size 2 1 u (List.zipWith (· - ·) (amts (L.take k)) (zs.take k)).length ((List.zipWith (· - ·) (amts (L.take k)) (zs.take k)).map (Value.int .i64))) ∧ Hid (Below w6.heap.size w6 wr)) (fun _ i _ => L.length - (intOf i).toNat)
    case atStart => exact ⟨0, Nat.zero_le _, rfl, ⟨by simp [amts], Or.inl ⟨rfl, rfl⟩⟩, Below.refl _ _⟩
    case round =>
      obtain ⟨k, hk, rfl, HO, HB⟩ := hrel
      have hsz := HB.out.size
      have HWB : Hid (Below w.heap.size w wr) := Lib.hid (HB6.out.trans (HB.out.mono sz6))
      by_cases hlt : k < L.length
      · have hlz : k < zs.length := by omega
        obtain ⟨b, o, rfl, hb, -, -, -⟩ := lg_at (HS.out.below HWB.out) hlt
        obtain ⟨b1, o1, rfl, hb1, -⟩ := (HS6.out.below HB.out).at (k := k) (by simpa using hlz)
        have hbd := HBD.out k hlz hlt
        have hni := HAMI.out _ (List.getElem_mem hlt)
        unfold I64 at hni
        have HF : Hid (List.zipWith (· - ·) (amts (L.take (k + 1))) (zs.take (k + 1)) = List.zipWith (· - ·) (amts (L.take k)) (zs.take k) ++ [L[k].n - zs[k]]) := by
          have := zip_snoc (cs := amts L) (ps := zs) (k := k) (by rw [HALE.out]; exact hlt) hlz
          rw [pamts_at hlt, HTL.out, HTL.out] at this
          exact this
        have hyl : (List.zipWith (· - ·) (amts (L.take k)) (zs.take k)).length ≤ k := by rw [List.length_zipWith, List.length_take]; omega
        have HKP : Hid (∀ W, Below w6.heap.size w6 W → W.cell? ⟨b, o + k * 3 + 2, none⟩ = some (.int .i64 L[k].n) ∧ W.cell? ⟨b1, o1 + k, none⟩ = some (.int .i64 zs[k])) := fun W hW => by
          obtain ⟨d0, d1, d2⟩ := lg_cells (HS.out.below (HB6.out.trans (hW.mono sz6))) hlt
          obtain ⟨b9, o9, e9, _, hc9⟩ := (HS6.out.below hW).at (k := k) (by simpa using hlz)
          injection e9 with e9
          injection e9 with e91 e92
          subst e91 e92
          rw [List.getElem_map] at hc9
          exact ⟨d2, hc9⟩
        obtain ⟨q0, q1⟩ := HKP.out _ HB.out
        have hk0 : (0 : Int) ≤ (k : Int) := by omega
        have hkb : (k : Int) < (L.length : Int) := by omega
        have hkx : (k : Int) < (zs.length : Int) := by omega
        have x1 : IntKind.i64.wrap (L[k].n - zs[k]) = L[k].n - zs[k] := IntWalk.i64_in _ (by omega)
        generalize List.zipWith (· - ·) (amts (L.take k)) (zs.take k) = ys at *
        go_wp2_with fail
        go_region_held3 (fun w' => w'.cell? ⟨b, o + k * 3 + 2, none⟩ = some (.int .i64 L[k].n) ∧ w'.cell? ⟨b1, o1 + k, none⟩ = some (.int .i64 zs[k])) (first | (with_reducible exact HKP.out _ HB.out.drew) | (with_reducible exact HKP.out _ (HB.out.drew.alloc hsz _)) | exact HKP.out _ (HB.out.alloc hsz _).drew | (with_reducible exact HKP.out _ HG4.out)) ((refine step_append_lies _ rfl _ _ 35 rfl w6.heap.size 2 i0 _ 1 8 Try.underlying35 hi0 hz0 hz1 hz2 rfl (by decide) _ ys.length (ys.map (Value.int .i64)) rfl (HO.out.alloc _) ⟨wr.heap.size, 0, none⟩ 1 1 [.int .i64 (L[k].n - zs[k])] rfl rfl (new_cells _ _ #[_] (by simp)) one_int (by decide) (by simp only [maxLen]; omega) (by omega) (by simp; omega) _ rfl ?_; intro g cap w4 hown1 hgrow1 _ _; have HO4 := Lib.hid hown1; have HG4 : Hid (Below w6.heap.size w6 w4) := (HB.out.alloc hsz _).drew.grown hgrow1 (by show w6.heap.size ≤ (wr.alloc _).heap.size; simp; omega) (fun j hj => own_base HO.out j hj); clear hown1 hgrow1))
        have HO5 : Hid (w4.ownsRow w6.heap.size 2 1 (.slice (some ⟨g, 0, none⟩) (ys.length + 1) cap) (List.zipWith (· - ·) (amts (L.take (k + 1))) (zs.take (k + 1))).length ((List.zipWith (· - ·) (amts (L.take (k + 1))) (zs.take (k + 1))).map (Value.int .i64))) := by
          show World.ownsRow _ _ _ _ _ _ _
          rw [HF.out, List.map_append, List.length_append, List.length_singleton]
          exact HO4.out
        clear x1
        go_wp2_with fail
        go_roundw
        case rel => exact ⟨k + 1, by omega, by go_num, HO5, HG4⟩
        case measure => simp [intOf]; omega
      · obtain rfl : k = L.length := by omega
        have hO := HO.out
        rw [List.take_length, List.take_of_length_le hzl, ← HLZ.out] at hO
        obtain ⟨A7, c7, rfl⟩ := own_form hO
        have HSL := Lib.hid (Seg.of_own hO)
        have hll : ls.length = L.length := by rw [HLZ.out, List.length_zipWith, HALE.out]; omega
        have HLL := Lib.hid hll
        clear hO hll HO
        have HSM : Hid (∀ (xs : List Int) (A' : Option Addr) (c' : Nat) (W : World), Below w.heap.size w W → xs.length = L.length → Seg W W.heap.size A' (xs.map (Value.int .i64)) → Calls Try.prog 40 #[.slice A L.length c, .slice A' xs.length c'] W (LegP (someL L xs) W)) := Lib.hid fun xs A' c' W hW hx hs' => some26_any L xs A A' c c' W (HSG.out W hW) hs' (by omega) hx
        have HG7 := Lib.hid (HG6.out.up HB.out)
        have HL7 := Lib.hid (HL6.out.up HB.out)
        have HS7 := Lib.hid (HS6.out.up HB.out)
        have hsl1 : (someL L zs).length ≤ 100000 := by have := someL_le L zs; omega
        have hsl2 : (someL L ls).length ≤ 100000 := by have := someL_le L ls; omega
        have wsz := HWB.out.size
        clear HG6 HL6 HS6
        go_wp2_with fail
        refine (HSM.out zs A6 c6 _ HWB.out HZL.out HS7.out).mono ?_
        rintro e w9 ⟨A9, c9, rfl, hs9, hb9⟩
        have HB9 : Hid (Below w.heap.size w w9) := Lib.hid (HWB.out.trans (hb9.mono wsz))
        have HM9 := Lib.hid hs9
        have HG9 := Lib.hid (HG7.out.up hb9)
        have HL9 := Lib.hid (HL7.out.up hb9)
        have HT9 := Lib.hid (HSL.out.up hb9)
        clear hb9 hs9 HG7 HL7 HS7 HSL
        go_wp2_with fail
        refine (lsame_any (someL L zs) A4 A9 _ _ _ HG9.out HM9.out (by omega)).mono ?_
        rintro e w10 ⟨rfl, hb10⟩
        have HB10 : Hid (Below w.heap.size w w10) := Lib.hid (HB9.out.trans (hb10.mono HB9.out.size))
        have HG10 := Lib.hid (HG9.out.up hb10)
        have HL10 := Lib.hid (HL9.out.up hb10)
        have HT10 := Lib.hid (HT9.out.up hb10)
        clear hb10 HL9 HT9 HG9 HM9
        go_wp2_with fail
        refine (HSM.out ls A7 c7 _ HB10.out HLL.out HT10.out).mono ?_
        rintro e w11 ⟨A11, c11, rfl, hs11, hb11⟩
        have HB11 : Hid (Below w.heap.size w w11) := Lib.hid (HB10.out.trans (hb11.mono HB10.out.size))
        have HM11 := Lib.hid hs11
        have HG11 := Lib.hid (HG10.out.up hb11)
        have HL11 := Lib.hid (HL10.out.up hb11)
        clear hb11 hs11 HL10 HT10 HG10
        go_wp2_with fail
        refine (lsame_any (someL L ls) B4 A11 _ _ _ HL11.out HM11.out (by omega)).mono ?_
        rintro e w12 ⟨rfl, hb12⟩
        have HB12 : Hid (Below w.heap.size w w12) := Lib.hid (HB11.out.trans (hb12.mono HB11.out.size))
        have HG12 := Lib.hid (HG11.out.up hb12)
        have HL12 := Lib.hid (HL11.out.up hb12)
        clear hb12 HM11 HG11 HL11
        go_wp2_with fail
        refine (awake27_any _).mono ?_
        rintro e w13 ⟨rfl, hb13⟩
        have HB13 : Hid (Below w.heap.size w w13) := Lib.hid (HB12.out.trans (hb13.mono HB12.out.size))
        have HG13 := Lib.hid (HG12.out.up hb13)
        have HL13 := Lib.hid (HL12.out.up hb13)
        clear hb13 HG12 HL12
        have HOA := fun W h => Lib.hid (cof_any (someL L zs) m A4 c4 W h hsl1)
        have HOB := fun W h => Lib.hid (cof_any (someL L ls) m B4 d4 W h hsl2)
        have HOC := fun W h => Lib.hid (cof_any L m A c W h (by omega))
        have HOAH := Lib.hid HOA
        have HOBH := Lib.hid HOB
        have HOCH := Lib.hid HOC
        have hpq : wrap64 (ofV m (someL L zs) + ofV m (someL L ls)) = ofV m L := by
          rw [HOF.out]
          have := HOFB.out
          unfold I64 at this
          unfold wrap64
          omega
        clear HOA HOB HOC
        generalize ofV m (someL L zs) = pv at *
        generalize ofV m (someL L ls) = qv at *
        generalize ofV m L = rv at *
        have HPQ := Lib.hid hpq
        clear hpq
        have HEM2 : Hid ((((someL L ls).length : Int) == 0) = decide (sm ≤ cash)) := Lib.hid (by
          by_cases h : sm ≤ cash
          · rw [HEM.out.2 h, decide_eq_true h]; rfl
          · have hne : someL L ls ≠ [] := fun e => h (HEM.out.1 e)
            have : (someL L ls).length ≠ 0 := fun e => hne (List.length_eq_zero_iff.1 e)
            rw [decide_eq_false h, beq_eq_false_iff_ne]
            omega)
        go_wp2_with fail
        refine (HOAH.out _ HG13.out).out.mono ?_
        rintro e w14 ⟨rfl, hb14⟩
        have HB14 : Hid (Below w.heap.size w w14) := Lib.hid (HB13.out.trans (hb14.mono HB13.out.size))
        have HL14 := Lib.hid (HL13.out.up hb14)
        clear hb14 HL13
        go_wp2_with fail
        refine (HOBH.out _ HL14.out).out.mono ?_
        rintro e w15 ⟨rfl, hb15⟩
        have HB15 : Hid (Below w.heap.size w w15) := Lib.hid (HB14.out.trans (hb15.mono HB14.out.size))
        clear hb15 HL14
        go_wp2_with fail
        refine (HOCH.out _ (HSG.out _ HB15.out)).out.mono ?_
        rintro e w16 ⟨rfl, hb16⟩
        have HB16 : Hid (Below w.heap.size w w16) := Lib.hid (HB15.out.trans (hb16.mono HB15.out.size))
        clear hb16
        have hpq2 : wrap64 (pv + qv) = rv := HPQ.out
        have hem2 := HEM2.out
        by_cases hsc : sm ≤ cash
        · have hd1 : decide (sm ≤ cash) = true := decide_eq_true hsc
          rw [hd1] at hem2
          clear hd1
          go_wp2_with fail
          go_ret
          exact ⟨rfl, HB16.out⟩
        · have hd1 : decide (sm ≤ cash) = false := decide_eq_false hsc
          rw [hd1] at hem2
          go_wp2_with fail
          go_ret
          exact ⟨rfl, HB16.out⟩
end Go.Proofs.Ytglpnpjjjihghaa
