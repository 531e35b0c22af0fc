/-
  The walk of CompJoins, over this seat's translation.
-/
import Derived.Test.YtglpnpjjjihghaaJn3
import Derived.Test.YtglpnpjjjihghaaCw9
namespace Go.Proofs.Ytglpnpjjjihghaa
open Go.RowKit

theorem Seg.up2 {w w' : World} {A : Option Addr} {xs : List Value} (h : Seg w w.heap.size A xs) (hb : Below w.heap.size w w') : Seg w' w'.heap.size A xs := (h.below hb).mono hb.size
set_option maxHeartbeats 800000 in
theorem rof_any (L : List Lg) (m : Int) (A : Option Addr) (c : Nat) (w : World) (hs : Seg w w.heap.size A (lgRows L)) (hl : L.length ≤ 100000) :
    Calls Try.prog 35 #[.slice A L.length c, .int .i64 m] w fun e w' => e = .returned (.int .i64 (ofV m L)) ∧ Below w.heap.size w w' := by
  have HS := Lib.hid hs
  clear hs
  go_enter Try.func35, Try.ntmps35
  go_wp2_with fail
  go_loop [5] (fun i => ∃ k : Nat, k ≤ L.length ∧ i = .int .i64 k ∧ Hid (∀ j (hj : j < L.length), j < k → L[j].m ≠ m)) (fun i => L.length - (intOf i).toNat)
  case atStart => exact ⟨0, Nat.zero_le _, rfl, fun j _ h => absurd h (Nat.not_lt_zero _)⟩
  case round =>
    obtain ⟨k, hk, rfl, HN⟩ := hrel
    by_cases hlt : k < L.length
    · obtain ⟨b, o, rfl, hb, d0, d1, d2⟩ := lg_at HS.out hlt
      have hk0 : (0 : Int) ≤ (k : Int) := by omega
      have hkb : (k : Int) < (L.length : Int) := by omega
      by_cases hm : L[k].m = m
      · have HV := Lib.hid (ofV_at hlt HN.out hm)
        have hmb : (L[k].m == m) = true := by rw [hm]; exact beq_self_eq_true m
        go_wp2_with fail
        go_ret
        exact ⟨ret_int HV.out.symm, Below.refl _ _⟩
      · have hmb : (L[k].m == m) = false := by rw [beq_eq_false_iff_ne]; exact hm
        have HN1 : Hid (∀ j (hj : j < L.length), j < k + 1 → L[j].m ≠ m) := Lib.hid fun j hj h => by
          by_cases e : j = k
          · subst e; exact hm
          · exact HN.out j hj (by omega)
        go_wp2_with fail
        go_round
        case rel => exact ⟨k + 1, by omega, by go_num, HN1⟩
        case measure => simp [intOf]; omega
    · obtain rfl : k = L.length := by omega
      have HV := Lib.hid (ofV_none fun j hj => HN.out j hj hj)
      go_wp2_with fail
      go_ret
      exact ⟨ret_int HV.out.symm, Below.refl _ _⟩
set_option maxHeartbeats 3200000 in
set_option maxRecDepth 100000 in
theorem joins_law (X Y : List Lg) (A B : Option Addr) (c d : Nat) (m : Int) (w : World) (hA : LgSrc w A c X) (hB : LgSrc w B d Y) (hlX : X.length ≤ maxLen) (hlY : Y.length ≤ maxLen) (hIX : ∀ y ∈ X, I64 y.m ∧ I64 y.n) (hIY : ∀ y ∈ Y, I64 y.m ∧ I64 y.n) :
    Calls Try.prog 8 #[.slice A X.length c, .slice B Y.length d, .int .i64 m] w fun e w' => e = .returned (.bool true) ∧ Below w.heap.size w w' := by
  unfold maxLen at hlX hlY
  by_cases hX : 30 < X.length
  · have q1 : decide ((30 : Int) < (X.length : Int)) = true := by simp only [decide_eq_true_eq]; omega
    clear hA hB hIX hIY
    go_enter Try.func8, Try.ntmps8
    go_wp2_with fail
    refine (awake27_any _).mono ?_
    rintro e w1 ⟨rfl, hb1⟩
    have HB1 := Lib.hid hb1
    clear hb1
    go_wp2_with fail
    go_ret
    exact ⟨rfl, HB1.out⟩
  have q1 : decide ((30 : Int) < (X.length : Int)) = false := decide_eq_false (by omega)
  by_cases hY : 30 < Y.length
  · have q2 : decide ((30 : Int) < (Y.length : Int)) = true := by simp only [decide_eq_true_eq]; omega
    clear hA hB hIX hIY
    go_enter Try.func8, Try.ntmps8
    go_wp2_with fail
    refine (awake27_any _).mono ?_
    rintro e w1 ⟨rfl, hb1⟩
    have HB1 := Lib.hid hb1
    clear hb1
    go_wp2_with fail
    go_ret
    exact ⟨rfl, HB1.out⟩
  have q2 : decide ((30 : Int) < (Y.length : Int)) = false := decide_eq_false (by omega)
  have HJ1 := Lib.hid (Join_any X Y A B c d w hA hB (by omega) (by omega) hIX hIY)
  have HJ2 : Hid (∀ W, Below w.heap.size w W → Calls Try.prog 32 #[.slice B Y.length d, .slice A X.length c] W (JoinP Y X W)) := Lib.hid fun W hW => Join_any Y X B A d c W (hB.below hW) (hA.below hW) (by omega) (by omega) hIY hIX
  have HR : Hid (∀ (ks : List Int) (W : World), ks.Pairwise (· < ·) → (∀ q, q ∈ ks ↔ ∃ y ∈ X ++ Y, y.m = q) → Below w.heap.size w W → Calls Try.prog 33 #[.slice A X.length c, .slice B Y.length d] W (JoinR X Y ks W)) := Lib.hid fun ks W hu hk hW => rJoin_any X Y ks A B c d W ((hA.below hW).seg) ((hB.below hW).seg) (by omega) (by omega) hIX hIY hu hk
  have HO : Hid (∀ W, Below w.heap.size w W → Calls Try.prog 34 #[.slice A X.length c, .int .i64 m] W fun e w' => e = .returned (.int .i64 (ofV m X)) ∧ Below W.heap.size W w') := Lib.hid fun W hW => cof_any X m A c W ((hA.below hW).seg) (by omega)
  have HRO : Hid (∀ W, Below w.heap.size w W → Calls Try.prog 35 #[.slice A X.length c, .int .i64 m] W fun e w' => e = .returned (.int .i64 (ofV m X)) ∧ Below W.heap.size W w') := Lib.hid fun W hW => rof_any X m A c W ((hA.below hW).seg) (by omega)
  clear hA hB hIX hIY
  generalize ofV m X = ov at *
  by_cases hE : jnE X Y = 0
  · have hE2 := (jnE_swap X Y).1 hE
    have HE := Lib.hid (And.intro hE hE2)
    clear hE hE2
    go_enter Try.func8, Try.ntmps8
    go_wp2_with fail
    refine HJ1.out.mono ?_
    rintro e w1 (⟨hne, _⟩ | ⟨_, ks, hu, hmk, A1, c1, rfl, hs1, hb1⟩)
    · exact absurd HE.out.1 hne
    have HKS := Lib.hid (And.intro hu hmk)
    have hgl : (gatR (amtF (X ++ Y)) ks).length ≤ 1000000 := by
      have h9 : (gatR (amtF (X ++ Y)) ks).length = ks.length := by simp [gatR]
      have := len_sub (ms := mems (X ++ Y)) hu fun q hq => by
        obtain ⟨y, hy, e⟩ := (hmk q).1 hq
        exact List.mem_map.2 ⟨y, hy, e⟩
      rw [mems_len, List.length_append] at this
      omega
    have HGS : Hid (∀ ks' : List Int, ks'.Pairwise (· < ·) → (∀ q, q ∈ ks' ↔ ∃ y ∈ Y ++ X, y.m = q) → gatR (amtF (Y ++ X)) ks' = gatR (amtF (X ++ Y)) ks) := Lib.hid fun ks' hu' hk' => by
      rw [sorted_ext hu' hu fun q => by
        rw [hk', hmk]
        simp only [List.mem_append]
        constructor
        · rintro ⟨y, h | h, e⟩
          · exact ⟨y, .inr h, e⟩
          · exact ⟨y, .inl h, e⟩
        · rintro ⟨y, h | h, e⟩
          · exact ⟨y, .inr h, e⟩
          · exact ⟨y, .inl h, e⟩, jn_swap]
    have HRR : Hid (∀ {W e W'}, JoinR X Y ks W e W' → GotLE (gatR (amtF (X ++ Y)) ks) 0 W e W') := Lib.hid fun h => by
      rcases h with ⟨hne, _⟩ | ⟨_, h⟩
      · exact absurd HE.out.1 hne
      · exact h
    have HS1 := Lib.hid hs1
    have HB1 := Lib.hid hb1
    clear hu hmk hs1 hb1
    generalize gatR (amtF (X ++ Y)) ks = gl at *
    go_wp2_with fail
    refine (HR.out ks w1 HKS.out.1 HKS.out.2 HB1.out).mono ?_
    intro e w2 hr
    obtain ⟨A2, c2, rfl, hs2, hb2⟩ := HRR.out hr
    have HB2 : Hid (Below w.heap.size w w2) := Lib.hid (HB1.out.trans (hb2.mono HB1.out.size))
    have HS2 := Lib.hid hs2
    have HS12 := Lib.hid (HS1.out.up2 hb2)
    clear hr hs2 hb2
    go_wp2_with fail
    refine (lsame_any gl A1 A2 c1 c2 w2 HS12.out HS2.out hgl).mono ?_
    rintro e w3 ⟨rfl, hb3⟩
    have HB3 : Hid (Below w.heap.size w w3) := Lib.hid (HB2.out.trans (hb3.mono HB2.out.size))
    have HS13 := Lib.hid (HS12.out.up2 hb3)
    clear hb3
    go_wp2_with fail
    refine (HO.out _ HB3.out).mono ?_
    rintro e w4 ⟨rfl, hb4⟩
    have HB4 : Hid (Below w.heap.size w w4) := Lib.hid (HB3.out.trans (hb4.mono HB3.out.size))
    have HS14 := Lib.hid (HS13.out.up2 hb4)
    clear hb4
    go_wp2_with fail
    refine (HRO.out _ HB4.out).mono ?_
    rintro e w5 ⟨rfl, hb5⟩
    have HB5 : Hid (Below w.heap.size w w5) := Lib.hid (HB4.out.trans (hb5.mono HB4.out.size))
    have HS15 := Lib.hid (HS14.out.up2 hb5)
    clear hb5
    have hovn : (ov != ov) = false := by simp
    go_wp2_with fail
    refine (HJ2.out _ HB5.out).mono ?_
    rintro e w6 (⟨hne, _⟩ | ⟨_, ks', hu', hk', A6, c6, he6, hs6, hb6⟩)
    · exact absurd HE.out.2 hne
    rw [HGS.out ks' hu' hk'] at he6 hs6
    subst he6
    have HS6 := Lib.hid hs6
    have HB6 : Hid (Below w.heap.size w w6) := Lib.hid (HB5.out.trans (hb6.mono HB5.out.size))
    have HS16 := Lib.hid (HS15.out.up2 hb6)
    clear hu' hk' hs6 hb6
    go_wp2_with fail
    refine (awake27_any _).mono ?_
    rintro e w7 ⟨rfl, hb7⟩
    have HB7 : Hid (Below w.heap.size w w7) := Lib.hid (HB6.out.trans (hb7.mono HB6.out.size))
    have HS17 := Lib.hid (HS16.out.up2 hb7)
    have HS7 := Lib.hid (HS6.out.up2 hb7)
    clear hb7
    go_wp2_with fail
    refine (lsame_any gl A1 A6 c1 c6 w7 HS17.out HS7.out hgl).mono ?_
    rintro e w8 ⟨rfl, hb8⟩
    have HB8 : Hid (Below w.heap.size w w8) := Lib.hid (HB7.out.trans (hb8.mono HB7.out.size))
    clear hb8
    go_wp2_with fail
    go_ret
    exact ⟨rfl, HB8.out⟩
  · have hE2 : ¬ jnE Y X = 0 := fun h => hE ((jnE_swap X Y).2 h)
    obtain ⟨ks, hK⟩ := some_keys (mems (X ++ Y))
    have HKS : Hid (ks.Pairwise (· < ·) ∧ ∀ q, q ∈ ks ↔ ∃ y ∈ X ++ Y, y.m = q) := Lib.hid ⟨hK.up, fun q => by rw [hK.mem]; unfold mems; rw [List.mem_map]⟩
    have HE := Lib.hid (And.intro hE hE2)
    have HP1 : Hid (∀ {W e W'}, JoinP X Y W e W' → GotLE [] (jnE X Y) W e W') := Lib.hid fun h => by
      rcases h with ⟨_, h⟩ | ⟨h0, _⟩
      · exact h
      · exact absurd h0 hE
    have HP2 : Hid (∀ {W e W'}, JoinP Y X W e W' → GotLE [] (jnE Y X) W e W') := Lib.hid fun h => by
      rcases h with ⟨_, h⟩ | ⟨h0, _⟩
      · exact h
      · exact absurd h0 hE2
    have HPR : Hid (∀ {W e W'}, JoinR X Y ks W e W' → GotLE [] (jnE X Y) W e W') := Lib.hid fun h => by
      rcases h with ⟨_, h⟩ | ⟨h0, _⟩
      · exact h
      · exact absurd h0 hE
    have b1 : (jnE X Y != jnE X Y) = false := by simp
    have b2 : (jnE X Y != 0) = true := by simpa [bne] using hE
    have b3 : (jnE Y X != 0) = true := by simpa [bne] using hE2
    clear hK hE hE2
    generalize jnE X Y = e1 at *
    generalize jnE Y X = e2 at *
    go_enter Try.func8, Try.ntmps8
    go_wp2_with fail
    refine HJ1.out.mono ?_
    intro e w1 h1
    obtain ⟨A1, c1, rfl, -, hb1⟩ := HP1.out h1
    have HB1 := Lib.hid hb1
    clear h1 hb1
    go_wp2_with fail
    refine (HR.out ks w1 HKS.out.1 HKS.out.2 HB1.out).mono ?_
    intro e w2 hr
    obtain ⟨A2, c2, rfl, -, hb2⟩ := HPR.out hr
    have HB2 : Hid (Below w.heap.size w w2) := Lib.hid (HB1.out.trans (hb2.mono HB1.out.size))
    clear hr hb2
    go_wp2_with fail
    refine (lsame_any [] A1 A2 c1 c2 w2 Seg.nil Seg.nil (by simp)).mono ?_
    rintro e w3 ⟨rfl, hb3⟩
    have HB3 : Hid (Below w.heap.size w w3) := Lib.hid (HB2.out.trans (hb3.mono HB2.out.size))
    clear hb3
    go_wp2_with fail
    refine (HO.out _ HB3.out).mono ?_
    rintro e w4 ⟨rfl, hb4⟩
    have HB4 : Hid (Below w.heap.size w w4) := Lib.hid (HB3.out.trans (hb4.mono HB3.out.size))
    clear hb4
    go_wp2_with fail
    refine (HRO.out _ HB4.out).mono ?_
    rintro e w5 ⟨rfl, hb5⟩
    have HB5 : Hid (Below w.heap.size w w5) := Lib.hid (HB4.out.trans (hb5.mono HB4.out.size))
    clear hb5
    have hovn : (ov != ov) = false := by simp
    go_wp2_with fail
    refine (HJ2.out _ HB5.out).mono ?_
    intro e w6 h6
    obtain ⟨A6, c6, rfl, -, hb6⟩ := HP2.out h6
    have HB6 : Hid (Below w.heap.size w w6) := Lib.hid (HB5.out.trans (hb6.mono HB5.out.size))
    clear h6 hb6
    go_wp2_with fail
    refine (awake27_any _).mono ?_
    rintro e w7 ⟨rfl, hb7⟩
    have HB7 : Hid (Below w.heap.size w w7) := Lib.hid (HB6.out.trans (hb7.mono HB6.out.size))
    clear hb7
    go_wp2_with fail
    go_ret
    exact ⟨rfl, HB7.out⟩
end Go.Proofs.Ytglpnpjjjihghaa
