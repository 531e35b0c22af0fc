/-
  The walk of AllocSplits, over this seat's translation.
-/
import Derived.Test.YtblplkajgbbkdaaAl4
import Derived.Test.YtblplkajgbbkdaaLaw03a
namespace Go.Proofs.Ytblplkajgbbkdaa
open Go.RowKit Go.Lib

theorem seg_new (w : World) (t : TypeId) (xs : List Value) : Seg (w.alloc (.cells xs.toArray t)) (w.alloc (.cells xs.toArray t)).heap.size (some ⟨w.heap.size, 0, none⟩) xs := fun j u hu =>
  ⟨w.heap.size, 0, rfl, by simp, by rw [cell_new _ _ _ _ rfl, Nat.zero_add]; simpa using hu⟩
def exL26 : List Lg := [⟨1, 1, 4⟩, ⟨3, 1, 4⟩]
theorem ex_sh : shE 5 exL26 = 0 := by decide +kernel
theorem ex_lost : lostL [4, 4] [3, 2] = [1, 2] := by decide +kernel
theorem ex_giv : givL 5 exL26 = [⟨1, 1, 3⟩, ⟨3, 1, 2⟩] := by
  unfold givL
  rw [ex_sh, show amts exL26 = [4, 4] from rfl, al_ex.1]
  rfl
theorem ex_lack : lackL 5 exL26 = [⟨1, 1, 1⟩, ⟨3, 1, 2⟩] := by
  unfold lackL
  rw [ex_sh, show amts exL26 = [4, 4] from rfl, al_ex.1, ex_lost]
  rfl
set_option maxHeartbeats 1600000 in
set_option maxRecDepth 100000 in
theorem awake26_any (w : World) : Calls Try.prog 24 #[] w fun e w' => e = .returned (.bool true) ∧ Below w.heap.size w w' := by
  have HA : Hid (∀ W : World, Calls Try.prog 28 #[.int .i64 5, .slice (some ⟨W.heap.size, 0, none⟩) 2 2] (W.alloc (.cells #[.int .i64 1, .int .i64 1, .int .i64 4, .int .i64 3, .int .i64 1, .int .i64 4] 47)) (Legs2 (W.alloc (.cells #[.int .i64 1, .int .i64 1, .int .i64 4, .int .i64 3, .int .i64 1, .int .i64 4] 47)) [⟨1, 1, 3⟩, ⟨3, 1, 2⟩] [⟨1, 1, 1⟩, ⟨3, 1, 2⟩] 0)) := fun W => by
    have := split_any 5 exL26 (some ⟨W.heap.size, 0, none⟩) 2 (W.alloc (.cells #[.int .i64 1, .int .i64 1, .int .i64 4, .int .i64 3, .int .i64 1, .int .i64 4] 47)) (by unfold I64; omega) (seg_new W _ (lgRows exL26)) (by intro x hx; simp [exL26] at hx; rcases hx with rfl | rfl <;> (unfold I64; simp)) (by simp [exL26])
    rw [ex_giv, ex_lack, ex_sh] at this
    exact this
  have HS : Hid (∀ (L : List Lg) (A B : Option Addr) (c d : Nat) (W : World), L.length = 2 → Seg W W.heap.size A (lgRows L) → Seg W W.heap.size B (lgRows L) → Calls Try.prog 31 #[.slice A 2 c, .slice B 2 d] W fun e w' => e = .returned (.bool true) ∧ Below W.heap.size W w') := fun L A B c d W h h1 h2 => by
    have := lsame_any L A B c d W h1 h2 (by omega)
    rw [h] at this
    exact this
  go_enter Try.func24, Try.ntmps24
  go_wp2_with fail
  refine (HA.out _).mono ?_
  rintro e w1 ⟨A1, c1, A2, c2, rfl, hs1, hs2, hb1⟩
  have HS1 := Lib.hid hs1
  have HS2 := Lib.hid hs2
  have HB1 : Hid (Below w.heap.size w w1) := ((Below.refl _ _).alloc (Nat.le_refl _) _).trans (hb1.mono (by simp))
  clear hs1 hs2 hb1
  simp only [List.length_cons, List.length_nil, Nat.zero_add, Nat.reduceAdd]
  go_wp2_with fail
  have b2 : Below w1.heap.size w1 (w1.alloc (.cells #[.int .i64 1, .int .i64 1, .int .i64 3, .int .i64 3, .int .i64 1, .int .i64 2] 47)) := (Below.refl _ _).alloc (Nat.le_refl _) _
  have HB2 : Hid (Below w.heap.size w (w1.alloc (.cells #[.int .i64 1, .int .i64 1, .int .i64 3, .int .i64 3, .int .i64 1, .int .i64 2] 47))) := HB1.out.trans (b2.mono HB1.out.size)
  have HS2' : Hid (Seg _ _ A2 _) := (HS2.out.below b2).mono b2.size
  refine (HS.out [⟨1, 1, 3⟩, ⟨3, 1, 2⟩] A1 _ c1 2 _ rfl ((HS1.out.below b2).mono b2.size) (seg_new w1 _ (lgRows [⟨1, 1, 3⟩, ⟨3, 1, 2⟩]))).mono ?_
  rintro e w2 ⟨rfl, hb2⟩
  have HS3 : Hid (Seg w2 w2.heap.size A2 (lgRows [⟨1, 1, 1⟩, ⟨3, 1, 2⟩])) := (HS2'.out.below hb2).mono hb2.size
  have HB3 : Hid (Below w.heap.size w w2) := HB2.out.trans (hb2.mono HB2.out.size)
  clear b2 hb2 HB2 HS2'
  go_wp2_with fail
  have b4 : Below w2.heap.size w2 (w2.alloc (.cells #[.int .i64 1, .int .i64 1, .int .i64 1, .int .i64 3, .int .i64 1, .int .i64 2] 47)) := (Below.refl _ _).alloc (Nat.le_refl _) _
  have HB4 : Hid (Below w.heap.size w (w2.alloc (.cells #[.int .i64 1, .int .i64 1, .int .i64 1, .int .i64 3, .int .i64 1, .int .i64 2] 47))) := HB3.out.trans (b4.mono HB3.out.size)
  refine (HS.out [⟨1, 1, 1⟩, ⟨3, 1, 2⟩] A2 _ c2 2 _ rfl ((HS3.out.below b4).mono b4.size) (seg_new w2 _ (lgRows [⟨1, 1, 1⟩, ⟨3, 1, 2⟩]))).mono ?_
  rintro e w5 ⟨rfl, hb5⟩
  have HB5 : Hid (Below w.heap.size w w5) := HB4.out.trans (hb5.mono HB4.out.size)
  clear b4 hb5
  go_wp2_with fail
  go_ret
  exact ⟨rfl, HB5.out⟩

theorem clm_pos {L : List Lg} (h : clmE L = 0) : 0 ≤ sumI (amts L) := by
  obtain ⟨_, b, _⟩ := clmE_ok h
  refine sum_nonneg fun x hx => ?_
  obtain ⟨i, hi, rfl⟩ := List.mem_iff_getElem.1 hx
  have hi' : i < L.length := by rw [amts_len] at hi; exact hi
  have := b i hi'
  rw [badAt_at hi'] at this
  simp only [Bool.or_eq_false_iff, decide_eq_false_iff_not] at this
  have e : (amts L)[i] = L[i].n := List.getElem_map _
  rw [e]
  omega
theorem amts_at {L : List Lg} {k : Nat} (hk : k < L.length) (h : k < (amts L).length) : (amts L)[k] = L[k].n := List.getElem_map _
theorem amts_take {L : List Lg} (k : Nat) : (amts L).take k = amts (L.take k) := by unfold amts; rw [List.map_take]
set_option maxHeartbeats 6400000 in
set_option maxRecDepth 1000000 in
theorem splits_law (avail : Int) (L : List Lg) (A : Option Addr) (c : Nat) (w : World) (hA : I64 avail) (hs : Seg w w.heap.size A (lgRows L)) (hI : ∀ x ∈ L, I64 x.n) (hn : L.length ≤ maxLen) :
    Calls Try.prog 8 #[.int .i64 avail, .slice A L.length c] w fun e w' => e = .returned (.bool true) ∧ Below w.heap.size w w' := by
  unfold maxLen at hn
  by_cases hbig : 60 < L.length
  · have q1 : decide ((60 : Int) < (L.length : Int)) = true := by simp only [decide_eq_true_eq]; omega
    clear hI hs
    go_enter Try.func8, Try.ntmps8
    go_wp2_with fail
    refine (awake26_any _).mono ?_
    rintro e w1 ⟨rfl, hb1⟩
    have HB1 := Lib.hid hb1
    clear hb1
    go_wp2_with fail
    go_ret
    exact ⟨rfl, HB1.out⟩
  have hl : L.length ≤ 60 := by omega
  have hle' : ¬ (60 : Int) < (L.length : Int) := by omega
  have HS := Lib.hid hs
  have HI := Lib.hid hI
  have HA := Lib.hid hA
  have HSG : Hid (∀ W, Below w.heap.size w W → Seg W W.heap.size A (lgRows L)) := fun W hW => (hs.below hW).mono hW.size
  have HC1 : Hid (∀ W, Below w.heap.size w W → Calls Try.prog 25 #[.slice A L.length c] W fun e w' => e = .returned (.tuple #[.int .i64 (sumV L), .int .i64 (clmE L)]) ∧ Below W.heap.size W w') := fun W hW => rsum26_any L A c W (HSG.out W hW) hI (by omega)
  have HC2 : Hid (∀ W, Below w.heap.size w W → Calls Try.prog 26 #[.slice A L.length c] W fun e w' => e = .returned (.tuple #[.int .i64 (sumV L), .int .i64 (clmE L)]) ∧ Below W.heap.size W w') := fun W hW => asum_any L A c W (HSG.out W hW) hI (by omega)
  have HC3 : Hid (∀ W, Below w.heap.size w W → Calls Try.prog 27 #[.slice A L.length c] W fun e w' => e = .returned (.int .i64 (clmE L)) ∧ Below W.heap.size W w') := fun W hW => clm_any L A c W (HSG.out W hW) hI (by omega)
  have HC4 : Hid (∀ W, Below w.heap.size w W → Calls Try.prog 28 #[.int .i64 avail, .slice A L.length c] W (Legs2 W (givL avail L) (lackL avail L) (shE avail L))) := fun W hW => split_any avail L A c W hA (HSG.out W hW) hI (by omega)
  have HC5 : Hid (∀ W, Below w.heap.size w W → Calls Try.prog 29 #[.int .i64 avail, .slice A L.length c] W fun e w' => e = .returned (.tuple #[.int .i64 (shV avail L), .int .i64 (shE avail L)]) ∧ Below W.heap.size W w') := fun W hW => short_any avail L A c W hA (HSG.out W hW) hI (by omega)
  have HGD := Lib.hid (show givL avail L = if shE avail L = 0 then someL L (alL avail (amts L)) else [] from rfl)
  have HLD := Lib.hid (show lackL avail L = if shE avail L = 0 then someL L (lostL (amts L) (alL avail (amts L))) else [] from rfl)
  have HSD := Lib.hid (show shE avail L = if clmE L ≠ 0 then clmE L else if avail < 0 then 1 else 0 from rfl)
  have HVD := Lib.hid (show shV avail L = if shE avail L = 0 then ovV (sumI (amts L)) avail else 0 from rfl)
  have HSV := Lib.hid (show sumV L = if clmE L = 0 then sumI (amts L) else 0 from rfl)
  clear hI hA hs
  have hb1 : (sumV L != sumV L) = false := by simp
  have hb2 : (clmE L != clmE L) = false := by simp
  by_cases h0 : ¬ clmE L = 0
  · have hE : shE avail L = clmE L := by rw [HSD.out, if_pos h0]
    have hg : givL avail L = [] := by rw [HGD.out, if_neg (by rw [hE]; exact h0)]
    have hk : lackL avail L = [] := by rw [HLD.out, if_neg (by rw [hE]; exact h0)]
    have hv : shV avail L = 0 := by rw [HVD.out, if_neg (by rw [hE]; exact h0)]
    have h0b : (clmE L != 0) = true := by simpa [bne] using h0
    have h0c : (clmE L == 0) = false := by simpa using h0
    have h0d : (clmE L == clmE L) = true := by simp
    rw [hE, hg, hk] at HC4
    rw [hE, hv] at HC5
    clear hE hg hk hv h0 HGD HLD HSD HVD HSV
    generalize clmE L = E at *
    generalize sumV L = SV at *
    go_enter Try.func8, Try.ntmps8
    go_wp2_with fail
    refine (HC1.out _ (Below.refl _ _)).mono ?_
    rintro e w1 ⟨rfl, hb1_⟩
    have HB1 := Lib.hid hb1_
    clear hb1_ HC1
    go_wp2_with fail
    refine (HC2.out _ HB1.out).mono ?_
    rintro e w2 ⟨rfl, hb2_⟩
    have HB2 : Hid (Below w.heap.size w w2) := HB1.out.trans (hb2_.mono HB1.out.size)
    clear hb2_ HC2 HB1
    go_wp2_with fail
    refine (HC3.out _ HB2.out).mono ?_
    rintro e w3 ⟨rfl, hb3_⟩
    have HB3 : Hid (Below w.heap.size w w3) := HB2.out.trans (hb3_.mono HB2.out.size)
    clear hb3_ HC3 HB2
    go_wp2_with fail
    refine (HC4.out _ HB3.out).mono ?_
    rintro e w4 ⟨A4, c4, B4, d4, rfl, hg4, hl4, hb4_⟩
    have HB4 : Hid (Below w.heap.size w w4) := HB3.out.trans (hb4_.mono HB3.out.size)
    have HG4 := Lib.hid hg4
    have HL4 := Lib.hid hl4
    clear hb4_ hg4 hl4 HC4 HB3
    go_wp2_with fail
    refine (HC5.out _ HB4.out).mono ?_
    rintro e w5 ⟨rfl, hb5_⟩
    have HB5 : Hid (Below w.heap.size w w5) := HB4.out.trans (hb5_.mono HB4.out.size)
    have HG5 : Hid (Seg w5 w5.heap.size A4 _) := (HG4.out.below hb5_).mono hb5_.size
    have HL5 : Hid (Seg w5 w5.heap.size B4 _) := (HL4.out.below hb5_).mono hb5_.size
    clear hb5_ HC5 HB4 HG4 HL4
    go_wp2_with fail
    refine (awake26_any _).mono ?_
    rintro e w6 ⟨rfl, hb6⟩
    have HB6 : Hid (Below w.heap.size w w6) := HB5.out.trans (hb6.mono HB5.out.size)
    clear hb6
    go_wp2_with fail
    go_ret
    exact ⟨rfl, HB6.out⟩
  have h0 := Decidable.not_not.1 h0
  have hsv : sumV L = sumI (amts L) := by rw [HSV.out, if_pos h0]
  by_cases ha : avail < 0
  · have hE : shE avail L = 1 := by rw [HSD.out, if_neg (by omega), if_pos ha]
    have hg : givL avail L = [] := by rw [HGD.out, if_neg (by rw [hE]; decide)]
    have hk : lackL avail L = [] := by rw [HLD.out, if_neg (by rw [hE]; decide)]
    have hv : shV avail L = 0 := by rw [HVD.out, if_neg (by rw [hE]; decide)]
    have hab : decide (avail < 0) = true := decide_eq_true ha
    rw [hE, hg, hk] at HC4
    rw [hE, hv] at HC5
    rw [h0] at HC1 HC2 HC3
    clear hE hg hk hv h0 HGD HLD HSD HVD HSV hsv hb2
    generalize sumV L = SV at *
    go_enter Try.func8, Try.ntmps8
    go_wp2_with fail
    refine (HC1.out _ (Below.refl _ _)).mono ?_
    rintro e w1 ⟨rfl, hb1_⟩
    have HB1 := Lib.hid hb1_
    clear hb1_ HC1
    go_wp2_with fail
    refine (HC2.out _ HB1.out).mono ?_
    rintro e w2 ⟨rfl, hb2_⟩
    have HB2 : Hid (Below w.heap.size w w2) := HB1.out.trans (hb2_.mono HB1.out.size)
    clear hb2_ HC2 HB1
    go_wp2_with fail
    refine (HC3.out _ HB2.out).mono ?_
    rintro e w3 ⟨rfl, hb3_⟩
    have HB3 : Hid (Below w.heap.size w w3) := HB2.out.trans (hb3_.mono HB2.out.size)
    clear hb3_ HC3 HB2
    go_wp2_with fail
    refine (HC4.out _ HB3.out).mono ?_
    rintro e w4 ⟨A4, c4, B4, d4, rfl, hg4, hl4, hb4_⟩
    have HB4 : Hid (Below w.heap.size w w4) := HB3.out.trans (hb4_.mono HB3.out.size)
    have HG4 := Lib.hid hg4
    have HL4 := Lib.hid hl4
    clear hb4_ hg4 hl4 HC4 HB3
    go_wp2_with fail
    refine (HC5.out _ HB4.out).mono ?_
    rintro e w5 ⟨rfl, hb5_⟩
    have HB5 : Hid (Below w.heap.size w w5) := HB4.out.trans (hb5_.mono HB4.out.size)
    have HG5 : Hid (Seg w5 w5.heap.size A4 _) := (HG4.out.below hb5_).mono hb5_.size
    have HL5 : Hid (Seg w5 w5.heap.size B4 _) := (HL4.out.below hb5_).mono hb5_.size
    clear hb5_ HC5 HB4 HG4 HL4
    go_wp2_with fail
    refine (awake26_any _).mono ?_
    rintro e w6 ⟨rfl, hb6⟩
    have HB6 : Hid (Below w.heap.size w w6) := HB5.out.trans (hb6.mono HB5.out.size)
    clear hb6
    go_wp2_with fail
    go_ret
    exact ⟨rfl, HB6.out⟩
  have hE : shE avail L = 0 := by rw [HSD.out, if_neg (by omega), if_neg ha]
  have hCK := (clm_chk hE).1
  have hG := given_of hCK
  have HGLEN : Hid ((alL avail (amts L)).length = L.length) := by show _ = _; rw [hG.len, amts_len]
  have HLZ : Hid (lostL (amts L) (alL avail (amts L)) = List.zipWith (· - ·) (amts L) (alL avail (amts L))) := by show _ = _; unfold lostL; rw [if_pos (given_fit hCK)]
  have HGBD : Hid (∀ k (h : k < (alL avail (amts L)).length) (h' : k < L.length), 0 ≤ (alL avail (amts L))[k] ∧ (alL avail (amts L))[k] ≤ L[k].n) := fun k h h' => by
    have := hG.bd k h (by rw [amts_len]; exact h')
    rw [amts_at h'] at this
    exact this
  have hg : givL avail L = someL L (alL avail (amts L)) := by rw [HGD.out, if_pos hE]
  have hk : lackL avail L = someL L (lostL (amts L) (alL avail (amts L))) := by rw [HLD.out, if_pos hE]
  have hv : shV avail L = ovV (sumI (amts L)) avail := by rw [HVD.out, if_pos hE]
  have hab : decide (avail < 0) = false := decide_eq_false ha
  have hSS := (clmE_ok h0).2.2
  have hS0 := clm_pos h0
  have hov := ov_pos hS0 (show 0 ≤ avail by omega) hSS
  have HC6 : Hid (∀ W, Below w.heap.size w W → Calls Try.prog 30 #[.int .i64 avail, .slice A L.length c] W (CloneP (alL avail (amts L)) W)) := fun W hW => given26_any avail L A c W HA.out (HSG.out W hW) HI.out (by omega)
  have HAMI : Hid (∀ x ∈ L, I64 x.n) := HI.out
  rw [hE, hg, hk] at HC4
  rw [hE, hv] at HC5
  rw [h0, hsv] at HC1 HC2
  rw [h0] at HC3
  rw [hsv] at hb1
  have HTL : Hid (∀ k, (amts L).take k = amts (L.take k)) := fun k => amts_take k
  have HALE := Lib.hid (amts_len L)
  clear hE hg hk hv h0 HGD HLD HSD HVD HSV hsv hb2 hCK hG
  generalize sumI (amts L) = S at *
  generalize hzs : alL avail (amts L) = zs at *
  generalize lostL (amts L) zs = ls at *
  unfold I64 at hSS
  have HOV := Lib.hid hov
  have hv1 : (ovV S avail == max (S - min avail S) 0) = true := by rw [beq_iff_eq, HOV.out]; omega
  have hv2 : IntKind.i64.wrap (S - min avail S) = S - min avail S := IntWalk.i64_in _ (by omega)
  clear hov HOV hzs
  generalize ovV S avail = OV at *
  have hzl : zs.length ≤ L.length := by have := HGLEN.out; omega
  have hzl2 : L.length ≤ zs.length := by have := HGLEN.out; omega
  go_enter Try.func8, Try.ntmps8
  go_wp2_with fail
  refine (HC1.out _ (Below.refl _ _)).mono ?_
  rintro e w1 ⟨rfl, hb1_⟩
  have HB1 := Lib.hid hb1_
  clear hb1_ HC1
  go_wp2_with fail
  refine (HC2.out _ HB1.out).mono ?_
  rintro e w2 ⟨rfl, hb2_⟩
  have HB2 : Hid (Below w.heap.size w w2) := HB1.out.trans (hb2_.mono HB1.out.size)
  clear hb2_ HC2 HB1
  go_wp2_with fail
  refine (HC3.out _ HB2.out).mono ?_
  rintro e w3 ⟨rfl, hb3_⟩
  have HB3 : Hid (Below w.heap.size w w3) := HB2.out.trans (hb3_.mono HB2.out.size)
  clear hb3_ HC3 HB2
  go_wp2_with fail
  refine (HC4.out _ HB3.out).mono ?_
  rintro e w4 ⟨A4, c4, B4, d4, rfl, hg4, hl4, hb4_⟩
  have HB4 : Hid (Below w.heap.size w w4) := HB3.out.trans (hb4_.mono HB3.out.size)
  have HG4 := Lib.hid hg4
  have HL4 := Lib.hid hl4
  clear hb4_ hg4 hl4 HC4 HB3
  go_wp2_with fail
  refine (HC5.out _ HB4.out).mono ?_
  rintro e w5 ⟨rfl, hb5_⟩
  have HB5 : Hid (Below w.heap.size w w5) := HB4.out.trans (hb5_.mono HB4.out.size)
  have HG5 : Hid (Seg w5 w5.heap.size A4 _) := (HG4.out.below hb5_).mono hb5_.size
  have HL5 : Hid (Seg w5 w5.heap.size B4 _) := (HL4.out.below hb5_).mono hb5_.size
  clear hb5_ HC5 HB4 HG4 HL4
  clear hb1
  go_wp2_with fail
  refine (HC6.out _ HB5.out).mono ?_
  rintro e w6 ⟨A6, c6, rfl, hs6, hb6⟩
  have HB6 : Hid (Below w.heap.size w w6) := HB5.out.trans (hb6.mono HB5.out.size)
  have HS6 := Lib.hid hs6
  have HG6 : Hid (Seg w6 w6.heap.size A4 (lgRows (someL L zs))) := (HG5.out.below hb6).mono hb6.size
  have HL6 : Hid (Seg w6 w6.heap.size B4 (lgRows (someL L ls))) := (HL5.out.below hb6).mono hb6.size
  have sz6 := HB6.out.size
  clear hs6 hb6 HG5 HL5
  obtain ⟨i0, hi0, hz0, hz1, hz2⟩ := info_parts i64_info
  go_wp2_with fail
  go_loopw [15, 16] (fun u i wr => ∃ k : Nat, k ≤ L.length ∧ i = .int .i64 k ∧ Hid (wr.ownsRow w6.heap.size 2 1 u (List.zipWith (· - ·) (amts (L.take k)) (zs.take k)).length ((List.zipWith (· - ·) (amts (L.take k)) (zs.take k)).map (Value.int .i64))) ∧ Hid (Below w6.heap.size w6 wr)) (fun _ i _ => L.length - (intOf i).toNat)
  case atStart => exact ⟨0, Nat.zero_le _, rfl, ⟨by simp [amts], Or.inl ⟨rfl, rfl⟩⟩, Below.refl _ _⟩
  case round =>
    obtain ⟨k, hk, rfl, HO, HB⟩ := hrel
    have hsz := HB.out.size
    have HWB : Hid (Below w.heap.size w wr) := HB6.out.trans (HB.out.mono sz6)
    by_cases hlt : k < L.length
    · have hlz : k < zs.length := by omega
      obtain ⟨b, o, rfl, hb, -, -, -⟩ := lg_at (HS.out.below HWB.out) hlt
      obtain ⟨b1, o1, rfl, hb1, -⟩ := (HS6.out.below HB.out).at (k := k) (by simpa using hlz)
      have hbd := HGBD.out k hlz hlt
      have hni := HAMI.out _ (List.getElem_mem hlt)
      unfold I64 at hni
      have HF : Hid (List.zipWith (· - ·) (amts (L.take (k + 1))) (zs.take (k + 1)) = List.zipWith (· - ·) (amts (L.take k)) (zs.take k) ++ [L[k].n - zs[k]]) := by
        have := zip_snoc (cs := amts L) (ps := zs) (k := k) (by rw [HALE.out]; exact hlt) hlz
        rw [amts_at hlt, HTL.out, HTL.out] at this
        exact this
      have hyl : (List.zipWith (· - ·) (amts (L.take k)) (zs.take k)).length ≤ k := by rw [List.length_zipWith, List.length_take]; omega
      have HKP : Hid (∀ W, Below w6.heap.size w6 W → W.cell? ⟨b, o + k * 3 + 2, none⟩ = some (.int .i64 L[k].n) ∧ W.cell? ⟨b1, o1 + k, none⟩ = some (.int .i64 zs[k])) := fun W hW => by
        obtain ⟨d0, d1, d2⟩ := lg_cells (HS.out.below (HB6.out.trans (hW.mono sz6))) hlt
        obtain ⟨b9, o9, e9, _, hc9⟩ := (HS6.out.below hW).at (k := k) (by simpa using hlz)
        injection e9 with e9
        injection e9 with e91 e92
        subst e91 e92
        rw [List.getElem_map] at hc9
        exact ⟨d2, hc9⟩
      obtain ⟨q0, q1⟩ := HKP.out _ HB.out
      have hk0 : (0 : Int) ≤ (k : Int) := by omega
      have hkb : (k : Int) < (L.length : Int) := by omega
      have hkx : (k : Int) < (zs.length : Int) := by omega
      have x1 : IntKind.i64.wrap (L[k].n - zs[k]) = L[k].n - zs[k] := IntWalk.i64_in _ (by omega)
      generalize List.zipWith (· - ·) (amts (L.take k)) (zs.take k) = ys at *
      go_wp2_with fail
      go_region_held3 (fun w' => w'.cell? ⟨b, o + k * 3 + 2, none⟩ = some (.int .i64 L[k].n) ∧ w'.cell? ⟨b1, o1 + k, none⟩ = some (.int .i64 zs[k])) (first | (with_reducible exact HKP.out _ HB.out.drew) | (with_reducible exact HKP.out _ (HB.out.drew.alloc hsz _)) | exact HKP.out _ (HB.out.alloc hsz _).drew | (with_reducible exact HKP.out _ HG4.out)) ((refine step_append_lies _ rfl _ _ 22 rfl w6.heap.size 2 i0 _ 1 8 Try.underlying22 hi0 hz0 hz1 hz2 rfl (by decide) _ ys.length (ys.map (Value.int .i64)) rfl (HO.out.alloc _) ⟨wr.heap.size, 0, none⟩ 1 1 [.int .i64 (L[k].n - zs[k])] rfl rfl (new_cells _ _ #[_] (by simp)) one_int (by decide) (by simp only [maxLen]; omega) (by omega) (by simp; omega) _ rfl ?_; intro g cap w4 hown1 hgrow1 _ _; have HO4 := Lib.hid hown1; have HG4 : Hid (Below w6.heap.size w6 w4) := (HB.out.alloc hsz _).drew.grown hgrow1 (by show w6.heap.size ≤ (wr.alloc _).heap.size; simp; omega) (fun j hj => own_base HO.out j hj); clear hown1 hgrow1))
      have HO5 : Hid (w4.ownsRow w6.heap.size 2 1 (.slice (some ⟨g, 0, none⟩) (ys.length + 1) cap) (List.zipWith (· - ·) (amts (L.take (k + 1))) (zs.take (k + 1))).length ((List.zipWith (· - ·) (amts (L.take (k + 1))) (zs.take (k + 1))).map (Value.int .i64))) := by
        show World.ownsRow _ _ _ _ _ _ _
        rw [HF.out, List.map_append, List.length_append, List.length_singleton]
        exact HO4.out
      clear x1
      go_wp2_with fail
      go_roundw
      case rel => exact ⟨k + 1, by omega, by go_num, HO5, HG4⟩
      case measure => simp [intOf]; omega
    · obtain rfl : k = L.length := by omega
      have hO := HO.out
      rw [List.take_length, List.take_of_length_le hzl, ← HLZ.out] at hO
      obtain ⟨A7, c7, rfl⟩ := own_form hO
      have HSL := Lib.hid (Seg.of_own hO)
      have hll : ls.length = L.length := by rw [HLZ.out, List.length_zipWith, HALE.out]; omega
      have HLL := Lib.hid hll
      clear hO hll HO
      have HSM : Hid (∀ (xs : List Int) (A' : Option Addr) (c' : Nat) (W : World), Below w.heap.size w W → xs.length = L.length → Seg W W.heap.size A' (xs.map (Value.int .i64)) → Calls Try.prog 32 #[.slice A L.length c, .slice A' xs.length c'] W (LegP (someL L xs) W)) := fun xs A' c' W hW h1 h2 => some26_any L xs A A' c c' W (HSG.out W hW) h2 (by omega) h1
      have HG7 : Hid (Seg wr wr.heap.size A4 (lgRows (someL L zs))) := (HG6.out.below HB.out).mono hsz
      have HL7 : Hid (Seg wr wr.heap.size B4 (lgRows (someL L ls))) := (HL6.out.below HB.out).mono hsz
      have HS7 : Hid (Seg wr wr.heap.size A6 (zs.map (Value.int .i64))) := (HS6.out.below HB.out).mono hsz
      have hsl1 : (someL L zs).length ≤ 1000000 := by have := someL_le L zs; omega
      have hsl2 : (someL L ls).length ≤ 1000000 := by have := someL_le L ls; omega
      have wsz := HWB.out.size
      clear HG6 HL6 HS6
      go_wp2_with fail
      refine (awake26_any _).mono ?_
      rintro e w8 ⟨rfl, hb8⟩
      have HB8 : Hid (Below w.heap.size w w8) := HWB.out.trans (hb8.mono wsz)
      have HG8 : Hid (Seg w8 w8.heap.size A4 (lgRows (someL L zs))) := (HG7.out.below hb8).mono hb8.size
      have HL8 : Hid (Seg w8 w8.heap.size B4 (lgRows (someL L ls))) := (HL7.out.below hb8).mono hb8.size
      have HS8 : Hid (Seg w8 w8.heap.size A6 (zs.map (Value.int .i64))) := (HS7.out.below hb8).mono hb8.size
      have HT8 : Hid (Seg w8 w8.heap.size A7 (ls.map (Value.int .i64))) := (HSL.out.below hb8).mono hb8.size
      clear hb8 HG7 HL7 HS7 HSL
      go_wp2_with fail
      refine (HSM.out zs A6 c6 _ HB8.out HGLEN.out HS8.out).mono ?_
      rintro e w9 ⟨A9, c9, rfl, hs9, hb9⟩
      have HB9 : Hid (Below w.heap.size w w9) := HB8.out.trans (hb9.mono HB8.out.size)
      have HM9 := Lib.hid hs9
      have HG9 : Hid (Seg w9 w9.heap.size A4 (lgRows (someL L zs))) := (HG8.out.below hb9).mono hb9.size
      have HL9 : Hid (Seg w9 w9.heap.size B4 (lgRows (someL L ls))) := (HL8.out.below hb9).mono hb9.size
      have HT9 : Hid (Seg w9 w9.heap.size A7 (ls.map (Value.int .i64))) := (HT8.out.below hb9).mono hb9.size
      clear hb9 hs9 HG8 HL8 HT8 HS8
      go_wp2_with fail
      refine (lsame_any (someL L zs) A4 A9 _ _ _ HG9.out HM9.out hsl1).mono ?_
      rintro e w10 ⟨rfl, hb10⟩
      have HB10 : Hid (Below w.heap.size w w10) := HB9.out.trans (hb10.mono HB9.out.size)
      have HL10 : Hid (Seg w10 w10.heap.size B4 (lgRows (someL L ls))) := (HL9.out.below hb10).mono hb10.size
      have HT10 : Hid (Seg w10 w10.heap.size A7 (ls.map (Value.int .i64))) := (HT9.out.below hb10).mono hb10.size
      clear hb10 HL9 HT9 HG9 HM9
      go_wp2_with fail
      refine (HSM.out ls A7 c7 _ HB10.out HLL.out HT10.out).mono ?_
      rintro e w11 ⟨A11, c11, rfl, hs11, hb11⟩
      have HB11 : Hid (Below w.heap.size w w11) := HB10.out.trans (hb11.mono HB10.out.size)
      have HM11 := Lib.hid hs11
      have HL11 : Hid (Seg w11 w11.heap.size B4 (lgRows (someL L ls))) := (HL10.out.below hb11).mono hb11.size
      clear hb11 hs11 HL10 HT10
      go_wp2_with fail
      refine (lsame_any (someL L ls) B4 A11 _ _ _ HL11.out HM11.out hsl2).mono ?_
      rintro e w12 ⟨rfl, hb12⟩
      have HB12 : Hid (Below w.heap.size w w12) := HB11.out.trans (hb12.mono HB11.out.size)
      clear hb12
      go_wp2_with fail
      go_ret
      exact ⟨rfl, HB12.out⟩
end Go.Proofs.Ytblplkajgbbkdaa
