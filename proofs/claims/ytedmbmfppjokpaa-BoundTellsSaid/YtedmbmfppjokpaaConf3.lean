/-
  What package conf's cycles and the closures of checks come to, over this seat's translation.
-/
import Derived.Test.YtedmbmfppjokpaaConf2
namespace Go.Proofs.Ytedmbmfppjokpaa
open Go.RowKit

/-- Rising from a number on. -/
def risesB : Int → List Int → Bool
  | _, [] => true
  | p, t :: r => decide (p < t) && risesB t r
def lastI : Int → List Int → Int
  | p, [] => p
  | _, t :: r => lastI t r
theorem rises_snoc (t : Int) : ∀ (l : List Int) (p : Int), risesB p (l ++ [t]) = (risesB p l && decide (lastI p l < t))
  | [], p => by show (decide (p < t) && true) = (true && decide (p < t)); rw [Bool.and_true, Bool.true_and]
  | a :: l, p => by rw [List.cons_append]; unfold risesB lastI; rw [rises_snoc t l a, Bool.and_assoc]
theorem last_snoc (t : Int) : ∀ (l : List Int) (p : Int), lastI p (l ++ [t]) = t
  | [], _ => rfl
  | a :: l, _ => by rw [List.cons_append]; unfold lastI; exact last_snoc t l a
theorem rises_pre : ∀ (l r : List Int) (p : Int), risesB p l = false → risesB p (l ++ r) = false
  | [], _, _, h => by simp [risesB] at h
  | a :: l, r, p, h => by
    rw [List.cons_append]
    unfold risesB at *
    rcases Bool.and_eq_false_iff.1 h with h1 | h1
    · rw [h1]; rfl
    · rw [rises_pre l r a h1, Bool.and_false]
def cyclesB (l : List Cy) : Bool := risesB 0 (ticksL l) && (inB l.length 1 4 && decide (lastI 0 (ticksL l) ≤ 1000))
set_option maxRecDepth 100000 in
set_option maxHeartbeats 800000 in
theorem cycles_any (x : Cfg) (w : World) (h : CfOk w x) (hl : x.cy.length ≤ 100000) :
    Calls Try.prog 34 #[x.val] w fun e w' => e = .returned (.bool (cyclesB x.cy)) ∧ Below w.heap.size w w' := by
  have HT := Lib.hid (ticks_any x _ (h.below (box_below w x)) hl)
  have HB0 := Lib.hid (box_below w x)
  have HX := Lib.hid (cf_new w x)
  have HA := Lib.hid (show cyclesB x.cy = (risesB 0 (ticksL x.cy) && (inB x.cy.length 1 4 && decide (lastI 0 (ticksL x.cy) ≤ 1000))) from rfl)
  have htl : (ticksL x.cy).length ≤ 400000 := by rw [ticks_len]; omega
  have hb0 := (box_below w x).size
  obtain ⟨c0, c1, c2, c3, c4, c5, c6, c7, clt⟩ := HX.out
  unfold Cfg.val at *
  clear h
  generalize hcv : cyclesB x.cy = cv at *
  clear hcv
  go_enter Try.func34, Try.ntmps34
  go_wp2_with fail
  generalize w.alloc (.cells #[.slice x.Am x.ms.length x.cm, .slice x.As x.ss.length x.cs, .slice x.Ac x.cy.length x.cc, .int .i64 x.line, .int .i64 x.capi, .int .i64 x.lead, .int .i64 x.tr, .int .i64 x.bids] 26) = W0 at *
  refine HT.out.mono ?_
  rintro e w1 ⟨A1, k1, rfl, hs1, hb1⟩
  generalize ticksL x.cy = zs at *
  have HS1 := Lib.hid hs1
  have HB1 := Lib.hid hb1
  have HX1 := Lib.hid (HX.out.below hb1)
  have d2 := (HX.out.below hb1).c2
  clear hs1 hb1 c0 c1 c2 c3 c4 c5 c6 c7
  go_wp2_with fail
  go_loop [3, 5, 9] (fun p _ i => ∃ k : Nat, k ≤ zs.length ∧ i = .int .i64 k ∧ p = .int .i64 (lastI 0 (zs.take k)) ∧ Hid (risesB 0 (zs.take k) = true)) (fun _ _ i => zs.length - (intOf i).toNat)
  case atStart => exact ⟨0, Nat.zero_le _, rfl, rfl, rfl⟩
  case round =>
    obtain ⟨k, hk, rfl, rfl, HK⟩ := hrel
    by_cases hlt : k < zs.length
    · obtain ⟨b, o, rfl, hb, e0⟩ := int_at HS1.out hlt
      have HR := Lib.hid (rises_snoc zs[k] (zs.take k) 0)
      have HL := Lib.hid (last_snoc zs[k] (zs.take k) 0)
      have HTK := Lib.hid (List.take_succ_eq_append_getElem hlt)
      by_cases hp : zs[k] ≤ lastI 0 (zs.take k)
      · have HF : Hid (false = cv) := by
          show _ = _
          have h1 : risesB 0 (zs.take (k + 1)) = false := by rw [HTK.out, HR.out, decide_eq_false (by omega), Bool.and_false]
          have h2 : risesB 0 zs = false := by
            have := rises_pre (zs.take (k + 1)) (zs.drop (k + 1)) 0 h1
            rw [List.take_append_drop] at this
            exact this
          rw [HA.out, h2]
          rfl
        go_wp2_with fail
        go_ret
        exact ⟨ret_bool HF.out, HB0.out.trans (HB1.out.mono hb0)⟩
      · have HX2 : Hid (risesB 0 (zs.take (k + 1)) = true) := by show _ = _; rw [HTK.out, HR.out, HK.out, decide_eq_true (by omega)]; rfl
        have HX3 : Hid (lastI 0 (zs.take (k + 1)) = zs[k]) := by show _ = _; rw [HTK.out, HL.out]
        go_wp2_with fail
        go_round
        case rel => exact ⟨k + 1, by omega, by go_num, by rw [HX3.out], HX2⟩
        case measure => simp [intOf]; omega
    · obtain rfl : k = zs.length := by omega
      have hK := HK.out
      rw [List.take_length] at hK ⊢
      have HF : Hid (cv = (inB x.cy.length 1 4 && decide (lastI 0 zs ≤ 1000))) := by show _ = _; rw [HA.out, hK]; rfl
      clear hK
      cases hi : inB x.cy.length 1 4
      · go_wp2_with fail
        refine (many_any _ _ _ _).mono ?_
        rintro e w2 ⟨rfl, rfl⟩
        rw [hi]
        go_wp2_with fail
        go_ret
        exact ⟨ret_bool (by rw [HF.out, hi]; rfl), HB0.out.trans (HB1.out.mono hb0)⟩
      · generalize lastI 0 zs = la at *
        go_wp2_with fail
        refine (many_any _ _ _ _).mono ?_
        rintro e w2 ⟨rfl, rfl⟩
        rw [hi]
        go_wp2_with fail
        go_ret
        exact ⟨ret_bool (by rw [HF.out, hi]; simp), HB0.out.trans (HB1.out.mono hb0)⟩

set_option maxHeartbeats 400000 in
theorem check1_any (x : Cfg) (bx : Nat) (w : World) (h : CfAt w bx x) (hk : CfOk w x) (hl : x.ms.length ≤ 100000) :
    Calls Try.prog 29 #[.pointer (some ⟨bx, 0, none⟩)] w fun e w' => e = .returned (.bool (!membsB x.ms)) ∧ Below w.heap.size w w' := by
  obtain ⟨c0, c1, c2, c3, c4, c5, c6, c7, clt⟩ := h
  have HC := Lib.hid (members_any x.ms x.Am x.cm w hk.m (by omega))
  generalize membsB x.ms = bv at *
  clear hk
  go_enter Try.func29, Try.ntmps29
  go_wp2_with fail
  refine HC.out.mono ?_
  rintro e w1 ⟨rfl, hb1⟩
  have HB1 := Lib.hid hb1
  clear hb1
  go_wp2_with fail
  go_ret
  exact ⟨rfl, HB1.out⟩

set_option maxHeartbeats 400000 in
theorem check2_any (x : Cfg) (bx : Nat) (w : World) (h : CfAt w bx x) (hk : CfOk w x) (hl : x.ss.length ≤ 100000) :
    Calls Try.prog 31 #[.pointer (some ⟨bx, 0, none⟩)] w fun e w' => e = .returned (.bool (!secsB x.ss)) ∧ Below w.heap.size w w' := by
  obtain ⟨c0, c1, c2, c3, c4, c5, c6, c7, clt⟩ := h
  have HC := Lib.hid (secs_any x.ss x.As x.cs w hk.s (by omega))
  generalize secsB x.ss = bv at *
  clear hk
  go_enter Try.func31, Try.ntmps31
  go_wp2_with fail
  refine HC.out.mono ?_
  rintro e w1 ⟨rfl, hb1⟩
  have HB1 := Lib.hid hb1
  clear hb1
  go_wp2_with fail
  go_ret
  exact ⟨rfl, HB1.out⟩

set_option maxHeartbeats 400000 in
theorem check3_any (x : Cfg) (bx : Nat) (w : World) (h : CfAt w bx x) (hk : CfOk w x) (hl : x.cy.length ≤ 100000) :
    Calls Try.prog 33 #[.pointer (some ⟨bx, 0, none⟩)] w fun e w' => e = .returned (.bool (!cyclesB x.cy)) ∧ Below w.heap.size w w' := by
  obtain ⟨c0, c1, c2, c3, c4, c5, c6, c7, clt⟩ := h
  have HC := Lib.hid (cycles_any x w hk hl)
  generalize cyclesB x.cy = bv at *
  clear hk
  go_enter Try.func33, Try.ntmps33
  go_wp2_with fail
  refine HC.out.mono ?_
  rintro e w1 ⟨rfl, hb1⟩
  have HB1 := Lib.hid hb1
  clear hb1
  go_wp2_with fail
  go_ret
  exact ⟨rfl, HB1.out⟩

set_option maxHeartbeats 400000 in
theorem check4_any (x : Cfg) (bx : Nat) (w : World) (h : CfAt w bx x) :
    Calls Try.prog 35 #[.pointer (some ⟨bx, 0, none⟩)] w fun e w' => e = .returned (.bool (!inB x.line 0 1099511627776)) ∧ Below w.heap.size w w' := by
  obtain ⟨c0, c1, c2, c3, c4, c5, c6, c7, clt⟩ := h
  have HC := Lib.hid (within_any x.line 0 1099511627776 w)
  generalize inB x.line 0 1099511627776 = bv at *
  go_enter Try.func35, Try.ntmps35
  go_wp2_with fail
  refine HC.out.mono ?_
  rintro e w1 ⟨rfl, rfl⟩
  go_wp2_with fail
  go_ret
  exact ⟨rfl, Below.refl _ _⟩

set_option maxHeartbeats 400000 in
theorem check5_any (x : Cfg) (bx : Nat) (w : World) (h : CfAt w bx x) :
    Calls Try.prog 37 #[.pointer (some ⟨bx, 0, none⟩)] w fun e w' => e = .returned (.bool (!inB x.capi 0 1099511627776)) ∧ Below w.heap.size w w' := by
  obtain ⟨c0, c1, c2, c3, c4, c5, c6, c7, clt⟩ := h
  have HC := Lib.hid (within_any x.capi 0 1099511627776 w)
  generalize inB x.capi 0 1099511627776 = bv at *
  go_enter Try.func37, Try.ntmps37
  go_wp2_with fail
  refine HC.out.mono ?_
  rintro e w1 ⟨rfl, rfl⟩
  go_wp2_with fail
  go_ret
  exact ⟨rfl, Below.refl _ _⟩

set_option maxHeartbeats 400000 in
theorem check6_any (x : Cfg) (bx : Nat) (w : World) (h : CfAt w bx x) :
    Calls Try.prog 38 #[.pointer (some ⟨bx, 0, none⟩)] w fun e w' => e = .returned (.bool (!inB x.lead 0 1000)) ∧ Below w.heap.size w w' := by
  obtain ⟨c0, c1, c2, c3, c4, c5, c6, c7, clt⟩ := h
  have HC := Lib.hid (many_any x.lead 0 1000 w)
  generalize inB x.lead 0 1000 = bv at *
  go_enter Try.func38, Try.ntmps38
  go_wp2_with fail
  refine HC.out.mono ?_
  rintro e w1 ⟨rfl, rfl⟩
  go_wp2_with fail
  go_ret
  exact ⟨rfl, Below.refl _ _⟩

set_option maxHeartbeats 400000 in
theorem check7_any (x : Cfg) (bx : Nat) (w : World) (h : CfAt w bx x) :
    Calls Try.prog 40 #[.pointer (some ⟨bx, 0, none⟩)] w fun e w' => e = .returned (.bool (!inB x.tr 1 64)) ∧ Below w.heap.size w w' := by
  obtain ⟨c0, c1, c2, c3, c4, c5, c6, c7, clt⟩ := h
  have HC := Lib.hid (many_any x.tr 1 64 w)
  generalize inB x.tr 1 64 = bv at *
  go_enter Try.func40, Try.ntmps40
  go_wp2_with fail
  refine HC.out.mono ?_
  rintro e w1 ⟨rfl, rfl⟩
  go_wp2_with fail
  go_ret
  exact ⟨rfl, Below.refl _ _⟩

set_option maxHeartbeats 400000 in
theorem check8_any (x : Cfg) (bx : Nat) (w : World) (h : CfAt w bx x) :
    Calls Try.prog 41 #[.pointer (some ⟨bx, 0, none⟩)] w fun e w' => e = .returned (.bool (!inB x.bids 1 32)) ∧ Below w.heap.size w w' := by
  obtain ⟨c0, c1, c2, c3, c4, c5, c6, c7, clt⟩ := h
  have HC := Lib.hid (many_any x.bids 1 32 w)
  generalize inB x.bids 1 32 = bv at *
  go_enter Try.func41, Try.ntmps41
  go_wp2_with fail
  refine HC.out.mono ?_
  rintro e w1 ⟨rfl, rfl⟩
  go_wp2_with fail
  go_ret
  exact ⟨rfl, Below.refl _ _⟩
end Go.Proofs.Ytedmbmfppjokpaa
