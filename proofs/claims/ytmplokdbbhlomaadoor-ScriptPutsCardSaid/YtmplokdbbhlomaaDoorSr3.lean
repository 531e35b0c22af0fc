/-
  What complineref07.Reader's methods come to, over this seat's translation: contracts for callers.
-/
import Derived.Test.YtmplokdbbhlomaaDoorSr2
namespace Go.Proofs.YtmplokdbbhlomaaDoor
open Go.RowKit

set_option maxHeartbeats 1600000 in
theorem rend_any (g : Nat) (r : Rd) (w : World) (h : RdAt w g r) : Calls Tryd.prog 30 #[.pointer (some ⟨g, 0, none⟩)] w fun e w' => e = .returned (.int .i64 (rEnd r)) ∧ w' = w := by
  have c0 := h.c0
  have c1 := h.c1
  obtain ⟨Q, HQ⟩ : ∃ Q, Hid (Q = rEnd r) := ⟨_, Lib.hid rfl⟩
  rw [← HQ.out]
  unfold rEnd at HQ
  by_cases h0 : r.e = 0
  case neg =>
    have hb : (r.e == 0) = false := by simpa using h0
    have HQ2 : Hid (Q = r.e) := Lib.hid (by rw [HQ.out, if_neg (by omega)])
    clear HQ h
    go_enter Tryd.func30, Tryd.ntmps30
    go_wp2_with fail
    go_ret
    rw [HQ2.out]
    exact ⟨rfl, rfl⟩
  have hb : (r.e == 0) = true := by simpa using h0
  by_cases h1 : r.s = []
  · have hs : (!r.s.isEmpty) = false := by rw [h1]; rfl
    have HQ2 : Hid (Q = r.e) := Lib.hid (by rw [HQ.out, if_neg (by simp [h1])])
    clear HQ h h1
    go_enter Tryd.func30, Tryd.ntmps30
    go_wp2_with fail
    go_ret
    rw [HQ2.out, h0]
    exact ⟨rfl, rfl⟩
  · have hs : (!r.s.isEmpty) = true := by simpa using h1
    have HQ2 : Hid (Q = 3) := Lib.hid (by rw [HQ.out, if_pos ⟨h0, h1⟩])
    clear HQ h h1
    go_enter Tryd.func30, Tryd.ntmps30
    go_wp2_with fail
    go_ret
    rw [HQ2.out]
    exact ⟨rfl, rfl⟩
set_option maxRecDepth 100000 in
set_option maxHeartbeats 1600000 in
theorem rnum_any (g : Nat) (r : Rd) (w : World) (h : RdAt w g r) : Calls Tryd.prog 47 #[.pointer (some ⟨g, 0, none⟩)] w fun e w' => e = .returned (.int .i64 (rNum r).1) ∧ RdAt w' g (rNum r).2 ∧ w.grownBy w' (some g) := by
  have HR := Lib.hid h
  have c0 := h.c0
  have c1 := h.c1
  have hlen := h.len
  have HGT := Lib.hid (rget_any r.s w (by omega))
  have hgl := getB_len r.s
  obtain ⟨T, HT⟩ : ∃ T, Hid (T = rNum r) := ⟨_, Lib.hid rfl⟩
  rw [← HT.out]
  by_cases h0 : r.e = 0
  case neg =>
    have hb : (r.e != 0) = true := by simpa using h0
    have HT2 : Hid (T = (0, r)) := Lib.hid (by rw [HT.out, rNum_bad h0])
    clear h HT
    go_enter Tryd.func47, Tryd.ntmps47
    go_wp2_with fail
    go_ret
    rw [HT2.out]
    exact ⟨rfl, HR.out, World.grownBy.refl _ _⟩
  have hb : (r.e != 0) = false := by simpa using h0
  have HG0 : Hid (T = if (getB r.s).2.2 = 0 then ((getB r.s).1, ⟨(getB r.s).2.1, 0⟩) else (0, ⟨r.s, (getB r.s).2.2⟩)) := Lib.hid (by
    rw [HT.out]
    unfold rNum rTake
    rw [if_pos h0]
    by_cases h : (getB r.s).2.2 = 0
    · rw [if_pos h, if_pos h]; rfl
    · rw [if_neg h, if_neg h])
  have HMD := Lib.hid (many_drop (s := r.s))
  have hml := many_le r.s
  clear HT
  generalize manyB r.s = M at *
  generalize getB r.s = G at *
  obtain ⟨n, rest, e'⟩ := G
  simp only at hgl HGT
  by_cases h1 : e' = 0
  case neg =>
    have hne : (e' != 0) = true := by simpa using h1
    have HT2 : Hid (T = (0, ⟨r.s, e'⟩)) := Lib.hid (by rw [HG0.out]; exact if_neg h1)
    clear HG0 h HMD
    go_enter Tryd.func47, Tryd.ntmps47
    go_wp2_with (go_at_call 66; refine HGT.out.mono ?_; rintro e w2 ⟨rfl, hb2⟩; have HR2 := Lib.hid (HR.out.below hb2); have HB2 := Lib.hid hb2; have k0 := HR2.out.c0; have k1 := HR2.out.c1; have kf := HR2.out.fz; clear hb2 c0 c1)
    go_ret
    rw [HT2.out]
    exact ⟨rfl, HR2.out.setE e', grown_twoS (grown_toS HB2.out g) (grown_setS _ _ _ _)⟩
  subst h1
  have HT2 : Hid (T = (n, ⟨rest, 0⟩)) := Lib.hid (by rw [HG0.out]; exact if_pos rfl)
  have hdr : r.s.drop M = rest := HMD.out rfl
  have hsz := bs_size r.s
  have hext : (bs r.s).extract M r.s.length = bs rest := by rw [← hdr, ByteArray.extract_mk, List.take_of_length_le (by rw [List.length_drop]; omega)]
  clear HG0 HMD hdr h
  go_enter Tryd.func47, Tryd.ntmps47
  go_wp2_with (go_at_call 66; refine HGT.out.mono ?_; rintro e w2 ⟨rfl, hb2⟩; have HR2 := Lib.hid (HR.out.below hb2); have HB2 := Lib.hid hb2; have k0 := HR2.out.c0; have k1 := HR2.out.c1; have kf := HR2.out.fz; clear hb2 c0 c1)
  go_ret
  rw [HT2.out]
  have hse := HR2.out.setS (s := rest) (by omega)
  rw [h0] at hse
  exact ⟨rfl, hse, grown_twoS (grown_toS HB2.out g) (grown_setS _ _ _ _)⟩
/-- Upto, by Num. -/
theorem rUpto_num (most : Int) (r : Rd) : rUpto most r = if (rNum r).2.e = 0 then (if uptoB most (rNum r).1 then rNum r else (0, ⟨r.s, 3⟩)) else (0, (rNum r).2) := by
  unfold rUpto rNum rTake
  by_cases h0 : r.e = 0
  · rw [if_pos h0, if_pos h0]
    by_cases h1 : (getB r.s).2.2 = 0
    · rw [if_pos h1, if_pos h1]
      by_cases h2 : uptoB most (getB r.s).1 = true
      · rw [if_pos h2]
        simp [h2]
      · rw [if_neg h2]
        simp [h2]
    · rw [if_neg h1, if_neg h1]
      simp [h1]
  · rw [if_neg h0, if_neg h0]
    simp [h0]
theorem rNum_off {r : Rd} (h : (rNum r).2.e ≠ 0) : (rNum r).1 = 0 := by
  unfold rNum rTake at h ⊢
  by_cases h0 : r.e = 0
  · rw [if_pos h0] at h ⊢
    by_cases h1 : (getB r.s).2.2 = 0
    · rw [if_pos h1] at h ⊢
      simp at h
    · rw [if_neg h1] at h ⊢
  · rw [if_neg h0] at h ⊢
set_option maxRecDepth 100000 in
set_option maxHeartbeats 1600000 in
theorem rupto_any (g : Nat) (r : Rd) (most : Int) (w : World) (h : RdAt w g r) : Calls Tryd.prog 28 #[.pointer (some ⟨g, 0, none⟩), .int .i64 most] w fun e w' => e = .returned (.int .i64 (rUpto most r).1) ∧ RdAt w' g (rUpto most r).2 ∧ w.grownBy w' (some g) := by
  have HN := Lib.hid (rnum_any g r w h)
  have c0 := h.c0
  have hlen := h.len
  obtain ⟨T, HT⟩ : ∃ T, Hid (T = rUpto most r) := ⟨_, Lib.hid rfl⟩
  rw [← HT.out]
  have HU : Hid (T = if (rNum r).2.e = 0 then (if uptoB most (rNum r).1 then rNum r else (0, ⟨r.s, 3⟩)) else (0, (rNum r).2)) := Lib.hid (by rw [HT.out, rUpto_num])
  have HO := Lib.hid (rNum_off (r := r))
  clear HT h
  generalize rNum r = S at *
  obtain ⟨n, r'⟩ := S
  simp only at HN HU HO
  by_cases h0 : r'.e = 0
  case neg =>
    have hb : (r'.e == 0) = false := by simpa using h0
    have HT2 : Hid (T = (0, r')) := Lib.hid (by rw [HU.out, if_neg h0])
    have HN0 : n = 0 := HO.out h0
    subst HN0
    clear HU HO
    go_enter Tryd.func28, Tryd.ntmps28
    go_wp2_with (go_at_call 47; refine HN.out.mono ?_; rintro e w1 ⟨rfl, hr, hg⟩; have HR := Lib.hid hr; have HG := Lib.hid hg; have m1 := hr.c1; clear hr hg c0)
    go_ret
    rw [HT2.out]
    exact ⟨rfl, HR.out, HG.out⟩
  have hb : (r'.e == 0) = true := by simpa using h0
  by_cases hn : n < 0
  · have hd1 : decide (n < 0) = true := decide_eq_true hn
    have HT2 : Hid (T = (0, ⟨r.s, 3⟩)) := Lib.hid (by rw [HU.out, if_pos h0, if_neg (by simp [uptoB]; omega)])
    clear HU HO
    go_enter Tryd.func28, Tryd.ntmps28
    go_wp2_with (go_at_call 47; refine HN.out.mono ?_; rintro e w1 ⟨rfl, hr, hg⟩; have HR := Lib.hid hr; have HG := Lib.hid hg; have m1 := hr.c1; have m0 := hr.c0; have mf := hr.fz; clear hr hg c0)
    go_ret
    rw [HT2.out]
    exact ⟨rfl, (HR.out.setS hlen).setE 3, grown_twoS (grown_twoS HG.out (grown_setS _ _ _ _)) (grown_setS _ _ _ _)⟩
  have hd1 : decide (n < 0) = false := decide_eq_false hn
  by_cases hm : most < n
  · have hd2 : decide (most < n) = true := decide_eq_true hm
    have HT2 : Hid (T = (0, ⟨r.s, 3⟩)) := Lib.hid (by rw [HU.out, if_pos h0, if_neg (by simp [uptoB]; omega)])
    clear HU HO
    go_enter Tryd.func28, Tryd.ntmps28
    go_wp2_with (go_at_call 47; refine HN.out.mono ?_; rintro e w1 ⟨rfl, hr, hg⟩; have HR := Lib.hid hr; have HG := Lib.hid hg; have m1 := hr.c1; have m0 := hr.c0; have mf := hr.fz; clear hr hg c0)
    go_ret
    rw [HT2.out]
    exact ⟨rfl, (HR.out.setS hlen).setE 3, grown_twoS (grown_twoS HG.out (grown_setS _ _ _ _)) (grown_setS _ _ _ _)⟩
  have hd2 : decide (most < n) = false := decide_eq_false hm
  have HT2 : Hid (T = (n, r')) := Lib.hid (by rw [HU.out, if_pos h0, if_pos (by simp [uptoB]; omega)])
  clear HU HO
  go_enter Tryd.func28, Tryd.ntmps28
  go_wp2_with (go_at_call 47; refine HN.out.mono ?_; rintro e w1 ⟨rfl, hr, hg⟩; have HR := Lib.hid hr; have HG := Lib.hid hg; have m1 := hr.c1; have m0 := hr.c0; have mf := hr.fz; clear hr hg c0)
  go_ret
  rw [HT2.out]
  exact ⟨rfl, HR.out, HG.out⟩
/-- Text, by Upto. -/
theorem rText_upto (most : Int) (r : Rd) : rText most r = if (rUpto most r).2.e = 0 then (if ((rUpto most r).2.s.length : Int) < (rUpto most r).1 then ([], ⟨r.s, 4⟩) else ((rUpto most r).2.s.take (rUpto most r).1.toNat, ⟨(rUpto most r).2.s.drop (rUpto most r).1.toNat, (rUpto most r).2.e⟩)) else ([], (rUpto most r).2) := by
  unfold rText rUpto rTake
  by_cases h0 : r.e = 0
  · rw [if_pos h0]
    by_cases h1 : (getB r.s).2.2 = 0
    · rw [if_pos h1]
      by_cases h2 : uptoB most (getB r.s).1 = true
      · rw [if_pos h2]
        simp
      · rw [if_neg h2]
        simp
    · rw [if_neg h1]
      simp [h1]
  · rw [if_neg h0]
    simp [h0]
set_option maxRecDepth 100000 in
set_option maxHeartbeats 1600000 in
theorem rrtext_any (g : Nat) (r : Rd) (most : Int) (w : World) (h : RdAt w g r) (hm0 : 0 ≤ most) : Calls Tryd.prog 48 #[.pointer (some ⟨g, 0, none⟩), .int .i64 most] w fun e w' => e = .returned (.string (bs (rText most r).1)) ∧ RdAt w' g (rText most r).2 ∧ w.grownBy w' (some g) := by
  have HN := Lib.hid (rupto_any g r most w h)
  have c0 := h.c0
  have hlen := h.len
  obtain ⟨T, HT⟩ : ∃ T, Hid (T = rText most r) := ⟨_, Lib.hid rfl⟩
  rw [← HT.out]
  have HU := Lib.hid (HT.out.trans (rText_upto most r))
  have hin := rUpto_in most hm0 r
  clear HT h
  generalize rUpto most r = S at *
  obtain ⟨n, r'⟩ := S
  simp only at HN HU hin
  obtain ⟨hn0, hn1⟩ := hin
  by_cases h0 : r'.e = 0
  case neg =>
    have hb : (r'.e != 0) = true := by simpa using h0
    have HT2 : Hid (T = ([], r')) := Lib.hid (by rw [HU.out, if_neg h0])
    clear HU
    go_enter Tryd.func48, Tryd.ntmps48
    go_wp2_with (go_at_call 28; refine HN.out.mono ?_; rintro e w1 ⟨rfl, hr, hg⟩; have HR := Lib.hid hr; have HG := Lib.hid hg; have m1 := hr.c1; clear hr hg c0)
    go_ret
    rw [HT2.out]
    exact ⟨rfl, HR.out, HG.out⟩
  have hb : (r'.e != 0) = false := by simpa using h0
  have hsz := bs_size r'.s
  by_cases hbig : (r'.s.length : Int) < n
  · have hd : decide ((r'.s.length : Int) < n) = true := decide_eq_true hbig
    have HT2 : Hid (T = ([], ⟨r.s, 4⟩)) := Lib.hid (by rw [HU.out, if_pos h0, if_pos hbig])
    clear HU
    go_enter Tryd.func48, Tryd.ntmps48
    go_wp2_with (go_at_call 28; refine HN.out.mono ?_; rintro e w1 ⟨rfl, hr, hg⟩; have HR := Lib.hid hr; have HG := Lib.hid hg; have m1 := hr.c1; have m0 := hr.c0; have mf := hr.fz; clear hr hg c0)
    go_ret
    rw [HT2.out]
    exact ⟨rfl, (HR.out.setS hlen).setE 4, grown_twoS (grown_twoS HG.out (grown_setS _ _ _ _)) (grown_setS _ _ _ _)⟩
  have hd : decide ((r'.s.length : Int) < n) = false := decide_eq_false hbig
  have HT2 : Hid (T = (r'.s.take n.toNat, ⟨r'.s.drop n.toNat, r'.e⟩)) := Lib.hid (by rw [HU.out, if_pos h0, if_neg hbig])
  have hnl : n ≤ (r'.s.length : Int) := by omega
  have e1 : (bs r'.s).extract 0 n.toNat = bs (r'.s.take n.toNat) := by rw [ByteArray.extract_mk]; simp
  have e2 : (bs r'.s).extract n.toNat r'.s.length = bs (r'.s.drop n.toNat) := by rw [ByteArray.extract_mk, List.take_of_length_le (by rw [List.length_drop]; omega)]
  clear HU
  go_enter Tryd.func48, Tryd.ntmps48
  go_wp2_with (go_at_call 28; refine HN.out.mono ?_; rintro e w1 ⟨rfl, hr, hg⟩; have HR := Lib.hid hr; have HG := Lib.hid hg; have m1 := hr.c1; have m0 := hr.c0; have mf := hr.fz; clear hr hg c0)
  go_ret
  rw [HT2.out]
  have hl := HR.out.len
  exact ⟨rfl, HR.out.setS (by rw [List.length_drop]; omega), grown_twoS HG.out (grown_setS _ _ _ _)⟩
end Go.Proofs.YtmplokdbbhlomaaDoor
