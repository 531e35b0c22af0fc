/-
  What complinelaw37.CensusFinds comes to, over this seat's translation.
-/
import Derived.Test.YtgkidjjijgegmaaCW9
import Derived.Test.YtgkidjjijgegmaaCW10
import Derived.Test.YtgkidjjijgegmaaCW11
import Derived.Test.YtgkidjjijgegmaaBel
import Derived.Test.YtgkidjjijgegmaaArrEq
namespace Go.Proofs.Ytgkidjjijgegmaa
open Go.RowKit

theorem gE_side {l : List Ev} {q : Int × Int} (h : ∀ x ∈ l, sideE x ≠ q) (j : Nat) : gE l q j = 0 := by
  unfold gE colF
  have : l.flatMap (fun x => if plJ x.k = some j ∧ sideE x = q then ctr x else []) = [] := by
    rw [List.flatMap_eq_nil_iff]
    intro x hx
    rw [if_neg (fun e => h x hx e.2)]
  rw [this]
  rfl
theorem talF_len {l : List Ev} {T : List Tl} (h : TalF (gE l) T) : T.length ≤ l.length := by
  have hn : (T.map (·.q)).Nodup := by
    refine List.pairwise_map.2 (h.srt.imp ?_)
    intro a b hab e
    rw [e] at hab
    exact sideLt_irrefl _ hab
  have hsub : (T.map (·.q)) ⊆ l.map sideE := by
    intro q hq
    obtain ⟨t, ht, rfl⟩ := List.mem_map.1 hq
    apply Classical.byContradiction
    intro hno
    have h0 : ∀ j, gE l t.q j = 0 := gE_side (fun x hx e => hno (List.mem_map.2 ⟨x, hx, e⟩))
    have h1 := h.nz t ht
    rw [h.val t ht] at h1
    simp [tlNone, tlOf, h0] at h1
  have := hn.length_le_of_subset hsub
  simpa using this
/-- Whatever the census of events is: its tallies are few, and Find's answer is the side's. -/
theorem ofR_few {l : List Ev} {K : List Int} {o : Int} {T : List Tl} {err : Int} (h : OfR l K o T err) : T.length ≤ 1024 := by
  rcases h with ⟨_, _, _, rfl, _⟩ | ⟨_, _, _, _, rfl, _⟩ | ⟨h1, _, _, _, h2, _⟩
  · simp
  · simp
  · have := talF_len h2
    omega
theorem ofR_find {l : List Ev} {K : List Int} {o : Int} {T : List Tl} {err : Int} (h : OfR l K o T err) (q : Int × Int) : ∃ f : Nat → Int, fndT T q = tlOf q f ∧ (err = 0 → f = gE l q ∧ okR (gE l q) = true) := by
  have h0 : ∀ q, fndT [] q = tlOf q fun _ => 0 := fun q => rfl
  rcases h with ⟨_, _, _, rfl, rfl⟩ | ⟨_, _, _, _, rfl, rfl⟩ | ⟨_, h1, _, _, h2, _⟩
  · exact ⟨_, h0 q, fun e => by cases e⟩
  · exact ⟨_, h0 q, fun e => by cases e⟩
  · exact ⟨gE l q, fndT_sums h2 q, fun _ => ⟨rfl, h1 q⟩⟩
set_option maxRecDepth 100000 in
set_option maxHeartbeats 6400000 in
theorem finds_law (l : List Ev) (A : Option Addr) (c : Nat) (x0 x1 kd : Int) (w : World) (hs : Seg w w.heap.size A (evRows l)) (hI : ∀ x ∈ l, EvOk x) (_hl : l.length ≤ maxLen) :
    Calls Try.prog 6 #[.slice A l.length c, .agg #[.int .i64 x0, .int .i64 x1], .int .i64 kd] w fun e w' => e = .returned (.bool true) ∧ Below w.heap.size w w' := by
  have HS := Lib.hid hs
  have HI := Lib.hid hI
  have HAW : Hid (∀ W, Calls Try.prog 7 #[] W fun e w' => e = .returned (.bool true) ∧ Below W.heap.size W w') := Lib.hid awake_any
  have HB0 : Hid (Below w.heap.size w (w.alloc (.cells #[.int .i64 x0, .int .i64 x1] 53))) := Lib.hid ((Below.refl _ _).alloc (Nat.le_refl _) _)
  clear hs hI
  by_cases hbig : 40 < l.length
  · have hd : decide ((40 : Int) < (l.length : Int)) = true := decide_eq_true (by omega)

    go_enter Try.func6, Try.ntmps6
    go_wp2_with (go_at_call 7; refine (HAW.out _).mono ?_; rintro e w1 ⟨rfl, hb1⟩; have HB1 := Lib.hid hb1; clear hb1)
    go_ret
    exact ⟨rfl, HB0.out.trans (HB1.out.mono HB0.out.size)⟩
  have hd : decide ((40 : Int) < (l.length : Int)) = false := decide_eq_false (by omega)
  obtain ⟨i0, hi0, hz0, hz1', hz2⟩ := info_parts ev_info
  have HX0 := Lib.hid fun j => cell_new w #[.int .i64 x0, .int .i64 x1] 53 (b := w.heap.size) j rfl
  have hz0' : w.heap.size < (w.alloc (.cells #[.int .i64 x0, .int .i64 x1] 53)).heap.size := by simp

  go_enter Try.func6, Try.ntmps6
  go_wp2_with fail
  generalize w.alloc (.cells #[.int .i64 x0, .int .i64 x1] 53) = w0 at *
  have HXX : Hid (∀ W, Below w0.heap.size w0 W → W.cell? ⟨w.heap.size, 0, none⟩ = some (.int .i64 x0) ∧ W.cell? ⟨w.heap.size, 1, none⟩ = some (.int .i64 x1)) := Lib.hid fun W hW => ⟨(hW.cell (p := ⟨w.heap.size, 0, none⟩) hz0').trans (HX0.out 0), (hW.cell (p := ⟨w.heap.size, 1, none⟩) hz0').trans (HX0.out 1)⟩
  clear HX0
  go_loopw [7, 8] (fun u i wr => ∃ k : Nat, k ≤ l.length ∧ i = .int .i64 k ∧ Hid (wr.ownsRow w0.heap.size 34 5 u (kindF (l.take k) kd).length (evRows (kindF (l.take k) kd))) ∧ Hid (Below w0.heap.size w0 wr)) (fun _ i _ => l.length - (intOf i).toNat)
  case atStart => exact ⟨0, Nat.zero_le _, rfl, World.ownsRow_nil _ _ _ _, Below.refl _ _⟩
  case round =>
    obtain ⟨k, hk, rfl, HO, HB⟩ := hrel
    have hsz := HB.out.size
    have HBW : Hid (Below w.heap.size w wr) := Lib.hid (HB0.out.trans (HB.out.mono HB0.out.size))
    by_cases hlt : k < l.length
    · obtain ⟨b, o, rfl, hb, e0, e1, e2, e3, e4⟩ := ev_at (HS.out.below HBW.out) hlt
      have HRS := Lib.hid (kindF_snoc hlt kd)
      have hyl : (kindF (l.take k) kd).length ≤ 100000 := by have := kindF_len (l.take k) kd; rw [List.length_take] at this; omega
      obtain ⟨x, hx⟩ : ∃ x, x = l[k] := ⟨_, rfl⟩
      rw [← hx] at e0 e1 e2 e3 e4 HRS
      clear hx
      obtain ⟨xk, xm, xa, xn, xo⟩ := x
      simp only at e0 e1 e2 e3 e4 HRS
      obtain ⟨ys, HYS⟩ : ∃ ys, Hid (ys = kindF (l.take k) kd) := ⟨_, Lib.hid rfl⟩
      obtain ⟨zs, HZS⟩ : ∃ zs, Hid (zs = kindF (l.take (k + 1)) kd) := ⟨_, Lib.hid rfl⟩
      rw [← HYS.out] at HO hyl HRS
      rw [← HZS.out] at HRS
      clear HYS
      have hk0 : (0 : Int) ≤ (k : Int) := by omega
      have hkb : (k : Int) < (l.length : Int) := by omega
      by_cases hkd : xk = kd
      · have hb1 : (xk == kd) = true := by simpa using hkd
        have HZ : Hid (zs = ys ++ [⟨xk, xm, xa, xn, xo⟩]) := Lib.hid (by rw [HRS.out, if_pos hkd])
        clear HRS hkd
        go_wp2_with (at_builtin; refine wpList_append_own _ rfl _ _ 22 rfl w0.heap.size 34 i0 _ 5 40 Try.underlying22 hi0 hz0 hz1' hz2 rfl (by decide) _ ys.length (evRows ys) rfl (HO.out.alloc _) ⟨wr.heap.size, 0, none⟩ 1 1 [.int .i64 xk, .int .i64 xm, .int .i64 xa, .int .i64 xn, .int .i64 xo] rfl rfl (new_cells _ _ #[_, _, _, _, _] (by simp)) (ev_one ⟨xk, xm, xa, xn, xo⟩) (by simp only [maxLen]; omega) (by omega) (by simp; omega) ?_)
        intro v' w4 hown1 hgrow1 _
        have HO4 : Hid (w4.ownsRow w0.heap.size 34 5 v' zs.length (evRows zs)) := Lib.hid (by rw [HZ.out, evRows_snoc, List.length_append]; exact hown1)
        have HG4 : Hid (Below w0.heap.size w0 w4) := Lib.hid ((HB.out.alloc hsz _).grown hgrow1 (Nat.le_trans hsz (by simp)) (fun j hj => own_base HO.out j hj))
        clear hown1 hgrow1
        go_wp2_with fail
        go_roundw
        case rel => exact ⟨k + 1, by omega, by go_num, by rw [← HZS.out]; exact HO4.out, HG4.out⟩
        case measure => simp [intOf]; omega
      · have hb1 : (xk == kd) = false := by simpa using hkd
        have HZ : Hid (zs = ys) := Lib.hid (by rw [HRS.out, if_neg hkd])
        clear HRS hkd
        go_wp2_with fail
        go_roundw
        case rel => exact ⟨k + 1, by omega, by go_num, by rw [← HZS.out, HZ.out]; exact HO.out, HB.out⟩
        case measure => simp [intOf]; omega
    · obtain rfl : k = l.length := by omega
      have hO := HO.out
      rw [List.take_length] at hO
      obtain ⟨A1, c1, rfl⟩ := own_form hO
      have HSW := Lib.hid (Seg.of_own hO)
      clear hO HO
      have HKI := Lib.hid (kind_any l A c kd wr ((HS.out.below HBW.out).mono HBW.out.size) (by omega))
      go_wp2_with fail
      refine HKI.out.mono ?_
      rintro e w2 ⟨A2, c2, rfl, hown2, hb2⟩
      have HSE := Lib.hid (sev_any (kindF l kd) A2 A1 c2 c1 w2 (Seg.of_own hown2) ((HSW.out.below hb2).mono hb2.size) (by have := kindF_len l kd; omega))
      have HB2 : Hid (Below w0.heap.size w0 w2) := Lib.hid (HB.out.trans (hb2.mono hsz))
      clear hb2 hown2 HSW HKI HB HBW
      go_wp2_with fail
      refine HSE.out.mono ?_
      rintro e w3 ⟨rfl, hb3⟩
      have HB3 : Hid (Below w0.heap.size w0 w3) := Lib.hid (HB2.out.trans (hb3.mono HB2.out.size))
      clear hb3 HB2 HSE
      have HBW3 : Hid (Below w.heap.size w w3) := Lib.hid (HB0.out.trans (HB3.out.mono HB0.out.size))
      have HOF := Lib.hid (of_any l A c w3 ((HS.out.below HBW3.out).mono HBW3.out.size) HI.out (by omega))
      go_wp2_with fail
      refine HOF.out.mono ?_
      rintro e w4 ⟨K, o, T, err, v, hR, rfl, ⟨KA, kc, B, d, rfl, hK, hT⟩, hb4⟩
      have HB4 : Hid (Below w0.heap.size w0 w4) := Lib.hid (HB3.out.trans (hb4.mono HB3.out.size))
      have HT4 := Lib.hid hT
      have HR := Lib.hid hR
      have htl := ofR_few hR
      clear hK hT hb4 HOF HB3 HBW3 hR
      obtain ⟨f, hf, hfe⟩ := ofR_find HR.out (x0, x1)
      have HFE := Lib.hid hfe
      have HFI : Hid (∀ W, Below w4.heap.size w4 W → Calls Try.prog 15 #[.agg #[.slice KA K.length kc, .int .i64 o, .slice B T.length d], .int .i64 x0, .int .i64 x1] W fun e w' => e = .returned (.agg #[.int .i64 x0, .int .i64 x1, .int .i64 (f 0), .int .i64 (f 1), .int .i64 (f 2), .int .i64 (f 3), .int .i64 (f 4)]) ∧ Below W.heap.size W w') := Lib.hid fun W hW => by
        have := find_any KA K.length kc o T B d x0 x1 W ((HT4.out.below hW).mono hW.size) (by omega)
        rw [hf] at this
        exact this
      have HJ : Hid (∀ W, Calls Try.prog 18 #[.agg #[.slice KA K.length kc, .int .i64 o, .slice B T.length d], .agg #[.slice none 0 0, .int .i64 0, .slice none 0 0]] W fun e w' => e = .returned (.tuple #[.agg #[.slice none 0 0, .int .i64 0, .slice none 0 0], .int .i64 3]) ∧ Below W.heap.size W w') := Lib.hid fun W => joinNo_any KA K.length kc o B T.length d W
      have HLF : Hid (∀ W, Calls Try.prog 16 #[.agg #[.slice KA K.length kc, .int .i64 o, .slice B T.length d], .int .i64 9] W fun e w' => e = .returned (.tuple #[.slice none 0 0, .int .i64 3]) ∧ Below W.heap.size W w') := Lib.hid fun W => leftNo_any KA K.length kc o B T.length d W
      have HRW : Hid (∀ W, Below w.heap.size w W → Calls Try.prog 11 #[.slice A l.length c, .int .i64 x0, .int .i64 x1] W (GotR (gE l (x0, x1)) W)) := Lib.hid fun W hW => row37_any l A c x0 x1 W ((HS.out.below hW).mono hW.size) HI.out (by omega)
      clear hf hfe HR HT4 htl HI HS
      obtain ⟨xa0, xa1⟩ := HXX.out (w4.alloc (.cells #[.slice KA K.length kc, .int .i64 o, .slice B T.length d] 27)) (HB4.out.alloc HB4.out.size _)
      go_wp2_with fail
      have HC5 := Lib.hid fun j => cell_new w4 #[.slice KA K.length kc, .int .i64 o, .slice B T.length d] 27 (b := w4.heap.size) j rfl
      have hz5 : w4.heap.size < (w4.alloc (.cells #[.slice KA K.length kc, .int .i64 o, .slice B T.length d] 27)).heap.size := by simp
      have HB5 : Hid (Below w4.heap.size w4 (w4.alloc (.cells #[.slice KA K.length kc, .int .i64 o, .slice B T.length d] 27))) := Lib.hid ((Below.refl _ _).alloc (Nat.le_refl _) _)
      generalize (w4.alloc (.cells #[.slice KA K.length kc, .int .i64 o, .slice B T.length d] 27)) = w5 at *
      have HCX : Hid (∀ W, Below w5.heap.size w5 W → W.cell? ⟨w4.heap.size, 0, none⟩ = some (.slice KA K.length kc) ∧ W.cell? ⟨w4.heap.size, 1, none⟩ = some (.int .i64 o) ∧ W.cell? ⟨w4.heap.size, 2, none⟩ = some (.slice B T.length d)) := Lib.hid fun W hW => ⟨(hW.cell (p := ⟨w4.heap.size, 0, none⟩) hz5).trans (HC5.out 0), (hW.cell (p := ⟨w4.heap.size, 1, none⟩) hz5).trans (HC5.out 1), (hW.cell (p := ⟨w4.heap.size, 2, none⟩) hz5).trans (HC5.out 2)⟩
      clear HC5 xa0 xa1
      refine (HFI.out w5 HB5.out).mono ?_
      rintro e w6 ⟨rfl, hb6⟩
      have HB6 := Lib.hid hb6
      have HB06 : Hid (Below w0.heap.size w0 w6) := Lib.hid (HB4.out.trans ((HB5.out.trans (hb6.mono HB5.out.size)).mono HB4.out.size))
      have hz6 : w5.heap.size ≤ w6.heap.size := hb6.size
      clear hb6 HFI
      have HT7 := Lib.hid fun j => cell_new w6 #[.int .i64 x0, .int .i64 x1, .int .i64 (f 0), .int .i64 (f 1), .int .i64 (f 2), .int .i64 (f 3), .int .i64 (f 4)] 42 (b := w6.heap.size) j rfl
      have hz7 : w6.heap.size < (w6.alloc (.cells #[.int .i64 x0, .int .i64 x1, .int .i64 (f 0), .int .i64 (f 1), .int .i64 (f 2), .int .i64 (f 3), .int .i64 (f 4)] 42)).heap.size := by simp
      have HB7 : Hid (Below w6.heap.size w6 (w6.alloc (.cells #[.int .i64 x0, .int .i64 x1, .int .i64 (f 0), .int .i64 (f 1), .int .i64 (f 2), .int .i64 (f 3), .int .i64 (f 4)] 42))) := Lib.hid ((Below.refl _ _).alloc (Nat.le_refl _) _)
      obtain ⟨xb0, xb1⟩ := HXX.out (w6.alloc (.cells #[.int .i64 x0, .int .i64 x1, .int .i64 (f 0), .int .i64 (f 1), .int .i64 (f 2), .int .i64 (f 3), .int .i64 (f 4)] 42)) (HB06.out.alloc HB06.out.size _)
      have hb57 : Below w5.heap.size w5 (w6.alloc (.cells #[.int .i64 x0, .int .i64 x1, .int .i64 (f 0), .int .i64 (f 1), .int .i64 (f 2), .int .i64 (f 3), .int .i64 (f 4)] 42)) := HB6.out.alloc hz6 _
      obtain ⟨cb0, cb1, cb2⟩ := HCX.out (w6.alloc (.cells #[.int .i64 x0, .int .i64 x1, .int .i64 (f 0), .int .i64 (f 1), .int .i64 (f 2), .int .i64 (f 3), .int .i64 (f 4)] 42)) hb57
      have HB57 := Lib.hid hb57
      clear hb57
      have hn0 : (x0 != x0) = false := by simp
      have hn1 : (x1 != x1) = false := by simp
      go_wp2_with fail
      generalize (w6.alloc (.cells #[.int .i64 x0, .int .i64 x1, .int .i64 (f 0), .int .i64 (f 1), .int .i64 (f 2), .int .i64 (f 3), .int .i64 (f 4)] 42)) = w7 at *
      have HTX : Hid (∀ W, Below w7.heap.size w7 W → W.cell? ⟨w6.heap.size, 0, none⟩ = some (.int .i64 x0) ∧ W.cell? ⟨w6.heap.size, 1, none⟩ = some (.int .i64 x1) ∧ W.cell? ⟨w6.heap.size, 2, none⟩ = some (.int .i64 (f 0)) ∧ W.cell? ⟨w6.heap.size, 3, none⟩ = some (.int .i64 (f 1)) ∧ W.cell? ⟨w6.heap.size, 4, none⟩ = some (.int .i64 (f 2)) ∧ W.cell? ⟨w6.heap.size, 5, none⟩ = some (.int .i64 (f 3)) ∧ W.cell? ⟨w6.heap.size, 6, none⟩ = some (.int .i64 (f 4))) := Lib.hid fun W hW => ⟨(hW.cell (p := ⟨w6.heap.size, 0, none⟩) hz7).trans (HT7.out 0), (hW.cell (p := ⟨w6.heap.size, 1, none⟩) hz7).trans (HT7.out 1), (hW.cell (p := ⟨w6.heap.size, 2, none⟩) hz7).trans (HT7.out 2), (hW.cell (p := ⟨w6.heap.size, 3, none⟩) hz7).trans (HT7.out 3), (hW.cell (p := ⟨w6.heap.size, 4, none⟩) hz7).trans (HT7.out 4), (hW.cell (p := ⟨w6.heap.size, 5, none⟩) hz7).trans (HT7.out 5), (hW.cell (p := ⟨w6.heap.size, 6, none⟩) hz7).trans (HT7.out 6)⟩
      clear HT7 xb0 xb1 cb0 cb1 cb2
      have HB07 : Hid (Below w0.heap.size w0 w7) := Lib.hid (HB06.out.trans (HB7.out.mono HB06.out.size))
      refine (HJ.out w7).mono ?_
      rintro e w8 ⟨rfl, hb8⟩
      have HB8 := Lib.hid hb8
      clear hb8 HJ HB6 HB06
      have HB9 : Hid (Below w7.heap.size w7 (w8.alloc (.cells #[.slice none 0 0, .int .i64 0, .slice none 0 0] 27))) := Lib.hid (HB8.out.alloc HB8.out.size _)
      obtain ⟨cc0, cc1, cc2⟩ := HCX.out (w8.alloc (.cells #[.slice none 0 0, .int .i64 0, .slice none 0 0] 27)) (HB57.out.trans (HB9.out.mono HB57.out.size))
      go_wp2_with fail
      generalize (w8.alloc (.cells #[.slice none 0 0, .int .i64 0, .slice none 0 0] 27)) = w9 at *
      refine (HLF.out w9).mono ?_
      rintro e w10 ⟨rfl, hb10⟩
      have HB10 : Hid (Below w7.heap.size w7 w10) := Lib.hid (HB9.out.trans (hb10.mono HB9.out.size))
      clear hb10 HLF HB8 HB9 HCX cc0 cc1 cc2
      have HB010 : Hid (Below w0.heap.size w0 w10) := Lib.hid (HB07.out.trans (HB10.out.mono HB07.out.size))
      obtain ⟨xc0, xc1⟩ := HXX.out w10 HB010.out
      have HRC := Lib.hid (HRW.out w10 (HB0.out.trans (HB010.out.mono HB0.out.size)))
      go_wp2_with fail
      refine HRC.out.mono ?_
      rintro e w11 ⟨f2, rfl, hf2, hb11⟩
      have HF2 := Lib.hid hf2
      have HB11 : Hid (Below w7.heap.size w7 w11) := Lib.hid (HB10.out.trans (hb11.mono HB10.out.size))
      clear hf2 hb11 HRC HRW xc0 xc1 HB10
      unfold rowV
      have HB12 : Hid (Below w7.heap.size w7 (w11.alloc (.cells #[.int .i64 (f2 0), .int .i64 (f2 1), .int .i64 (f2 2), .int .i64 (f2 3), .int .i64 (f2 4)] 35))) := Lib.hid (HB11.out.alloc HB11.out.size _)
      obtain ⟨t0, t1, t2, t3, t4, t5, t6⟩ := HTX.out (w11.alloc (.cells #[.int .i64 (f2 0), .int .i64 (f2 1), .int .i64 (f2 2), .int .i64 (f2 3), .int .i64 (f2 4)] 35)) HB12.out
      have HFC := Lib.hid fun j => cell_new w11 #[.int .i64 (f2 0), .int .i64 (f2 1), .int .i64 (f2 2), .int .i64 (f2 3), .int .i64 (f2 4)] 35 (b := w11.heap.size) j rfl
      have hz12 : w11.heap.size < (w11.alloc (.cells #[.int .i64 (f2 0), .int .i64 (f2 1), .int .i64 (f2 2), .int .i64 (f2 3), .int .i64 (f2 4)] 35)).heap.size := by simp
      have hz7w : w6.heap.size < (w11.alloc (.cells #[.int .i64 (f2 0), .int .i64 (f2 1), .int .i64 (f2 2), .int .i64 (f2 3), .int .i64 (f2 4)] 35)).heap.size := Nat.lt_of_lt_of_le hz7 HB12.out.size
      have HAX : Hid (∀ W, Below (w11.alloc (.cells #[.int .i64 (f2 0), .int .i64 (f2 1), .int .i64 (f2 2), .int .i64 (f2 3), .int .i64 (f2 4)] 35)).heap.size (w11.alloc (.cells #[.int .i64 (f2 0), .int .i64 (f2 1), .int .i64 (f2 2), .int .i64 (f2 3), .int .i64 (f2 4)] 35)) W → Calls Try.prog 7 #[] W fun e w' => e = .returned (.bool true) ∧ Below W.heap.size W w') := Lib.hid fun W _ => HAW.out W
      have HRX : Hid (∀ W, Below (w11.alloc (.cells #[.int .i64 (f2 0), .int .i64 (f2 1), .int .i64 (f2 2), .int .i64 (f2 3), .int .i64 (f2 4)] 35)).heap.size (w11.alloc (.cells #[.int .i64 (f2 0), .int .i64 (f2 1), .int .i64 (f2 2), .int .i64 (f2 3), .int .i64 (f2 4)] 35)) W → Calls Try.prog 14 #[.agg #[.int .i64 x0, .int .i64 x1, .int .i64 (f 0), .int .i64 (f 1), .int .i64 (f 2), .int .i64 (f 3), .int .i64 (f 4)]] W fun e w' => e = .returned (.agg #[.int .i64 (f 0), .int .i64 (f 1), .int .i64 (f 2), .int .i64 (f 3), .int .i64 (f 4)]) ∧ Below W.heap.size W w') := Lib.hid fun W _ => row_any ⟨(x0, x1), f 0, f 1, f 2, f 3, f 4⟩ W
      have HBX : Hid (Below w.heap.size w (w11.alloc (.cells #[.int .i64 (f2 0), .int .i64 (f2 1), .int .i64 (f2 2), .int .i64 (f2 3), .int .i64 (f2 4)] 35))) := Lib.hid (HB0.out.trans ((HB07.out.trans (HB12.out.mono HB07.out.size)).mono HB0.out.size))
      have hbel := fun (n : Bel (w11.alloc (.cells #[.int .i64 (f2 0), .int .i64 (f2 1), .int .i64 (f2 2), .int .i64 (f2 3), .int .i64 (f2 4)] 35)).heap.size (w11.alloc (.cells #[.int .i64 (f2 0), .int .i64 (f2 1), .int .i64 (f2 2), .int .i64 (f2 3), .int .i64 (f2 4)] 35))) (b o : Nat) (hb : b < (w11.alloc (.cells #[.int .i64 (f2 0), .int .i64 (f2 1), .int .i64 (f2 2), .int .i64 (f2 3), .int .i64 (f2 4)] 35)).heap.size) => n.cells b o hb
      by_cases he : err = 0
      · obtain ⟨hfg, hok⟩ := HFE.out he
        have hg := fun j hj => (HF2.out hok j hj).trans (congrFun hfg j).symm
        rw [hok]
        have g0 := hg 0 (by omega)
        have g1 := hg 1 (by omega)
        have g2 := hg 2 (by omega)
        have g3 := hg 3 (by omega)
        have g4 := hg 4 (by omega)
        rw [g0, g1, g2, g3, g4] at hbel HFC HAX HRX HBX HB12 t0 t1 t2 t3 t4 t5 t6 hz12 hz7w ⊢
        subst he
        clear hg g0 g1 g2 g3 g4 hok hfg HF2 HFE HB11 HTX
        have hee := fun W => eq5_run (f 0) (f 1) (f 2) (f 3) (f 4) (f 0) (f 1) (f 2) (f 3) (f 4) W
        simp only [beq_self_eq_true, Bool.and_self] at hee
        generalize f 0 = a0 at *
        generalize f 1 = a1 at *
        generalize f 2 = a2 at *
        generalize f 3 = a3 at *
        generalize f 4 = a4 at *
        go_wp2_with fail
        have k0 : (w11.alloc (.cells #[.int .i64 a0, .int .i64 a1, .int .i64 a2, .int .i64 a3, .int .i64 a4] 35)).cell? ⟨w11.heap.size, 0, none⟩ = some (.int .i64 a0) := HFC.out 0
        have k1 : (w11.alloc (.cells #[.int .i64 a0, .int .i64 a1, .int .i64 a2, .int .i64 a3, .int .i64 a4] 35)).cell? ⟨w11.heap.size, 1, none⟩ = some (.int .i64 a1) := HFC.out 1
        have k2 : (w11.alloc (.cells #[.int .i64 a0, .int .i64 a1, .int .i64 a2, .int .i64 a3, .int .i64 a4] 35)).cell? ⟨w11.heap.size, 2, none⟩ = some (.int .i64 a2) := HFC.out 2
        have k3 : (w11.alloc (.cells #[.int .i64 a0, .int .i64 a1, .int .i64 a2, .int .i64 a3, .int .i64 a4] 35)).cell? ⟨w11.heap.size, 3, none⟩ = some (.int .i64 a3) := HFC.out 3
        have k4 : (w11.alloc (.cells #[.int .i64 a0, .int .i64 a1, .int .i64 a2, .int .i64 a3, .int .i64 a4] 35)).cell? ⟨w11.heap.size, 4, none⟩ = some (.int .i64 a4) := HFC.out 4
        clear HFC
        generalize (w11.alloc (.cells #[.int .i64 a0, .int .i64 a1, .int .i64 a2, .int .i64 a3, .int .i64 a4] 35)) = w12 at *
        refine wp_region_bel w12.heap.size (by kernel_rfl) (by kernel_rfl) ?_
        repeat (go_big_quiet_step (first | (go_at_call 7; (with_reducible exact Calls.bel_of (Nat.le_refl _) (HAX.out _ (Bel.h _)))) | (go_at_call 14; (with_reducible exact Calls.bel_of (Nat.le_refl _) (HRX.out _ (Bel.h _))))))
        refine wpQuiet_nil ?_
        intro _ hw'
        obtain ⟨nq, hw''⟩ := hw'
        subst hw''
        have HN : Hid (Below w.heap.size w nq.wd) := Lib.hid (HBX.out.trans (nq.h.mono HBX.out.size))
        clear hbel
        go_wp2_with fail
        go_ret
        exact ⟨rfl, HN.out⟩
      · have hne : (err != 0) = true := by simpa using he
        clear he HF2 HFE HB11 HTX
        generalize okR (gE l (x0, x1)) = ok at *
        generalize f 0 = a0 at *
        generalize f 1 = a1 at *
        generalize f 2 = a2 at *
        generalize f 3 = a3 at *
        generalize f 4 = a4 at *
        generalize f2 0 = b0 at *
        generalize f2 1 = b1 at *
        generalize f2 2 = b2 at *
        generalize f2 3 = b3 at *
        generalize f2 4 = b4 at *
        go_wp2_with fail
        have k0 : (w11.alloc (.cells #[.int .i64 b0, .int .i64 b1, .int .i64 b2, .int .i64 b3, .int .i64 b4] 35)).cell? ⟨w11.heap.size, 0, none⟩ = some (.int .i64 b0) := HFC.out 0
        have k1 : (w11.alloc (.cells #[.int .i64 b0, .int .i64 b1, .int .i64 b2, .int .i64 b3, .int .i64 b4] 35)).cell? ⟨w11.heap.size, 1, none⟩ = some (.int .i64 b1) := HFC.out 1
        have k2 : (w11.alloc (.cells #[.int .i64 b0, .int .i64 b1, .int .i64 b2, .int .i64 b3, .int .i64 b4] 35)).cell? ⟨w11.heap.size, 2, none⟩ = some (.int .i64 b2) := HFC.out 2
        have k3 : (w11.alloc (.cells #[.int .i64 b0, .int .i64 b1, .int .i64 b2, .int .i64 b3, .int .i64 b4] 35)).cell? ⟨w11.heap.size, 3, none⟩ = some (.int .i64 b3) := HFC.out 3
        have k4 : (w11.alloc (.cells #[.int .i64 b0, .int .i64 b1, .int .i64 b2, .int .i64 b3, .int .i64 b4] 35)).cell? ⟨w11.heap.size, 4, none⟩ = some (.int .i64 b4) := HFC.out 4
        clear HFC
        generalize (w11.alloc (.cells #[.int .i64 b0, .int .i64 b1, .int .i64 b2, .int .i64 b3, .int .i64 b4] 35)) = w12 at *
        refine wp_region_bel w12.heap.size (by kernel_rfl) (by kernel_rfl) ?_
        repeat (go_big_quiet_step (first | (go_at_call 7; (with_reducible exact Calls.bel_of (Nat.le_refl _) (HAX.out _ (Bel.h _)))) | (go_at_call 14; (with_reducible exact Calls.bel_of (Nat.le_refl _) (HRX.out _ (Bel.h _))))))
        refine wpQuiet_nil ?_
        intro _ hw'
        obtain ⟨nq, hw''⟩ := hw'
        subst hw''
        have HN : Hid (Below w.heap.size w nq.wd) := Lib.hid (HBX.out.trans (nq.h.mono HBX.out.size))
        clear hbel
        go_wp2_with fail
        go_ret
        exact ⟨rfl, HN.out⟩
end Go.Proofs.Ytgkidjjijgegmaa
