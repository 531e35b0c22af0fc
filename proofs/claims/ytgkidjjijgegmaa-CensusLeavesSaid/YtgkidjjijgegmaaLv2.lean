/-
  What complinelaw37.CensusLeaves comes to, over this seat's translation. (Printed by gen_lv2.py.)
-/
import Derived.Test.YtgkidjjijgegmaaLv1
import Derived.Test.YtgkidjjijgegmaaCWF
import Derived.Test.YtgkidjjijgegmaaNotI
namespace Go.Proofs.Ytgkidjjijgegmaa
open Go.RowKit

theorem u8_nat {x : Int} (h : (Lit.int .u8 x).wf = true) : ∃ n : Nat, x = (n : Int) ∧ n < 256 := by
  have h1 : IntKind.u8.min = 0 := rfl
  have h2 : IntKind.u8.max = 255 := rfl
  simp only [Lit.wf, Bool.and_eq_true, decide_eq_true_eq, h1, h2] at h
  exact ⟨x.toNat, by omega, by omega⟩
theorem talF_amts {l : List Ev} {T : List Tl} (h : TalF (gE l) T) (hok : ∀ q, okR (gE l q) = true) : ∀ t ∈ T, I64 t.a ∧ I64 t.b ∧ I64 t.c := by
  intro t ht
  rw [h.val t ht]
  exact ⟨okR_at (hok t.q) (j := 0) (by omega), okR_at (hok t.q) (j := 1) (by omega), okR_at (hok t.q) (j := 2) (by omega)⟩
theorem seg_int_at {w : World} {B : Nat} {A : Option Addr} {l : List Int} (h : Seg w B A (l.map (Value.int .i64))) {k : Nat} (hk : k < l.length) : ∃ b o, A = some ⟨b, o, none⟩ ∧ b < B ∧ w.cell? ⟨b, o + k, none⟩ = some (.int .i64 l[k]) := by
  obtain ⟨b, o, e, hb, hc⟩ := h.at (k := k) (by simpa using hk)
  exact ⟨b, o, e, hb, by simpa using hc⟩

set_option maxRecDepth 100000 in
set_option maxHeartbeats 16000000 in
theorem leaves_law (l : List Ev) (A : Option Addr) (c : Nat) (secs : Nat) (hsecs : secs < 256) (w : World) (hs : Seg w w.heap.size A (evRows l)) (hI : ∀ x ∈ l, EvOk x) (_hl : l.length ≤ maxLen) :
    Calls Try.prog 4 #[.slice A l.length c, .int .u8 (secs : Int)] w fun e w' => e = .returned (.bool true) ∧ Below w.heap.size w w' := by
  have HS := Lib.hid hs
  have HI := Lib.hid hI
  have HAW : Hid (∀ W, Calls Try.prog 7 #[] W fun e w' => e = .returned (.bool true) ∧ Below W.heap.size W w') := Lib.hid awake_any
  clear hs hI
  by_cases hbig : 40 < l.length
  · have hd : decide ((40 : Int) < (l.length : Int)) = true := decide_eq_true (by omega)
    go_enter Try.func4, Try.ntmps4
    go_wp2_with (go_at_call 7; refine (HAW.out _).mono ?_; rintro e w9 ⟨rfl, hb9⟩; have HB9 := Lib.hid hb9; clear hb9)
    go_ret
    exact ⟨rfl, HB9.out⟩
  have hd : decide ((40 : Int) < (l.length : Int)) = false := decide_eq_false (by omega)
  have HOF := Lib.hid (of_any l A c w HS.out HI.out (by omega))
  go_enter Try.func4, Try.ntmps4
  go_wp2_with fail
  refine HOF.out.mono ?_
  rintro e w2 ⟨K, o, T, err, v, hR, rfl, ⟨KA, kc, B, d, rfl, hK, hT⟩, hb2⟩
  have HB2 := Lib.hid hb2
  have HT2 := Lib.hid hT
  clear hK hT hb2 HOF
  have HB23 : Hid (Below w2.heap.size w2 (w2.alloc (.cells #[.slice KA K.length kc, .int .i64 o, .slice B T.length d] 27))) := Lib.hid ((Below.refl _ _).alloc (Nat.le_refl _) _)
  have HB3 : Hid (Below w.heap.size w (w2.alloc (.cells #[.slice KA K.length kc, .int .i64 o, .slice B T.length d] 27))) := Lib.hid (HB2.out.trans (HB23.out.mono HB2.out.size))
  have HCB := Lib.hid fun j => cell_new w2 #[.slice KA K.length kc, .int .i64 o, .slice B T.length d] 27 (b := w2.heap.size) j rfl
  by_cases herr : err = 0
  case neg =>
    have hbe : (err != 0) = true := by simpa using herr
    clear herr hR
    go_wp2_with (go_at_call 7; refine (HAW.out _).mono ?_; rintro e w9 ⟨rfl, hb9⟩; have HB9 := Lib.hid hb9; clear hb9)
    go_ret
    exact ⟨rfl, HB3.out.trans (HB9.out.mono HB3.out.size)⟩
  have HTF : Hid (TalF (gE l) T ∧ (∀ q, okR (gE l q) = true)) := Lib.hid (by
    rcases hR with ⟨_, _, _, _, h⟩ | ⟨_, _, _, _, _, h⟩ | ⟨_, h1, _, _, h2, _⟩
    · omega
    · omega
    · exact ⟨h2, h1⟩)
  subst herr
  clear hR
  have htl := talF_len HTF.out.1
  have htl2 : T.length ≤ 40 := by omega
  have HLW : Hid (∀ a : Int, sumI (leftL T a) = sumI (wantL l a)) := Lib.hid (left_want (fun x hx => (HI.out x hx).2.2.2.1) (fun t ht => (talF_amts HTF.out.1 HTF.out.2 t ht).2.1) HTF.out.1)
  have HAM := Lib.hid (talF_amts HTF.out.1 HTF.out.2)
  clear HTF
  obtain ⟨s, HSS⟩ : ∃ s, Hid (s = secs % 9) := ⟨_, Lib.hid rfl⟩
  have hs8 : s ≤ 8 := by have := HSS.out; omega
  have hsm : (secs : Int) % 9 = (s : Int) := by have := HSS.out; omega
  have hsw : IntKind.u8.wrap (s : Int) = (s : Int) := by simp only [IntKind.wrap, IntKind.bits, IntKind.signed]; simp; omega
  have hst : (secs : Int).tmod 9 = (s : Int) := by rw [Int.tmod_eq_emod_of_nonneg (by omega)]; exact hsm
  have hsi : IntKind.i64.wrap (s : Int) = (s : Int) := IntWalk.i64_in _ (by omega)
  obtain ⟨n, HN⟩ : ∃ n, Hid (n = s + 1) := ⟨_, Lib.hid rfl⟩
  have hn9 : n ≤ 9 := by have := HN.out; omega
  have hws : IntKind.i64.wrap ((s : Int) + 1) = (n : Int) := by have := HN.out; rw [this]; exact IntWalk.i64_in _ (by omega)
  have HLC : Hid (∀ W, Below w2.heap.size w2 W → Calls Try.prog 16 #[.agg #[.slice KA K.length kc, .int .i64 o, .slice B T.length d], .int .i64 (s : Int)] W (GotLf T n W)) := Lib.hid fun W hW => left_any KA K.length kc o T B d s n HN.out hs8 W ((HT2.out.below hW).mono hW.size) HAM.out (by omega)
  have g0 : (w2.alloc (.cells #[.slice KA K.length kc, .int .i64 o, .slice B T.length d] 27)).cell? ⟨w2.heap.size, 0, none⟩ = some (.slice KA K.length kc) := HCB.out 0
  have g1 : (w2.alloc (.cells #[.slice KA K.length kc, .int .i64 o, .slice B T.length d] 27)).cell? ⟨w2.heap.size, 1, none⟩ = some (.int .i64 o) := HCB.out 1
  have g2 : (w2.alloc (.cells #[.slice KA K.length kc, .int .i64 o, .slice B T.length d] 27)).cell? ⟨w2.heap.size, 2, none⟩ = some (.slice B T.length d) := HCB.out 2
  go_wp2_with fail
  clear g0 g1 g2 HCB HAM HT2
  have HL3 := Lib.hid (HLC.out _ HB23.out)
  generalize w2.alloc (.cells #[.slice KA K.length kc, .int .i64 o, .slice B T.length d] 27) = w3 at *
  refine HL3.out.mono ?_
  rintro e w4 ⟨hb4, hcase⟩
  have HB4 : Hid (Below w.heap.size w w4) := Lib.hid (HB3.out.trans (hb4.mono HB3.out.size))
  clear hb4 HL3 HLC HB23 HB3 HB2
  obtain ⟨u8, u9, rfl, HU⟩ : ∃ (u8 : Value) (u9 : Int), e = .returned (.tuple #[u8, .int .i64 u9]) ∧ Hid ((u9 = 0 ∧ lfOk (wantL l) n = true ∧ ∃ A c, u8 = .slice A n c ∧ Seg w4 w4.heap.size A ((lfL (wantL l) n).map (Value.int .i64))) ∨ (u9 = 2 ∧ lfOk (wantL l) n = false ∧ u8 = .slice none 0 0)) := by
    rcases hcase with ⟨h1, A, c, rfl, h2⟩ | ⟨h1, rfl⟩
    · exact ⟨_, _, rfl, Lib.hid (.inl ⟨rfl, by rw [← lfOk_congr HLW.out]; exact h1, A, c, rfl, by rw [← lfL_congr HLW.out]; exact h2⟩)⟩
    · exact ⟨_, _, rfl, Lib.hid (.inr ⟨rfl, by rw [← lfOk_congr HLW.out]; exact h1, rfl⟩)⟩
  clear hcase HLW
  go_wp2_with fail
  go_loopw [10, 11, 12, 13, 14, 15, 16] (fun u f i _ _ _ _ wr => ∃ m : Nat, m ≤ n ∧ i = .int .i64 m ∧ f = .bool (lfOk (wantL l) m) ∧ Hid (wr.ownsRow w4.heap.size 2 1 u (lfL (wantL l) m).length ((lfL (wantL l) m).map (Value.int .i64))) ∧ Hid (Below w4.heap.size w4 wr)) (fun _ _ i _ _ _ _ _ => n - (intOf i).toNat)
  case atStart => exact ⟨0, Nat.zero_le _, rfl, rfl, World.ownsRow_nil _ _ _ _, Below.refl _ _⟩
  case round =>
    obtain ⟨m, hm, rfl, rfl, HO, HB⟩ := hrel
    have hsz := HB.out.size
    by_cases hmn : m < n
    · have hms : decide ((m : Int) ≤ (s : Int)) = true := decide_eq_true (by have := HN.out; omega)
      have hmn' : decide (m ≤ s) = true := decide_eq_true (by have := HN.out; omega)
      have HWB : Hid (Below w.heap.size w wr) := Lib.hid (HB4.out.trans (HB.out.mono HB4.out.size))
      go_wp2_with fail
      generalize wr = wv at *
      go_loopw [13, 14] (fun u i wr => ∃ k : Nat, k ≤ l.length ∧ i = .int .i64 k ∧ Hid (wr.ownsRow wv.heap.size 2 1 u (wantL (l.take k) (m : Int)).length ((wantL (l.take k) (m : Int)).map (Value.int .i64))) ∧ Hid (Below wv.heap.size wv wr)) (fun _ i _ => l.length - (intOf i).toNat)
      case atStart => exact ⟨0, Nat.zero_le _, rfl, World.ownsRow_nil _ _ _ _, Below.refl _ _⟩
      case round =>
        obtain ⟨k, hk, rfl, HOI, HBI⟩ := hrel
        have hszi := HBI.out.size
        by_cases hlt : k < l.length
        · obtain ⟨b, o', rfl, hb, e0, e1, e2, e3, e4⟩ := ev_at (HS.out.below (HWB.out.trans (HBI.out.mono HWB.out.size))) hlt
          have HX := Lib.hid (HI.out _ (List.getElem_mem hlt))
          have HWS := Lib.hid (wantL_snoc hlt (m : Int))
          have hyl : (wantL (l.take k) (m : Int)).length ≤ 80 := by have := wantL_len (l.take k) (m : Int); rw [List.length_take] at this; omega
          obtain ⟨x, hx⟩ : ∃ x, x = l[k] := ⟨_, rfl⟩
          rw [← hx] at e0 e1 e2 e3 e4 HX HWS
          have HAS : Hid (∀ W, Calls Try.prog 12 #[x.val] W fun e w' => e = .returned (.int .i64 (sideE x).2) ∧ Below W.heap.size W w') := Lib.hid fun W => asset_any x W
          clear hx
          obtain ⟨sx, hsxx⟩ : ∃ sx, sx = (sideE x).2 := ⟨_, rfl⟩
          rw [← hsxx] at HAS HWS
          clear hsxx
          obtain ⟨xk, xm, xa, xn, xo⟩ := x
          unfold wantP at HWS
          unfold Ev.val at HAS
          simp only at e0 e1 e2 e3 e4 HWS HAS
          obtain ⟨ys, HYS⟩ : ∃ ys, Hid (ys = wantL (l.take k) (m : Int)) := ⟨_, Lib.hid rfl⟩
          obtain ⟨zs, HZS⟩ : ∃ zs, Hid (zs = wantL (l.take (k + 1)) (m : Int)) := ⟨_, Lib.hid rfl⟩
          rw [← HYS.out] at HOI hyl HWS
          rw [← HZS.out] at HWS
          clear HYS
          have hk0 : (0 : Int) ≤ (k : Int) := by omega
          have hkb : (k : Int) < (l.length : Int) := by omega
          have hbw : b < wr.heap.size := Nat.lt_of_lt_of_le hb (Nat.le_trans HWB.out.size hszi)
          obtain ⟨i0, hi0, hz0', hz1', hz2'⟩ := info_parts i64_infoL
          by_cases hsx : sx = (m : Int)
          case neg =>
            have bas : (sx != (m : Int)) = true := by simpa using hsx
            have HZ : Hid (zs = ys) := Lib.hid (by rw [HWS.out, if_neg hsx])
            clear hsx HWS HX
            go_wp2_with (go_at_call 12; refine (HAS.out _).mono ?_; rintro e w5 ⟨rfl, hb5⟩; have HB5 : Hid (Below wr.heap.size wr w5) := Lib.hid hb5; have f0 := (hb5.cell (p := ⟨b, o' + k * 5, none⟩) hbw).trans e0; have f3 := (hb5.cell (p := ⟨b, o' + k * 5 + 3, none⟩) hbw).trans e3; have HO5 := Lib.hid (own_below HOI.out hb5); clear hb5)
            have HB6 : Hid (Below wv.heap.size wv w5) := Lib.hid (HBI.out.trans (HB5.out.mono hszi))
            clear HB5 f0 f3
            go_roundw
            case rel => exact ⟨k + 1, by omega, by go_num, by rw [← HZS.out, HZ.out]; exact HO5.out, HB6.out⟩
            case measure => simp [intOf]; omega
          have bas : (sx != (m : Int)) = false := by simpa using hsx
          have HWT := Lib.hid (HWS.out.trans (if_pos hsx))
          clear HWS hsx
          by_cases h5 : xk = 5
          · have b5 : (xk == 5) = true := by simpa using h5
            have b12 : (xk == 12) = false := by rw [h5]; rfl
            have b6 : (xk == 6) = false := by rw [h5]; rfl
            have b13 : (xk == 13) = false := by rw [h5]; rfl
            have b19 : (xk == 19) = false := by rw [h5]; rfl
            have HZ : Hid (zs = ys ++ [xn]) := Lib.hid (by rw [HWT.out, if_pos (by omega)])
            clear HWT h5
            have hnb := not_bits xn HX.out.2.2.2.1
            go_wp2_with (first | (go_at_call 12; refine (HAS.out _).mono ?_; rintro e w5 ⟨rfl, hb5⟩; have HB5 : Hid (Below wr.heap.size wr w5) := Lib.hid hb5; have f0 := (hb5.cell (p := ⟨b, o' + k * 5, none⟩) hbw).trans e0; have f3 := (hb5.cell (p := ⟨b, o' + k * 5 + 3, none⟩) hbw).trans e3; have HO5 := Lib.hid (own_below HOI.out hb5); clear hb5) | (at_builtin; go_must (refine wpList_append_own _ rfl _ _ 45 rfl wv.heap.size 2 i0 _ 1 8 Try.underlying45 hi0 hz0' hz1' hz2' rfl (by decide) _ ys.length (ys.map (Value.int .i64)) rfl (HO5.out.alloc _) ⟨w5.heap.size, 0, none⟩ 1 1 [.int .i64 xn] rfl rfl (new_cells _ _ #[_] rfl) one_int (by simp only [maxLen]; omega) (by omega) (by have := HB5.out.size; simp; omega) ?_)))
            intro v' w6 hown6 hgr6 _
            have HB6 : Hid (Below wv.heap.size wv w6) := Lib.hid (((HBI.out.trans (HB5.out.mono hszi)).alloc (Nat.le_trans hszi HB5.out.size) _).grown hgr6 (Nat.le_trans hszi (Nat.le_trans HB5.out.size (by simp))) (fun j hj => own_base HO5.out j hj))
            have HO6 : Hid (w6.ownsRow wv.heap.size 2 1 v' zs.length (zs.map (Value.int .i64))) := Lib.hid (by rw [HZ.out, List.map_append, List.length_append]; exact hown6)
            clear hown6 hgr6 HO5 HB5 f0 f3
            go_wp2_with fail
            go_roundw
            case rel => exact ⟨k + 1, by omega, by go_num, by rw [← HZS.out]; exact HO6.out, HB6.out⟩
            case measure => simp [intOf]; omega
          have b5 : (xk == 5) = false := by simpa using h5
          by_cases h12 : xk = 12
          · have b12 : (xk == 12) = true := by simpa using h12
            have b6 : (xk == 6) = false := by rw [h12]; rfl
            have b13 : (xk == 13) = false := by rw [h12]; rfl
            have b19 : (xk == 19) = false := by rw [h12]; rfl
            have HZ : Hid (zs = ys ++ [xn]) := Lib.hid (by rw [HWT.out, if_pos (by omega)])
            clear HWT h12
            have hnb := not_bits xn HX.out.2.2.2.1
            go_wp2_with (first | (go_at_call 12; refine (HAS.out _).mono ?_; rintro e w5 ⟨rfl, hb5⟩; have HB5 : Hid (Below wr.heap.size wr w5) := Lib.hid hb5; have f0 := (hb5.cell (p := ⟨b, o' + k * 5, none⟩) hbw).trans e0; have f3 := (hb5.cell (p := ⟨b, o' + k * 5 + 3, none⟩) hbw).trans e3; have HO5 := Lib.hid (own_below HOI.out hb5); clear hb5) | (at_builtin; go_must (refine wpList_append_own _ rfl _ _ 45 rfl wv.heap.size 2 i0 _ 1 8 Try.underlying45 hi0 hz0' hz1' hz2' rfl (by decide) _ ys.length (ys.map (Value.int .i64)) rfl (HO5.out.alloc _) ⟨w5.heap.size, 0, none⟩ 1 1 [.int .i64 xn] rfl rfl (new_cells _ _ #[_] rfl) one_int (by simp only [maxLen]; omega) (by omega) (by have := HB5.out.size; simp; omega) ?_)))
            intro v' w6 hown6 hgr6 _
            have HB6 : Hid (Below wv.heap.size wv w6) := Lib.hid (((HBI.out.trans (HB5.out.mono hszi)).alloc (Nat.le_trans hszi HB5.out.size) _).grown hgr6 (Nat.le_trans hszi (Nat.le_trans HB5.out.size (by simp))) (fun j hj => own_base HO5.out j hj))
            have HO6 : Hid (w6.ownsRow wv.heap.size 2 1 v' zs.length (zs.map (Value.int .i64))) := Lib.hid (by rw [HZ.out, List.map_append, List.length_append]; exact hown6)
            clear hown6 hgr6 HO5 HB5 f0 f3
            go_wp2_with fail
            go_roundw
            case rel => exact ⟨k + 1, by omega, by go_num, by rw [← HZS.out]; exact HO6.out, HB6.out⟩
            case measure => simp [intOf]; omega
          have b12 : (xk == 12) = false := by simpa using h12
          by_cases h6 : xk = 6
          · have b6 : (xk == 6) = true := by simpa using h6
            have b13 : (xk == 13) = false := by rw [h6]; rfl
            have b19 : (xk == 19) = false := by rw [h6]; rfl
            have HZ : Hid (zs = ys ++ [-xn - 1, 1]) := Lib.hid (by rw [HWT.out, if_neg (by omega), if_pos (by omega)])
            clear HWT h6
            have hnb := not_bits xn HX.out.2.2.2.1
            go_wp2_with (first | (go_at_call 12; refine (HAS.out _).mono ?_; rintro e w5 ⟨rfl, hb5⟩; have HB5 : Hid (Below wr.heap.size wr w5) := Lib.hid hb5; have f0 := (hb5.cell (p := ⟨b, o' + k * 5, none⟩) hbw).trans e0; have f3 := (hb5.cell (p := ⟨b, o' + k * 5 + 3, none⟩) hbw).trans e3; have HO5 := Lib.hid (own_below HOI.out hb5); clear hb5) | (at_builtin; go_must (refine wpList_append_own _ rfl _ _ 45 rfl wv.heap.size 2 i0 _ 1 8 Try.underlying45 hi0 hz0' hz1' hz2' rfl (by decide) _ ys.length (ys.map (Value.int .i64)) rfl (HO5.out.alloc _) ⟨w5.heap.size, 0, none⟩ 2 2 [.int .i64 (-xn - 1), .int .i64 1] rfl rfl (by rw [show bits .xor .i64 (if IntKind.i64.signed = true then -1 else 9223372036854775807) xn = -xn - 1 from hnb]; exact new_cells _ _ #[_, _] rfl) (by intro u hu; simp at hu; rcases hu with rfl | rfl <;> rfl) (by simp only [maxLen]; omega) (by omega) (by have := HB5.out.size; simp; omega) ?_)))
            intro v' w6 hown6 hgr6 _
            have HB6 : Hid (Below wv.heap.size wv w6) := Lib.hid (((HBI.out.trans (HB5.out.mono hszi)).alloc (Nat.le_trans hszi HB5.out.size) _).grown hgr6 (Nat.le_trans hszi (Nat.le_trans HB5.out.size (by simp))) (fun j hj => own_base HO5.out j hj))
            have HO6 : Hid (w6.ownsRow wv.heap.size 2 1 v' zs.length (zs.map (Value.int .i64))) := Lib.hid (by rw [HZ.out, List.map_append, List.length_append]; exact hown6)
            clear hown6 hgr6 HO5 HB5 f0 f3
            go_wp2_with fail
            go_roundw
            case rel => exact ⟨k + 1, by omega, by go_num, by rw [← HZS.out]; exact HO6.out, HB6.out⟩
            case measure => simp [intOf]; omega
          have b6 : (xk == 6) = false := by simpa using h6
          by_cases h13 : xk = 13
          · have b13 : (xk == 13) = true := by simpa using h13
            have b19 : (xk == 19) = false := by rw [h13]; rfl
            have HZ : Hid (zs = ys ++ [-xn - 1, 1]) := Lib.hid (by rw [HWT.out, if_neg (by omega), if_pos (by omega)])
            clear HWT h13
            have hnb := not_bits xn HX.out.2.2.2.1
            go_wp2_with (first | (go_at_call 12; refine (HAS.out _).mono ?_; rintro e w5 ⟨rfl, hb5⟩; have HB5 : Hid (Below wr.heap.size wr w5) := Lib.hid hb5; have f0 := (hb5.cell (p := ⟨b, o' + k * 5, none⟩) hbw).trans e0; have f3 := (hb5.cell (p := ⟨b, o' + k * 5 + 3, none⟩) hbw).trans e3; have HO5 := Lib.hid (own_below HOI.out hb5); clear hb5) | (at_builtin; go_must (refine wpList_append_own _ rfl _ _ 45 rfl wv.heap.size 2 i0 _ 1 8 Try.underlying45 hi0 hz0' hz1' hz2' rfl (by decide) _ ys.length (ys.map (Value.int .i64)) rfl (HO5.out.alloc _) ⟨w5.heap.size, 0, none⟩ 2 2 [.int .i64 (-xn - 1), .int .i64 1] rfl rfl (by rw [show bits .xor .i64 (if IntKind.i64.signed = true then -1 else 9223372036854775807) xn = -xn - 1 from hnb]; exact new_cells _ _ #[_, _] rfl) (by intro u hu; simp at hu; rcases hu with rfl | rfl <;> rfl) (by simp only [maxLen]; omega) (by omega) (by have := HB5.out.size; simp; omega) ?_)))
            intro v' w6 hown6 hgr6 _
            have HB6 : Hid (Below wv.heap.size wv w6) := Lib.hid (((HBI.out.trans (HB5.out.mono hszi)).alloc (Nat.le_trans hszi HB5.out.size) _).grown hgr6 (Nat.le_trans hszi (Nat.le_trans HB5.out.size (by simp))) (fun j hj => own_base HO5.out j hj))
            have HO6 : Hid (w6.ownsRow wv.heap.size 2 1 v' zs.length (zs.map (Value.int .i64))) := Lib.hid (by rw [HZ.out, List.map_append, List.length_append]; exact hown6)
            clear hown6 hgr6 HO5 HB5 f0 f3
            go_wp2_with fail
            go_roundw
            case rel => exact ⟨k + 1, by omega, by go_num, by rw [← HZS.out]; exact HO6.out, HB6.out⟩
            case measure => simp [intOf]; omega
          have b13 : (xk == 13) = false := by simpa using h13
          by_cases h19 : xk = 19
          · have b19 : (xk == 19) = true := by simpa using h19
            have HZ : Hid (zs = ys ++ [-xn - 1, 1]) := Lib.hid (by rw [HWT.out, if_neg (by omega), if_pos (by omega)])
            clear HWT h19
            have hnb := not_bits xn HX.out.2.2.2.1
            go_wp2_with (first | (go_at_call 12; refine (HAS.out _).mono ?_; rintro e w5 ⟨rfl, hb5⟩; have HB5 : Hid (Below wr.heap.size wr w5) := Lib.hid hb5; have f0 := (hb5.cell (p := ⟨b, o' + k * 5, none⟩) hbw).trans e0; have f3 := (hb5.cell (p := ⟨b, o' + k * 5 + 3, none⟩) hbw).trans e3; have HO5 := Lib.hid (own_below HOI.out hb5); clear hb5) | (at_builtin; go_must (refine wpList_append_own _ rfl _ _ 45 rfl wv.heap.size 2 i0 _ 1 8 Try.underlying45 hi0 hz0' hz1' hz2' rfl (by decide) _ ys.length (ys.map (Value.int .i64)) rfl (HO5.out.alloc _) ⟨w5.heap.size, 0, none⟩ 2 2 [.int .i64 (-xn - 1), .int .i64 1] rfl rfl (by rw [show bits .xor .i64 (if IntKind.i64.signed = true then -1 else 9223372036854775807) xn = -xn - 1 from hnb]; exact new_cells _ _ #[_, _] rfl) (by intro u hu; simp at hu; rcases hu with rfl | rfl <;> rfl) (by simp only [maxLen]; omega) (by omega) (by have := HB5.out.size; simp; omega) ?_)))
            intro v' w6 hown6 hgr6 _
            have HB6 : Hid (Below wv.heap.size wv w6) := Lib.hid (((HBI.out.trans (HB5.out.mono hszi)).alloc (Nat.le_trans hszi HB5.out.size) _).grown hgr6 (Nat.le_trans hszi (Nat.le_trans HB5.out.size (by simp))) (fun j hj => own_base HO5.out j hj))
            have HO6 : Hid (w6.ownsRow wv.heap.size 2 1 v' zs.length (zs.map (Value.int .i64))) := Lib.hid (by rw [HZ.out, List.map_append, List.length_append]; exact hown6)
            clear hown6 hgr6 HO5 HB5 f0 f3
            go_wp2_with fail
            go_roundw
            case rel => exact ⟨k + 1, by omega, by go_num, by rw [← HZS.out]; exact HO6.out, HB6.out⟩
            case measure => simp [intOf]; omega
          have b19 : (xk == 19) = false := by simpa using h19
          have HZ : Hid (zs = ys) := Lib.hid (by rw [HWT.out, if_neg (by omega), if_neg (by omega), List.append_nil])
          clear HWT h5 h12 h6 h13 h19
          go_wp2_with (go_at_call 12; refine (HAS.out _).mono ?_; rintro e w5 ⟨rfl, hb5⟩; have HB5 : Hid (Below wr.heap.size wr w5) := Lib.hid hb5; have f0 := (hb5.cell (p := ⟨b, o' + k * 5, none⟩) hbw).trans e0; have f3 := (hb5.cell (p := ⟨b, o' + k * 5 + 3, none⟩) hbw).trans e3; have HO5 := Lib.hid (own_below HOI.out hb5); clear hb5)
          have HB6 : Hid (Below wv.heap.size wv w5) := Lib.hid (HBI.out.trans (HB5.out.mono hszi))
          clear HB5 f0 f3
          go_roundw
          case rel => exact ⟨k + 1, by omega, by go_num, by rw [← HZS.out, HZ.out]; exact HO5.out, HB6.out⟩
          case measure => simp [intOf]; omega
        · obtain rfl : k = l.length := by omega
          have hO := HOI.out
          rw [List.take_length] at hO
          obtain ⟨A1, c1, rfl⟩ := own_form hO
          have hwl := wantL_len l (m : Int)
          have HRS : Hid (∀ W, Below wr.heap.size wr W → Calls Try.prog 17 #[.slice A1 (wantL l (m : Int)).length c1] W fun e w' => e = .returned (.tuple #[.int .i64 (amtV (sumI (wantL l (m : Int)))), .int .i64 (amtE (sumI (wantL l (m : Int))))]) ∧ W = w') := Lib.hid fun W hW => refsum_any (wantL l (m : Int)) A1 c1 W (wantL_I64 (fun x hx => (HI.out x hx).2.2.2.1) _) (((Seg.of_own hO).below hW).mono hW.size) (by omega)
          have HOK := Lib.hid (lfOk_snoc (wantL l) m)
          have HLS := Lib.hid (lfL_snoc (wantL l) m)
          have hll : (lfL (wantL l) m).length ≤ 9 := by rw [lfL_len]; omega
          have HE : Hid (decide (I64 (sumI (wantL l (m : Int)))) = (amtE (sumI (wantL l (m : Int))) == 0)) := Lib.hid (by unfold amtE; by_cases h : I64 (sumI (wantL l (m : Int))) <;> simp [h])
          rw [HE.out] at HOK
          have HOV := Lib.hid (own_below HO.out HBI.out)
          have HBV : Hid (Below w4.heap.size w4 wr) := Lib.hid (HB.out.trans (HBI.out.mono hsz))
          clear hO HOI HE HO HBI HB
          generalize wantL l (m : Int) = L at *
          generalize hV : amtV (sumI L) = V at *
          generalize hF : amtE (sumI L) = F at *
          generalize hys : lfL (wantL l) m = ys at *
          generalize hzs : lfL (wantL l) (m + 1) = zs at *
          generalize hg1 : lfOk (wantL l) m = G at *
          generalize hg2 : lfOk (wantL l) (m + 1) = G2 at *
          obtain ⟨i0, hi0, hz0', hz1', hz2'⟩ := info_parts i64_infoL
          have hb4 : w4.heap.size ≤ wr.heap.size := HBV.out.size
          have HV1 : Hid (amtV (sumI L) = V) := Lib.hid hV
          have HYZ : Hid (lfL (wantL l) (m + 1) = zs ∧ lfOk (wantL l) (m + 1) = G2) := Lib.hid ⟨hzs, hg2⟩
          clear hV hF hys hzs hg1 hg2
          by_cases hG : G = true
          · subst hG
            go_wp2_with (first | (go_at_call 17; refine (HRS.out _ (Below.refl _ _)).mono ?_; rintro e w5 ⟨rfl, rfl⟩) | (at_builtin; refine wpList_append_own _ rfl _ _ 45 rfl w4.heap.size 2 i0 _ 1 8 Try.underlying45 hi0 hz0' hz1' hz2' rfl (by decide) _ ys.length (ys.map (Value.int .i64)) rfl (HOV.out.alloc _) ⟨wr.heap.size, 0, none⟩ 1 1 [.int .i64 V] rfl rfl (new_cells _ _ #[_] rfl) one_int (by simp only [maxLen]; omega) (by omega) (by simp; omega) ?_))
            intro v' w6 hown6 hgr6 _
            have HB6 : Hid (Below w4.heap.size w4 w6) := Lib.hid ((HBV.out.alloc hb4 _).grown hgr6 (Nat.le_trans hb4 (by simp)) (fun j hj => own_base HOV.out j hj))
            have HO6 : Hid (w6.ownsRow w4.heap.size 2 1 v' zs.length (zs.map (Value.int .i64))) := Lib.hid (by rw [HLS.out, List.map_append, List.length_append]; exact hown6)
            clear hown6 hgr6 HOV HRS
            go_wp2_with fail
            go_roundw
            case rel => exact ⟨m + 1, by omega, by go_num, by rw [HYZ.out.2, HOK.out]; simp, by rw [HYZ.out.1]; exact HO6.out, HB6.out⟩
            case measure => simp [intOf]; omega
          · obtain rfl : G = false := by simpa using hG
            clear hG
            go_wp2_with (first | (go_at_call 17; refine (HRS.out _ (Below.refl _ _)).mono ?_; rintro e w5 ⟨rfl, rfl⟩) | (at_builtin; refine wpList_append_own _ rfl _ _ 45 rfl w4.heap.size 2 i0 _ 1 8 Try.underlying45 hi0 hz0' hz1' hz2' rfl (by decide) _ ys.length (ys.map (Value.int .i64)) rfl (HOV.out.alloc _) ⟨wr.heap.size, 0, none⟩ 1 1 [.int .i64 V] rfl rfl (new_cells _ _ #[_] rfl) one_int (by simp only [maxLen]; omega) (by omega) (by simp; omega) ?_))
            intro v' w6 hown6 hgr6 _
            have HB6 : Hid (Below w4.heap.size w4 w6) := Lib.hid ((HBV.out.alloc hb4 _).grown hgr6 (Nat.le_trans hb4 (by simp)) (fun j hj => own_base HOV.out j hj))
            have HO6 : Hid (w6.ownsRow w4.heap.size 2 1 v' zs.length (zs.map (Value.int .i64))) := Lib.hid (by rw [HLS.out, List.map_append, List.length_append]; exact hown6)
            clear hown6 hgr6 HOV HRS
            go_wp2_with fail
            go_roundw
            case rel => exact ⟨m + 1, by omega, by go_num, by rw [HYZ.out.2, HOK.out]; simp, by rw [HYZ.out.1]; exact HO6.out, HB6.out⟩
            case measure => simp [intOf]; omega
    · obtain rfl : m = n := by omega
      have hms : decide ((m : Int) ≤ (s : Int)) = false := decide_eq_false (by have := HN.out; omega)
      have hmn' : decide (m ≤ s) = false := decide_eq_false (by have := HN.out; omega)
      obtain ⟨A3, c3, rfl⟩ := own_form HO.out
      have HW3 := Lib.hid (Seg.of_own HO.out)
      have HBW : Hid (Below w.heap.size w wr) := Lib.hid (HB4.out.trans (HB.out.mono HB4.out.size))
      rcases HU.out with ⟨rfl, hok, A4, c4, rfl, hsg⟩ | ⟨rfl, hok, rfl⟩
      case inr =>
        rw [hok]
        clear hok
        go_wp2_with (go_at_call 7; refine (HAW.out _).mono ?_; rintro e w9 ⟨rfl, hb9⟩; have HB9 := Lib.hid hb9; clear hb9)
        go_ret
        exact ⟨rfl, HBW.out.trans (HB9.out.mono HBW.out.size)⟩
      rw [hok]
      have HSG := Lib.hid ((hsg.below HB.out).mono HB.out.size)
      have hln := lfL_len (wantL l) m
      obtain ⟨zs, HZ⟩ : ∃ zs, Hid (zs = lfL (wantL l) m) := ⟨_, Lib.hid rfl⟩
      rw [← HZ.out] at HSG hln HW3
      rw [← HZ.out, hln]
      have HLN := Lib.hid hln
      clear hok hsg HO HB hln HZ HU
      go_wp2_with fail
      clear hms hmn'
      generalize wr = wv at *
      go_loopw [17] (fun i wr => ∃ k : Nat, k ≤ m ∧ i = .int .i64 k ∧ Hid (Below wv.heap.size wv wr)) (fun i _ => m - (intOf i).toNat)
      case atStart => exact ⟨0, Nat.zero_le _, rfl, Below.refl _ _⟩
      case round =>
        obtain ⟨k, hk, rfl, HB⟩ := hrel
        have hszi := HB.out.size
        by_cases hkm : k < m
        · have hms : decide ((k : Int) ≤ (s : Int)) = true := decide_eq_true (by have := HN.out; omega)
          have hmn' : decide (k ≤ s) = true := decide_eq_true (by have := HN.out; omega)
          obtain ⟨b1, o1, rfl, hb1, q1⟩ := seg_int_at (HSG.out.below HB.out) (k := k) (by rw [HLN.out]; exact hkm)
          obtain ⟨b2, o2, rfl, hb2, q2⟩ := seg_int_at (HW3.out.below HB.out) (k := k) (by rw [HLN.out]; exact hkm)
          have hkz : k < zs.length := by rw [HLN.out]; exact hkm
          obtain ⟨z, hz⟩ : ∃ z, z = zs[k] := ⟨_, rfl⟩
          rw [← hz] at q1 q2
          clear hz hkz
          have hk0 : (0 : Int) ≤ (k : Int) := by omega
          have hkb : (k : Int) < (m : Int) := by omega
          go_wp2_with fail
          go_quiet (fail)
          go_wp2_with fail
          have HBN : Hid (∀ j, Below wv.heap.size wv (wr.drewN j)) := Lib.hid fun j => below_drewN HB.out j
          go_roundw
          case rel => exact ⟨k + 1, by omega, by go_num, Lib.hid (HBN.out _)⟩
          case measure => simp [intOf]; omega
        · obtain rfl : k = m := by omega
          have hms : decide ((k : Int) ≤ (s : Int)) = false := decide_eq_false (by have := HN.out; omega)
          have hmn' : decide (k ≤ s) = false := decide_eq_false (by have := HN.out; omega)
          go_wp2_with (go_at_call 7; refine (HAW.out _).mono ?_; rintro e w9 ⟨rfl, hb9⟩; have HB9 := Lib.hid hb9; clear hb9)
          go_ret
          exact ⟨rfl, HBW.out.trans ((HB.out.trans (HB9.out.mono hszi)).mono HBW.out.size)⟩
end Go.Proofs.Ytgkidjjijgegmaa
