/-
  What complineref33.Right, Wrong, Bytes, Put come to, over this seat's translation: contracts for callers. (Printed by gen_sr8.py.)
-/
import Derived.Test.YtmplokdbbhlomaaDoorSr7
namespace Go.Proofs.YtmplokdbbhlomaaDoor
open Go.RowKit

set_option maxRecDepth 100000 in
set_option maxHeartbeats 6400000 in
theorem srright_any (x : St) (w : World) : Calls Tryd.prog 19 #[stV x] w fun e w' => e = .returned (.bool (rightS x)) ∧ Below w.heap.size w w' := by
  obtain ⟨k, c, n⟩ := x
  have heq := eqC_zero c
  have HCK := Lib.hid (fun W => rright_any c W)
  have HW0 : Hid (Below w.heap.size w (w.alloc (.cells (stCells ⟨k, c, n⟩) TSt))) := Lib.hid ((Below.refl _ _).alloc (Nat.le_refl _) _)
  have HER : Hid (rightS ⟨k, c, n⟩ = if k = 1 then decide (n = 0) && rightC c else decide (c = zeroC) && (decide (k = 2) && decide (-1 ≤ n) || decide (k = 3) && decide (0 ≤ n))) := Lib.hid rfl
  obtain ⟨er, her⟩ : ∃ er, er = rightS ⟨k, c, n⟩ := ⟨_, rfl⟩
  rw [← her]
  rw [← her] at HER
  clear her
  unfold cmV at HCK
  unfold stCells at HW0
  simp only at HW0
  unfold stV stCells
  simp only
  generalize decide (c = zeroC) = bz at *
  by_cases h1 : k = 1
  · subst h1
    by_cases hn : n = 0
    · subst hn
      have HE : Hid (er = rightC c) := Lib.hid (by rw [HER.out]; simp)
      go_enter Tryd.func19, Tryd.ntmps19
      go_wp2_with (go_at_call 36; refine (HCK.out _).mono ?_; rintro e w1 ⟨rfl, hb⟩; have HB1 := Lib.hid hb; clear hb)
      go_ret
      exact ⟨by rw [HE.out]; rfl, HW0.out.trans (HB1.out.mono HW0.out.size)⟩
    · have hb : (n == 0) = false := by simpa using hn
      have HE : Hid (er = false) := Lib.hid (by rw [HER.out]; simp [hn])
      go_enter Tryd.func19, Tryd.ntmps19
      go_wp2_with fail
      go_ret
      exact ⟨by rw [HE.out]; rfl, HW0.out⟩
  have b1 : (k == 1) = false := by simpa using h1
  cases bz with
  | false =>
    have HE : Hid (er = false) := Lib.hid (by rw [HER.out, if_neg h1]; simp)
    go_enter Tryd.func19, Tryd.ntmps19
    go_wp2_with fail
    go_ret
    exact ⟨by rw [HE.out]; rfl, HW0.out⟩
  | true =>
    by_cases h2 : k = 2
    · subst h2
      by_cases hm : (-1 : Int) ≤ n
      · have hd : decide ((-1 : Int) ≤ n) = true := decide_eq_true hm
        have HE : Hid (er = true) := Lib.hid (by rw [HER.out]; simp [hm])
        go_enter Tryd.func19, Tryd.ntmps19
        go_wp2_with fail
        go_ret
        exact ⟨by rw [HE.out]; rfl, HW0.out⟩
      · have hd : decide ((-1 : Int) ≤ n) = false := decide_eq_false hm
        have HE : Hid (er = false) := Lib.hid (by rw [HER.out]; simp [hm])
        go_enter Tryd.func19, Tryd.ntmps19
        go_wp2_with fail
        go_ret
        exact ⟨by rw [HE.out]; rfl, HW0.out⟩
    have b2 : (k == 2) = false := by simpa using h2
    by_cases h3 : k = 3
    · subst h3
      by_cases hm : (0 : Int) ≤ n
      · have hd : decide ((0 : Int) ≤ n) = true := decide_eq_true hm
        have HE : Hid (er = true) := Lib.hid (by rw [HER.out]; simp [hm])
        go_enter Tryd.func19, Tryd.ntmps19
        go_wp2_with fail
        go_ret
        exact ⟨by rw [HE.out]; rfl, HW0.out⟩
      · have hd : decide ((0 : Int) ≤ n) = false := decide_eq_false hm
        have HE : Hid (er = false) := Lib.hid (by rw [HER.out]; simp [hm])
        go_enter Tryd.func19, Tryd.ntmps19
        go_wp2_with fail
        go_ret
        exact ⟨by rw [HE.out]; rfl, HW0.out⟩
    have b3 : (k == 3) = false := by simpa using h3
    have HE : Hid (er = false) := Lib.hid (by rw [HER.out, if_neg h1]; simp [h2, h3])
    go_enter Tryd.func19, Tryd.ntmps19
    go_wp2_with fail
    go_ret
    exact ⟨by rw [HE.out]; rfl, HW0.out⟩
set_option maxRecDepth 100000 in
set_option maxHeartbeats 3200000 in
theorem srwrong_any (l : List St) (A : Option Addr) (c : Nat) (w : World) (hs : Seg w w.heap.size A (stRows l)) : Calls Tryd.prog 7 #[.slice A l.length c] w fun e w' => e = .returned (.int .i64 (wrongL l)) ∧ Below w.heap.size w w' := by
  have HS := Lib.hid hs
  clear hs
  by_cases hbig : 1024 < l.length
  · have hd : decide ((1024 : Int) < (l.length : Int)) = true := decide_eq_true (by omega)
    have HE : Hid (wrongL l = 6) := Lib.hid (by unfold wrongL; rw [if_pos hbig])
    go_enter Tryd.func7, Tryd.ntmps7
    go_wp2_with fail
    go_ret
    exact ⟨by rw [HE.out]; rfl, Below.refl _ _⟩
  have hd : decide ((1024 : Int) < (l.length : Int)) = false := decide_eq_false (by omega)
  go_enter Tryd.func7, Tryd.ntmps7
  go_wp2_with fail
  go_loopw [3] (fun i wr => ∃ k : Nat, k ≤ l.length ∧ i = .int .i64 k ∧ Hid ((l.take k).all rightS = true) ∧ Hid (Below w.heap.size w wr)) (fun i _ => l.length - (intOf i).toNat)
  case atStart => exact ⟨0, Nat.zero_le _, rfl, rfl, Below.refl _ _⟩
  case round =>
    obtain ⟨k, hk, rfl, HOK, HB⟩ := hrel
    by_cases hlt : k < l.length
    · obtain ⟨b, o, rfl, hb, e0, e1, e2, e3, e4, e5, e6, e7, e8⟩ := st_at (HS.out.below HB.out) hlt
      have HBD := Lib.hid (wrongL_bad (l := l) (by omega) hlt)
      have HSN : Hid ((l.take (k + 1)).all rightS = ((l.take k).all rightS && rightS l[k])) := Lib.hid (by rw [List.take_succ_eq_append_getElem hlt, List.all_append]; simp)
      have HCK := Lib.hid (fun W => srright_any l[k] W)
      unfold stV stCells at HCK
      generalize l[k] = x at *
      cases hr : rightS x with
      | false =>
        rw [hr] at HCK
        have HE : Hid (wrongL l = 3) := Lib.hid (HBD.out hr)
        clear HBD HSN hr
        go_wp2_with (go_at_call 19; refine (HCK.out _).mono ?_; rintro e w1 ⟨rfl, hb⟩; have HB1 := Lib.hid (HB.out.trans (hb.mono HB.out.size)); clear hb)
        go_ret
        exact ⟨by rw [HE.out]; rfl, HB1.out⟩
      | true =>
        rw [hr] at HCK
        have HOK2 : Hid ((l.take (k + 1)).all rightS = true) := Lib.hid (by rw [HSN.out, HOK.out, hr]; rfl)
        clear HBD HSN hr
        go_wp2_with (go_at_call 19; refine (HCK.out _).mono ?_; rintro e w1 ⟨rfl, hb⟩; have HB1 := Lib.hid (HB.out.trans (hb.mono HB.out.size)); clear hb)
        go_roundw
        case rel => exact ⟨k + 1, by omega, by go_num, HOK2, HB1⟩
        case measure => simp [intOf]; omega
    · obtain rfl : k = l.length := by omega
      have HE : Hid (wrongL l = 0) := Lib.hid (by
        have h := HOK.out
        rw [List.take_length] at h
        unfold wrongL
        rw [if_neg (by omega), if_pos h])
      go_wp2_with fail
      go_ret
      exact ⟨by rw [HE.out]; rfl, HB.out⟩
set_option maxRecDepth 100000 in
set_option maxHeartbeats 3200000 in
theorem srbytes_any (x : St) (hx : StOk x) (hr : rightS x = true) (w : World) : Calls Tryd.prog 27 #[stV x] w fun e w' => e = .returned (.string (bs (putS x))) ∧ Below w.heap.size w w' := by
  have hk := right_kind hr
  obtain ⟨k, c, n⟩ := x
  obtain ⟨hx1, hx2, hx3⟩ := hx
  simp only at hx1 hx2 hx3 hk
  have HW0 : Hid (Below w.heap.size w (w.alloc (.cells (stCells ⟨k, c, n⟩) TSt))) := Lib.hid ((Below.refl _ _).alloc (Nat.le_refl _) _)
  unfold stCells at HW0
  simp only at HW0
  unfold stV stCells
  simp only
  by_cases hk1 : k = 1
  · subst hk1
    have hc : isK c.k = true := by
      unfold rightS at hr
      simp at hr
      have h2 := hr.2
      unfold rightC at h2
      simp at h2
      exact h2.1
    have hp0 : putN 0 = [0] := by unfold putN; rw [show Lib.zigzag 0 = 0 from rfl, Lib.uvarint_small (by omega)]; rfl
    have HP : Hid (putS ⟨1, c, n⟩ = [0] ++ putT (putC c)) := Lib.hid (by rw [← hp0]; rfl)
    clear hp0
    have hcl := putC_len hx2
    have HCP := Lib.hid (fun W => rput11_any c hx2 hc W)
    have HTP := Lib.hid (fun W => rtextp_any (putC c) W (by omega))
    have hpt : (putT (putC c)).length ≤ 100 := by
      have h2 := putN_len (n := ((putC c).length : Int)) (I64_small (by omega) (by omega))
      unfold putT
      rw [List.length_append]
      omega
    clear hr hc hcl
    unfold cmV at HCP
    generalize putC c = pc at *
    generalize putT pc = pt at *
    have hs1 := bs_size pt
    have hap := bs_append [0] pt
    have hs0 : (bs [0]).size = 1 := rfl
    have hbz : (⟨#[0]⟩ : ByteArray) = bs [0] := rfl
    have hbig : ¬ 9223372036854775807 < 1 + pt.length := by omega
    go_enter Tryd.func27, Tryd.ntmps27
    go_wp2_with fail
    refine (HCP.out _).mono ?_
    rintro e w1 ⟨rfl, hb1⟩
    have HW1 : Hid (Below w.heap.size w w1) := Lib.hid (HW0.out.trans (hb1.mono HW0.out.size))
    clear hb1
    go_wp2_with fail
    refine (HTP.out _).mono ?_
    rintro e w2 ⟨rfl, hb2⟩
    have HW2 : Hid (Below w.heap.size w w2) := Lib.hid (HW1.out.trans (hb2.mono HW1.out.size))
    clear hb2
    go_wp2_with fail
    go_ret
    exact ⟨by rw [HP.out]; first | rfl | (rw [← hap]; rfl), HW2.out⟩
  · have hb1 : (k == 1) = false := by simpa using hk1
    have HP : Hid (putS ⟨k, c, n⟩ = putN (k - 1) ++ putN n) := Lib.hid (by unfold putS; rw [if_neg hk1])
    have hkw : IntKind.i64.wrap (k - 1) = k - 1 := by rw [IntKind.wrap_i64]; omega
    have i1 : I64 (k - 1) := I64_small (by omega) (by omega)
    have h1l := putN_len i1
    have h2l := putN_len hx3
    have hs1 := bs_size (putN (k - 1))
    have hs2 := bs_size (putN n)
    have hap := bs_append (putN (k - 1)) (putN n)
    have hbig : ¬ 9223372036854775807 < (putN (k - 1)).length + (putN n).length := by omega
    have c0 : (w.alloc (.cells #[.int .i64 k, .int .i64 c.k, .int .i64 c.i, .int .i64 c.m, .int .i64 c.o, .int .i64 c.s, .int .i64 c.q, .int .i64 c.p, .int .i64 n] TSt)).cell? ⟨w.heap.size, 0, none⟩ = some (.int .i64 k) := cell_new _ _ _ 0 rfl
    have c8 : (w.alloc (.cells #[.int .i64 k, .int .i64 c.k, .int .i64 c.i, .int .i64 c.m, .int .i64 c.o, .int .i64 c.s, .int .i64 c.q, .int .i64 c.p, .int .i64 n] TSt)).cell? ⟨w.heap.size, 8, none⟩ = some (.int .i64 n) := cell_new _ _ _ 8 rfl
    have hbl : w.heap.size < (w.alloc (.cells #[.int .i64 k, .int .i64 c.k, .int .i64 c.i, .int .i64 c.m, .int .i64 c.o, .int .i64 c.s, .int .i64 c.q, .int .i64 c.p, .int .i64 n] TSt)).heap.size := by simp
    clear hr hk hk1
    go_enter Tryd.func27, Tryd.ntmps27
    go_wp2_with fail
    generalize (w.alloc (.cells #[.int .i64 k, .int .i64 c.k, .int .i64 c.i, .int .i64 c.m, .int .i64 c.o, .int .i64 c.s, .int .i64 c.q, .int .i64 c.p, .int .i64 n] TSt)) = w1 at *
    have hbel := fun (n : Bel w1.heap.size w1) b o hb => Bel.cells n b o hb
    refine wp_region_bel w1.heap.size (by kernel_rfl) (by kernel_rfl) ?_
    repeat (go_big_quiet_step ((go_at_call 26; exact Calls.bel_of (Nat.le_refl _) (rput_any _ _ (by first | exact i1 | exact hx3)))))
    refine wpQuiet_nil ?_
    intro _ hw'
    obtain ⟨nq, hw''⟩ := hw'
    subst hw''
    have HN := Lib.hid (HW0.out.trans (nq.h.mono HW0.out.size))
    go_wp2_with fail
    go_ret
    exact ⟨by rw [HP.out]; rfl, HN.out⟩
set_option maxRecDepth 100000 in
set_option maxHeartbeats 3200000 in
theorem srput_any (l : List St) (A : Option Addr) (c : Nat) (w : World) (hs : Seg w w.heap.size A (stRows l)) (hI : ∀ x ∈ l, StOk x) (hw : wrongL l = 0) : Calls Tryd.prog 10 #[.slice A l.length c] w fun e w' => e = .returned (.string (bs (putL l))) ∧ Below w.heap.size w w' := by
  have HS := Lib.hid hs
  have HI := Lib.hid hI
  obtain ⟨hl, hR⟩ := wrongL_zero hw
  have HR := Lib.hid hR
  clear hs hI hw hR
  have HLP : Hid (putL l = putN (l.length : Int) ++ (l.take l.length).flatMap putS) := Lib.hid (by rw [List.take_length]; rfl)
  have HPL := Lib.hid (fun W => rput_any (l.length : Int) W (I64_small (by omega) (by omega)))
  have hpl := putN_len (n := (l.length : Int)) (I64_small (by omega) (by omega))
  generalize putL l = R at *
  generalize putN (l.length : Int) = pz at *
  go_enter Tryd.func10, Tryd.ntmps10
  go_wp2_with (go_at_call 26; refine (HPL.out _).mono ?_; rintro e w1 ⟨rfl, hb⟩; have HB1 := Lib.hid hb; clear hb)
  go_loopw [3, 4] (fun vs i wr => ∃ k : Nat, k ≤ l.length ∧ i = .int .i64 k ∧ vs = .string (bs (pz ++ (l.take k).flatMap putS)) ∧ Hid (Below w.heap.size w wr)) (fun _ i _ => l.length - (intOf i).toNat)
  case atStart => exact ⟨0, Nat.zero_le _, rfl, by simp, HB1⟩
  case round =>
    clear HB1
    obtain ⟨k, hk, rfl, rfl, HB⟩ := hrel
    by_cases hlt : k < l.length
    · obtain ⟨b, o, rfl, hb, e0, e1, e2, e3, e4, e5, e6, e7, e8⟩ := st_at (HS.out.below HB.out) hlt
      have HSN : Hid ((l.take (k + 1)).flatMap putS = (l.take k).flatMap putS ++ putS l[k]) := Lib.hid (by rw [List.take_succ_eq_append_getElem hlt, List.flatMap_append]; simp)
      have hsl := steps_len (l := l.take k) fun y hy => HI.out y (List.mem_of_mem_take hy)
      rw [List.length_take] at hsl
      have hok := HI.out _ (List.getElem_mem hlt)
      have hxl := putS_len hok
      have HBY := Lib.hid (fun W => srbytes_any l[k] hok (HR.out _ (List.getElem_mem hlt)) W)
      unfold stV stCells at HBY
      clear hok
      generalize l[k] = x at *
      generalize (l.take k).flatMap putS = pk at *
      generalize putS x = px at *
      have HPE : Hid ((pz ++ pk) ++ px = pz ++ (pk ++ px)) := Lib.hid (List.append_assoc _ _ _)
      have hl1 : (pz ++ pk).length ≤ 1000000 := by rw [List.length_append]; omega
      generalize pz ++ pk = pp at *
      have hs1 := bs_size pp
      have hs2 := bs_size px
      have hap := bs_append pp px
      have hbig : ¬ 9223372036854775807 < pp.length + px.length := by omega
      clear hsl
      go_wp2_with (go_at_call 27; refine (HBY.out _).mono ?_; rintro e w2 ⟨rfl, hb⟩; have HB2 := Lib.hid (HB.out.trans (hb.mono HB.out.size)); clear hb)
      go_roundw
      case rel => exact ⟨k + 1, by omega, by go_num, by rw [HSN.out, ← HPE.out], HB2⟩
      case measure => simp [intOf]; omega
    · obtain rfl : k = l.length := by omega
      go_wp2_with fail
      go_ret
      exact ⟨by rw [HLP.out]; rfl, HB.out⟩
end Go.Proofs.YtmplokdbbhlomaaDoor
