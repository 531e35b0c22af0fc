/-
  complineref03.Allocate once more: what comes back lies in memory of the call's own making. Printed by gen_alo.py out of XMgE's text.
-/
import Derived.Test.YtglpnpjjjihghaaMgE
namespace Go.Proofs.Ytglpnpjjjihghaa
open Go.RowKit Go.Lib Go.Sort Go.Proofs.Ytglpnpjjjihghaa.StableLaw Go.Proofs.Ytglpnpjjjihghaa.ShareLaw

/-- A list and an error have come back, in new memory. -/
def GotO (w : World) (xs : List Int) (err : Int) : Ending → World → Prop := fun e w' => ∃ A c, e = .returned (.tuple #[.slice A xs.length c, .int .i64 err]) ∧ Seg w' w'.heap.size A (xs.map (Value.int .i64)) ∧ Below w.heap.size w w' ∧ ∀ k, (Value.slice A xs.length c).ownBlock = some k → w.heap.size ≤ k ∧ k < w'.heap.size
theorem GotO.nil (w : World) (err : Int) (w' : World) (h : Below w.heap.size w w') : GotO w [] err (.returned (.tuple #[.slice none 0 0, .int .i64 err])) w' := ⟨none, 0, rfl, Seg.nil, h, fun k hk => by cases hk⟩
set_option maxHeartbeats 3200000 in
set_option maxRecDepth 100000 in
theorem orapp_main (T : Int) (l : List Int) (A : Option Addr) (c : Nat) (w : World) (hT0 : 0 < T) (hT : T ≤ 9223372036854775807) (hl : ∀ x ∈ l, 0 ≤ x) (h0 : 0 < sumI l) (hS : sumI l ≤ 9223372036854775807) (hn : l.length ≤ 1024) (hs : Seg w w.heap.size A (l.map (Value.int .i64)))
    (hw : Calls Try.prog 76 #[.int .i64 T, .slice A l.length c] w fun e w' => e = .returned (.tuple #[.int .i64 (sumI l), .int .i64 0]) ∧ w = w') :
    Calls Try.prog 77 #[.int .i64 T, .slice A l.length c] w (GotO w (rowF l.length (ShareLaw.part T (sumI l) (wf l) l.length)) 0) := by
  have inf : (Try.prog.info? 2).map (fun i => (i.zero, i.size, i.bytes)) = some (some (.int .i64 0), 1, 8) := by kernel_rfl
  obtain ⟨i0, hi0, hz0, hz1, hz2⟩ := info_parts inf
  have HWR := Lib.hid hw
  have HS := Lib.hid hs
  have HL := Lib.hid hl
  have HSUM := Lib.hid (sum_wf l)
  have HLE := Lib.hid (mem_le_sum hl)
  have hn0 : 0 < l.length := by
    cases l with
    | nil => simp [sumI] at h0
    | cons a l => simp
  clear hs hl hw
  generalize hZ : sumI l = S at *
  have HZ := Lib.hid hZ
  clear hZ
  obtain ⟨W, hW⟩ : ∃ W, W = wf l := ⟨_, rfl⟩
  have HW := Lib.hid hW
  rw [← hW] at HSUM ⊢
  clear hW
  have hT0' : 0 ≤ T := by omega
  have HW0 : Hid (∀ i, i < l.length → 0 ≤ W i ∧ W i ≤ S) := fun i hi => by
    rw [HW.out, wf_at hi]
    exact ⟨HL.out _ (List.getElem_mem hi), HLE.out _ (List.getElem_mem hi)⟩
  have HBQ : Hid (∀ k, k < l.length → 0 ≤ quo T S W k ∧ quo T S W k ≤ T) := fun k hk => ⟨quo_nonneg h0 hT0' (HW0.out k hk).1, quo_le h0 hT0' (HW0.out k hk).2⟩
  have HBD : Hid (∀ k, k ≤ l.length → 0 ≤ sumN (quo T S W) k ∧ sumN (quo T S W) k ≤ T) := fun k hk => by
    have h9 := (quo_sum_le h0 hT0' (fun i hi => (HW0.out i hi).1) HSUM.out).2
    exact ⟨sumN_nonneg fun i hi => (HBQ.out i (by omega)).1, Int.le_trans (sumN_upto (fun i hi => (HBQ.out i hi).1) k hk) h9⟩
  have HPL : Hid (∀ k, k < l.length → ShareLaw.part T S W l.length k ≤ T) := fun k hk => part_le h0 hT0' HSUM.out (HW0.out k hk).2
  have z1 : (S == 0) = false := by rw [beq_eq_false_iff_ne]; omega
  go_enter Try.func77, Try.ntmps77
  go_wp2_with fail
  refine HWR.out.mono ?_
  rintro e w' ⟨rfl, hw'⟩
  subst w'
  clear HWR
  go_wp2_with fail
  go_loopw [8, 9, 10, 11, 12, 13] (fun u v f i _ _ wr => ∃ k : Nat, k ≤ l.length ∧ i = .int .i64 k ∧ f = .int .i64 (T - sumN (quo T S W) k) ∧ Hid (Two2 w u v k (rowF k (quo T S W)) (rowF k (rst T S W)) wr)) (fun _ _ _ i _ _ _ => l.length - (intOf i).toNat)
  case atStart => exact ⟨0, Nat.zero_le _, rfl, by simp [sumN], Two2.start w⟩
  case round =>
    obtain ⟨k, hk, rfl, rfl, HT⟩ := hrel
    by_cases hlt : k < l.length
    · obtain ⟨b, o, rfl, hb, hc0⟩ := (HS.out.below HT.out.b).at (k := k) (by simpa using hlt)
      have ex : l[k] = W k := by rw [HW.out, wf_at hlt]
      rw [List.getElem_map, ex] at hc0
      have hwk := HW0.out k hlt
      have HQ := fun W' => Lib.hid (rquotaI_any T S W k W' hT0' hT hwk.1 hwk.2 h0 hS)
      have hb1 := HBD.out k hk
      have hb2 := HBQ.out k hlt
      have es : T - sumN (quo T S W) k - quo T S W k = T - sumN (quo T S W) (k + 1) := by rw [sumN]; omega
      have HES := Lib.hid es
      obtain ⟨g1, g2⟩ := hb1
      obtain ⟨g3, g4⟩ := hb2
      clear es ex hwk
      go_wp2_with fail
      refine (HQ _).out.mono ?_
      rintro e w1 ⟨rfl, hbq⟩
      have HT1 := Lib.hid (HT.out.below hbq)
      clear hbq HT hc0 HQ
      have hsz1 := HT1.out.b.size
      go_wp2_with (at_builtin; refine wpList_append_own_at _ rfl _ _ 35 rfl w.heap.size 2 i0 _ 1 8 Try.underlying35 hi0 hz0 hz1 hz2 rfl (by decide) _ k ((rowF k (quo T S W)).map (Value.int .i64)) rfl (HT1.out.p.alloc _) ⟨w1.heap.size, 0, none⟩ 1 1 [.int .i64 (quo T S W k)] rfl rfl (new_cells _ _ #[_] (by simp)) one_int (by simp only [maxLen]; omega) (by omega) (by simp; omega) ?_)
      intro v' w2 hown1 hgrow1 _ hat1
      have HF := Lib.hid (HT1.out.first hown1 hgrow1 hat1)
      rw [← rowF_snoc] at HF
      clear hown1 hgrow1 hat1 HT1
      have hsz2 := HF.out.2.2.2.size
      go_wp2_with (at_builtin; refine wpList_append_own_at _ rfl _ _ 35 rfl w.heap.size 2 i0 _ 1 8 Try.underlying35 hi0 hz0 hz1 hz2 rfl (by decide) _ k ((rowF k (rst T S W)).map (Value.int .i64)) rfl (HF.out.2.1.alloc _) ⟨w2.heap.size, 0, none⟩ 1 1 [.int .i64 (rst T S W k)] rfl rfl (new_cells _ _ #[_] (by simp)) one_int (by simp only [maxLen]; omega) (by omega) (by simp; omega) ?_)
      intro v'' w3 hown2 hgrow2 _ hat2
      have HT3 := Lib.hid (Two2.second HF.out hown2 hgrow2 hat2)
      rw [← rowF_snoc] at HT3
      clear hown2 hgrow2 hat2 HF
      go_wp2_with fail
      go_roundw
      case rel => exact ⟨k + 1, by omega, by go_num, by rw [← HES.out], HT3⟩
      case measure => simp [intOf]; omega
    · obtain rfl : k = l.length := by omega
      obtain ⟨gP, cP, rfl, hgP, hgP2⟩ := HT.out.p.form hn0
      obtain ⟨gR, cR, rfl, hgR, hgR2⟩ := HT.out.r.form hn0
      have hne : gP ≠ gR := fun e => HT.out.ne gP rfl (by rw [e]; rfl)
      obtain ⟨L, hL⟩ : ∃ L, L = left T S W l.length := ⟨_, rfl⟩
      have HLB := Lib.hid (left_bd (T := T) (S := S) (W := W) (n := l.length) h0 HSUM.out)
      have HLN := Lib.hid (left_le (T := T) (S := S) (W := W) (n := l.length) h0 HSUM.out)
      have eL : T - sumN (quo T S W) l.length = L := by rw [hL]; rfl
      have hL0 : 0 ≤ L := by rw [hL]; exact HLB.out.1
      have hLn : L ≤ (l.length : Int) := by rw [hL]; exact HLN.out
      have HEL := Lib.hid hL
      rw [eL]
      clear hL eL
      have HT0 : Hid (Two2 w (.slice (some ⟨gP, 0, none⟩) l.length cP) (.slice (some ⟨gR, 0, none⟩) l.length cR) l.length (rowF l.length (partT T S W l.length 0)) (rowF l.length (restT T S W l.length 0)) wr) := by
        have e1 : rowF l.length (quo T S W) = rowF l.length (partT T S W l.length 0) := rowF_congr fun i _ => by unfold partT; rw [if_neg (by omega)]; omega
        have e2 : rowF l.length (rst T S W) = rowF l.length (restT T S W l.length 0) := rowF_congr fun i _ => by unfold restT; rw [if_neg (by omega)]
        have := HT.out
        rw [e1, e2] at this
        exact this
      clear HT
      go_wp2_with fail
      go_loopw [10, 14, 15] (fun f _ _ wr => ∃ t : Nat, (t : Int) ≤ L ∧ f = .int .i64 (L - t) ∧ Hid (Two2 w (.slice (some ⟨gP, 0, none⟩) l.length cP) (.slice (some ⟨gR, 0, none⟩) l.length cR) l.length (rowF l.length (partT T S W l.length t)) (rowF l.length (restT T S W l.length t)) wr)) (fun f _ _ _ => (intOf f).toNat)
      case atStart => exact ⟨0, hL0, by simp, HT0⟩
      case round =>
        clear HT0
        obtain ⟨t, ht, rfl, HT⟩ := hrel
        by_cases hlt : (t : Int) < L
        · have hltz : 0 < L - (t : Int) := by omega
          have htn : t < l.length := by omega
          obtain ⟨wo, rfl⟩ : ∃ wo : World, wo = wr := ⟨_, rfl⟩
          go_wp2_with fail
          go_loopw [14, 15] (fun s14 s15 wr => ∃ k b : Nat, k ≤ l.length ∧ b ≤ k ∧ b < l.length ∧ s14 = .int .i64 b ∧ s15 = .int .i64 k ∧ Hid (Best (restT T S W l.length t) k b) ∧ Hid (Two2 w (.slice (some ⟨gP, 0, none⟩) l.length cP) (.slice (some ⟨gR, 0, none⟩) l.length cR) l.length (rowF l.length (partT T S W l.length t)) (rowF l.length (restT T S W l.length t)) wr)) (fun _ i _ => l.length - (intOf i).toNat)
          case atStart => exact ⟨0, 0, by omega, by omega, by omega, rfl, rfl, fun j h => by omega, HT⟩
          case round =>
            clear HT
            obtain ⟨k, b, hk, hbk, hbn, rfl, rfl, HBE, HT⟩ := hrel
            by_cases hlk : k < l.length
            · obtain ⟨x, hx⟩ : ∃ x, x = restT T S W l.length t k := ⟨_, rfl⟩
              obtain ⟨y, hy⟩ : ∃ y, y = restT T S W l.length t b := ⟨_, rfl⟩
              have c1 : wr.cell? ⟨gR, k, none⟩ = some (.int .i64 x) := by
                rw [HT.out.r.cellAt k (by omega), List.getElem?_map, List.getElem?_eq_getElem (by rw [rowF_len]; exact hlk), rowF_at, hx]; rfl
              have c2 : wr.cell? ⟨gR, b, none⟩ = some (.int .i64 y) := by
                rw [HT.out.r.cellAt b (by omega), List.getElem?_map, List.getElem?_eq_getElem (by rw [rowF_len]; exact hbn), rowF_at, hy]; rfl
              have i1 : (0 : Int) ≤ (k : Int) := by omega
              have i2 : (k : Int) < (l.length : Int) := by omega
              have i3 : (0 : Int) ≤ (b : Int) := by omega
              have i4 : (b : Int) < (l.length : Int) := by omega
              by_cases hxy : y < x
              · have HBE2 : Hid (Best (restT T S W l.length t) (k + 1) k) := HBE.out.up (by rw [← hx, ← hy]; exact hxy)
                have hd : decide (y < x) = true := decide_eq_true hxy
                clear hx hy HBE
                go_wp2_with fail
                go_quiet (fail)
                have HT2 := Lib.hid (HT.out.below (below_drewN (Below.refl _ _) nq))
                clear c1 c2 HT
                generalize wr.drewN nq = w2 at HT2 ⊢
                go_wp2_with fail
                go_roundw
                case rel => exact ⟨k + 1, k, by omega, by omega, hlk, rfl, by go_num, HBE2, HT2⟩
                case measure => simp [intOf]; omega
              · have HBE2 : Hid (Best (restT T S W l.length t) (k + 1) b) := HBE.out.stay (by rw [← hx, ← hy]; exact hxy) hbk
                have hd : decide (y < x) = false := decide_eq_false hxy
                clear hx hy HBE
                go_wp2_with fail
                go_quiet (fail)
                have HT2 := Lib.hid (HT.out.below (below_drewN (Below.refl _ _) nq))
                clear c1 c2 HT
                generalize wr.drewN nq = w2 at HT2 ⊢
                go_wp2_with fail
                go_roundw
                case rel => exact ⟨k + 1, b, by omega, by omega, hbn, rfl, by go_num, HBE2, HT2⟩
                case measure => simp [intOf]; omega
            · obtain rfl : k = l.length := by omega
              have hrk := HBE.out.rank h0 hbn htn
              have cp : wr.cell? ⟨gP, b, none⟩ = some (.int .i64 (quo T S W b)) := by
                rw [HT.out.p.cellAt b (by omega), List.getElem?_map, List.getElem?_eq_getElem (by rw [rowF_len]; exact hbn), rowF_at]
                unfold partT
                rw [if_neg (by omega)]
                simp
              have fp : wr.frozen? ⟨gP, b, none⟩ = false := HT.out.p.frozenAt b
              have cr : wr.cell? ⟨gR, b, none⟩ = some (.int .i64 (rst T S W b)) := by
                rw [HT.out.r.cellAt b (by omega), List.getElem?_map, List.getElem?_eq_getElem (by rw [rowF_len]; exact hbn), rowF_at]
                unfold restT
                rw [if_neg (by omega)]
                rfl
              have fr : wr.frozen? ⟨gR, b, none⟩ = false := HT.out.r.frozenAt b
              have hbd : 0 ≤ quo T S W b ∧ quo T S W b ≤ T - 1 := by
                refine ⟨(HBQ.out b hbn).1, ?_⟩
                have h7 := HPL.out b hbn
                unfold ShareLaw.part partT at h7
                rw [if_pos (by rw [hrk, ← HEL.out]; omega)] at h7
                omega
              obtain ⟨g1, g2⟩ := hbd
              have HT2 : Hid (Two2 w (.slice (some ⟨gP, 0, none⟩) l.length cP) (.slice (some ⟨gR, 0, none⟩) l.length cR) l.length (rowF l.length (partT T S W l.length (t + 1))) (rowF l.length (restT T S W l.length (t + 1))) ((wr.setCell ⟨gP, b, none⟩ (.int .i64 (quo T S W b + 1))).setCell ⟨gR, b, none⟩ (.int .i64 (-1)))) := by
                have hs1 := HT.out.p.stored b (.int .i64 (quo T S W b + 1))
                have hr1 := HT.out.r.kept hs1.2 (.inr (by simp [Value.ownBlock]; exact fun e => hne e.symm))
                have hs2 := hr1.stored b (.int .i64 (-1))
                have hp2 := hs1.1.kept hs2.2 (.inr (by simp [Value.ownBlock]; exact hne))
                refine ⟨?_, ?_, HT.out.ne, (HT.out.b.setCell (by dsimp only; omega) _).setCell (by dsimp only; omega) _⟩
                · rw [← part_set hbn hrk, List.map_set]; exact hp2
                · rw [← rest_set hbn hrk, List.map_set]; exact hs2.1
              have HRK := Lib.hid hrk
              have n1 : ¬ gP = gR := hne
              have n2 : ¬ gR = gP := fun e => hne e.symm
              clear hrk HT HBE
              go_wp2_with fail
              go_roundw
              case rel => exact ⟨t + 1, by omega, by first | rfl | (congr 1; omega) | (simp; omega), HT2⟩
              case measure => simp [intOf]; omega
        · have hltz : ¬ 0 < L - (t : Int) := by omega
          have e : (L.toNat : Nat) = t := by omega
          have HP3 : Hid (Seg wr wr.heap.size (some ⟨gP, 0, none⟩) ((rowF l.length (ShareLaw.part T S W l.length)).map (Value.int .i64))) := by
            have h7 := Seg.of_own HT.out.p
            rw [← e, HEL.out] at h7
            exact h7
          go_wp2_with fail
          go_ret2
          exact ⟨some ⟨gP, 0, none⟩, cP, by rw [rowF_len]; rfl, HP3.out, HT.out.b, fun k hk => HT.out.p.lt k hk⟩
set_option maxHeartbeats 3200000 in
set_option maxRecDepth 100000 in
theorem orapp_zero (S : Int) (l : List Int) (A : Option Addr) (c : Nat) (w : World) (hn : l.length ≤ 1024)
    (hw : Calls Try.prog 76 #[.int .i64 0, .slice A l.length c] w fun e w' => e = .returned (.tuple #[.int .i64 S, .int .i64 0]) ∧ w = w') :
    Calls Try.prog 77 #[.int .i64 0, .slice A l.length c] w (GotO w (List.replicate l.length 0) 0) := by
  have inf : (Try.prog.info? 2).map (fun i => (i.zero, i.size, i.bytes)) = some (some (.int .i64 0), 1, 8) := by kernel_rfl
  obtain ⟨i0, hi0, hz0, hz1, hz2⟩ := info_parts inf
  have HWR := Lib.hid hw
  clear hw
  have HREP : Hid (rowF l.length (fun _ => 0) = List.replicate l.length 0) := by
    show _ = _
    apply List.ext_getElem
    · simp [rowF_len]
    · intro i h1 h2
      rw [rowF_at, List.getElem_replicate]
  obtain ⟨Z, hZ⟩ : ∃ Z : Nat → Int, Z = fun _ => 0 := ⟨_, rfl⟩
  have HZ : Hid (∀ k, rowF (k + 1) Z = rowF k Z ++ [0]) := fun k => by
    have := rowF_snoc k Z
    rw [hZ] at *
    exact this
  rw [← hZ] at HREP
  clear hZ
  cases z1 : (S == 0)
  all_goals
    go_enter Try.func77, Try.ntmps77
    go_wp2_with fail
    refine HWR.out.mono ?_
    rintro e w' ⟨rfl, hw'⟩
    subst w'
    clear HWR
    go_wp2_with fail
    go_loopw [8, 9, 10, 11, 12, 13] (fun u v f i _ _ wr => ∃ k : Nat, k ≤ l.length ∧ i = .int .i64 k ∧ f = .int .i64 0 ∧ Hid (Two2 w u v k (rowF k Z) (rowF k Z) wr)) (fun _ _ _ i _ _ _ => l.length - (intOf i).toNat)
    case atStart => exact ⟨0, Nat.zero_le _, rfl, rfl, Two2.start w⟩
    case round =>
      obtain ⟨k, hk, rfl, rfl, HT1⟩ := hrel
      by_cases hlt : k < l.length
      · have hsz1 := HT1.out.b.size
        go_wp2_with (at_builtin; refine wpList_append_own_at _ rfl _ _ 35 rfl w.heap.size 2 i0 _ 1 8 Try.underlying35 hi0 hz0 hz1 hz2 rfl (by decide) _ k ((rowF k Z).map (Value.int .i64)) rfl (HT1.out.p.alloc _) ⟨wr.heap.size, 0, none⟩ 1 1 [.int .i64 0] rfl rfl (new_cells _ _ #[_] (by simp)) one_int (by simp only [maxLen]; omega) (by omega) (by simp; omega) ?_)
        intro v' w2 hown1 hgrow1 _ hat1
        have HF := Lib.hid (HT1.out.first hown1 hgrow1 hat1)
        rw [← HZ.out] at HF
        clear hown1 hgrow1 hat1 HT1
        have hsz2 := HF.out.2.2.2.size
        go_wp2_with (at_builtin; refine wpList_append_own_at _ rfl _ _ 35 rfl w.heap.size 2 i0 _ 1 8 Try.underlying35 hi0 hz0 hz1 hz2 rfl (by decide) _ k ((rowF k Z).map (Value.int .i64)) rfl (HF.out.2.1.alloc _) ⟨w2.heap.size, 0, none⟩ 1 1 [.int .i64 0] rfl rfl (new_cells _ _ #[_] (by simp)) one_int (by simp only [maxLen]; omega) (by omega) (by simp; omega) ?_)
        intro v'' w3 hown2 hgrow2 _ hat2
        have HT3 := Lib.hid (Two2.second HF.out hown2 hgrow2 hat2)
        rw [← HZ.out] at HT3
        clear hown2 hgrow2 hat2 HF
        go_wp2_with fail
        go_roundw
        case rel => exact ⟨k + 1, by omega, by go_num, rfl, HT3⟩
        case measure => simp [intOf]; omega
      · obtain rfl : k = l.length := by omega
        obtain ⟨A1, c1, rfl⟩ := own_form HT1.out.p
        have HSG := Lib.hid (Seg.of_own HT1.out.p)
        rw [HREP.out] at HSG
        go_wp2_with fail
        refine wp_loop_rounds 1 ?_
        rw [rounds_succ]
        go_wp2_with fail
        go_ret2
        exact ⟨A1, c1, by rw [List.length_replicate]; rfl, HSG.out, HT1.out.b, fun k hk => HT1.out.p.lt k (by rw [List.length_replicate] at hk; exact hk)⟩
set_option maxHeartbeats 1600000 in
set_option maxRecDepth 100000 in
theorem orApportion_any (T : Int) (l : List Int) (A : Option Addr) (c : Nat) (w : World) (hT : I64 T) (hl : ∀ x ∈ l, I64 x) (hs : Seg w w.heap.size A (l.map (Value.int .i64))) (hn : l.length ≤ maxLen) :
    Calls Try.prog 77 #[.int .i64 T, .slice A l.length c] w (GotO w (appL T l) (appE T l)) := by
  have hC := wrong_any T l A c w hl hs hn
  by_cases h1 : chkE T l = 0
  · have F := fit_of h1
    rw [h1, F.val] at hC
    by_cases h2 : T = 0
    · have e1 : appE T l = 0 := by unfold appE; rw [if_neg (by omega), if_pos h2]
      have e2 : appL T l = List.replicate l.length 0 := by unfold appL; rw [if_neg (by omega), if_pos h2]
      rw [e1, e2]
      subst h2
      exact orapp_zero (sumI l) l A c w F.len hC
    · have hT0 := F.pos
      by_cases h3 : sumI l = 0
      · have e1 : appE T l = 17 := by unfold appE; rw [if_neg (by omega), if_neg h2, if_pos h3]
        have e2 : appL T l = [] := by unfold appL; rw [if_neg (by omega), if_neg h2, if_pos h3]
        rw [e1, e2]
        rw [h3] at hC
        have HC := Lib.hid hC
        have h4 : 0 < T := by omega
        clear F e1 e2 h1 h2 h3 hl hs hT hC
        go_enter Try.func77, Try.ntmps77
        go_wp2_with fail
        refine HC.out.mono ?_
        rintro e w1 ⟨rfl, rfl⟩
        go_wp2_with fail
        go_ret2
        exact GotO.nil _ _ _ (Below.refl _ _)
      · have e1 : appE T l = 0 := by unfold appE; rw [if_neg (by omega), if_neg h2, if_neg h3]
        have e2 : appL T l = rowF l.length (ShareLaw.part T (sumI l) (wf l) l.length) := by unfold appL; rw [if_neg (by omega), if_neg h2, if_neg h3]
        rw [e1, e2]
        have h0 := sum_nonneg F.all
        have hI := F.amt
        have hTT := hT
        unfold I64 at hI hTT
        exact orapp_main T l A c w (by omega) (by omega) F.all (by omega) (by omega) F.len hs hC
  · have e1 : appE T l = chkE T l := by unfold appE; rw [if_pos h1]
    have e2 : appL T l = [] := by unfold appL; rw [if_pos h1]
    rw [e1, e2]
    have HC := Lib.hid hC
    have h1' : (chkE T l == 0) = false := by simpa using h1
    have h1n : (chkE T l != 0) = true := by simpa using h1
    clear e1 e2 h1 hl hs hT hC
    generalize chkE T l = E at *
    generalize chkV T l = V at *
    go_enter Try.func77, Try.ntmps77
    go_wp2_with fail
    refine HC.out.mono ?_
    rintro e w1 ⟨rfl, rfl⟩
    go_wp2_with fail
    go_ret2
    exact GotO.nil _ _ _ (Below.refl _ _)
set_option maxHeartbeats 1600000 in
set_option maxRecDepth 100000 in
theorem orAllocate_any (T : Int) (l : List Int) (A : Option Addr) (c : Nat) (w : World) (hT : I64 T) (hl : ∀ x ∈ l, I64 x) (hs : Seg w w.heap.size A (l.map (Value.int .i64))) (hn : l.length ≤ maxLen) :
    Calls Try.prog 53 #[.int .i64 T, .slice A l.length c] w (GotO w (alL T l) (alE T l)) := by
  have hC := wrong_any T l A c w hl hs hn
  by_cases h1 : chkE T l = 0
  · have F := fit_of h1
    have hlen := F.len
    rw [h1, F.val] at hC
    have HC := Lib.hid hC
    by_cases h2 : sumI l ≤ T
    · have e1 : alE T l = 0 := by unfold alE; rw [if_neg (by omega), if_pos h2]
      have e2 : alL T l = l := by unfold alL; rw [if_neg (by omega), if_pos h2]
      rw [e1, e2]
      have inf : (Try.prog.info? 2).map (fun i => (i.zero, i.size, i.bytes)) = some (some (.int .i64 0), 1, 8) := by kernel_rfl
      obtain ⟨i0, hi0, hz0, hz1, hz2⟩ := info_parts inf
      have HS := Lib.hid hs
      clear F e1 e2 h1 hl hs hT hC
      generalize sumI l = S at *
      go_enter Try.func53, Try.ntmps53
      go_wp2_with fail
      refine HC.out.mono ?_
      rintro e w1 ⟨rfl, hw1⟩
      subst w1
      clear HC
      go_wp2_with fail
      go_loopw [8, 9] (fun u i wr => ∃ k : Nat, k ≤ l.length ∧ i = .int .i64 k ∧ Hid (wr.ownsRow w.heap.size 2 1 u (l.take k).length ((l.take k).map (Value.int .i64))) ∧ Hid (Below w.heap.size w wr)) (fun _ i _ => l.length - (intOf i).toNat)
      case atStart => exact ⟨0, Nat.zero_le _, rfl, ⟨by simp, Or.inl ⟨rfl, rfl⟩⟩, Below.refl _ _⟩
      case round =>
        obtain ⟨k, hk, rfl, HO, HB⟩ := hrel
        have hsz := HB.out.size
        by_cases hlt : k < l.length
        · obtain ⟨b, o, rfl, hb, hc⟩ := (HS.out.below HB.out).at (k := k) (by simpa using hlt)
          rw [List.getElem_map] at hc
          have HF := Lib.hid (List.take_succ_eq_append_getElem hlt)
          have hyl : (l.take k).length ≤ k := by rw [List.length_take]; omega
          generalize l.take k = ys at *
          generalize l[k] = x at *
          go_wp2_with (at_builtin; refine wpList_append_own _ rfl _ _ 35 rfl w.heap.size 2 i0 _ 1 8 Try.underlying35 hi0 hz0 hz1 hz2 rfl (by decide) _ ys.length (ys.map (Value.int .i64)) rfl (HO.out.alloc _) ⟨wr.heap.size, 0, none⟩ 1 1 [.int .i64 x] rfl rfl (new_cells _ _ #[_] (by simp)) one_int (by simp only [maxLen]; omega) (by omega) (by simp; omega) ?_)
          intro v' w4 hown1 hgrow1 _
          have HO4 : Hid (w4.ownsRow w.heap.size 2 1 v' (l.take (k + 1)).length ((l.take (k + 1)).map (Value.int .i64))) := by
            show World.ownsRow _ _ _ _ _ _ _
            rw [HF.out, List.map_append, List.length_append, List.length_singleton]
            exact hown1
          have HG4 : Hid (Below w.heap.size w w4) := (HB.out.alloc hsz _).grown hgrow1 (by simp; omega) (fun j hj => own_base HO.out j hj)
          clear hown1 hgrow1
          go_wp2_with fail
          go_roundw
          case rel => exact ⟨k + 1, by omega, by go_num, HO4, HG4⟩
          case measure => simp [intOf]; omega
        · obtain rfl : k = l.length := by omega
          have hO := HO.out
          rw [List.take_length] at hO
          obtain ⟨A1, c1, rfl⟩ := own_form hO
          have HSD := Lib.hid (Seg.of_own hO)
          clear hO
          go_wp2_with fail
          go_ret2
          exact ⟨A1, c1, rfl, HSD.out, HB.out, fun k hk => HO.out.lt k hk⟩
    · have e1 : alE T l = appE T l := by unfold alE; rw [if_neg (by omega), if_neg h2]
      have e2 : alL T l = appL T l := by unfold alL; rw [if_neg (by omega), if_neg h2]
      rw [e1, e2]
      have HD := Lib.hid (orApportion_any T l A c w hT hl hs hn)
      clear F e1 e2 h1 hl hs hT hC
      generalize sumI l = S at *
      generalize appL T l = zs at *
      generalize appE T l = E at *
      go_enter Try.func53, Try.ntmps53
      go_wp2_with fail
      refine HC.out.mono ?_
      rintro e w1 ⟨rfl, rfl⟩
      go_wp2_with fail
      refine HD.out.mono ?_
      rintro e w2 ⟨A2, c2, rfl, hs2, hb2, ho2⟩
      have HO2 := Lib.hid ho2
      clear ho2
      have HS2 := Lib.hid hs2
      have HB2 := Lib.hid hb2
      clear hs2 hb2
      go_wp2_with fail
      go_ret2
      exact ⟨A2, c2, rfl, HS2.out, HB2.out, HO2.out⟩
  · have e1 : alE T l = chkE T l := by unfold alE; rw [if_pos h1]
    have e2 : alL T l = [] := by unfold alL; rw [if_pos h1]
    rw [e1, e2]
    have HC := Lib.hid hC
    have h1' : (chkE T l == 0) = false := by simpa using h1
    have h1n : (chkE T l != 0) = true := by simpa using h1
    clear e1 e2 h1 hl hs hT hC
    generalize chkE T l = E at *
    generalize chkV T l = V at *
    go_enter Try.func53, Try.ntmps53
    go_wp2_with fail
    refine HC.out.mono ?_
    rintro e w1 ⟨rfl, rfl⟩
    go_wp2_with fail
    go_ret2
    exact GotO.nil _ _ _ (Below.refl _ _)
end Go.Proofs.Ytglpnpjjjihghaa
