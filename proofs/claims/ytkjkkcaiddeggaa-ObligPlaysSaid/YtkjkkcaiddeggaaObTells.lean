/-
  What complinelaw19.tells comes to over two sheets that read alike, over this seat's translation: a contract for callers.
-/
import Derived.Test.YtkjkkcaiddeggaaObTellLaw
import Derived.Test.YtkjkkcaiddeggaaObDoes
import Derived.Test.YtkjkkcaiddeggaaBel
import Derived.Deep.DeepCutAuto
import Derived.Deep.CutBlock
namespace Go.Proofs.Ytkjkkcaiddeggaa
open Go.RowKit

theorem same_below {L : List Ob} (A B : Option Addr) (c d : Nat) (w : World) (h1 : Seg w w.heap.size A (obRows L)) (h2 : Seg w w.heap.size B (obRows L)) (hl : L.length ≤ 1000000) :
    Calls Try.prog 17 #[.slice A L.length c, .slice B L.length d] w fun e w' => e = .returned (.bool true) ∧ Below w.heap.size w w' :=
  (same_any L A B c d w h1 h2 hl).mono fun _ _ ⟨he, n, hw⟩ => ⟨he, hw ▸ below_drewN (Below.refl _ _) n⟩
theorem refsize_l (x : Ob) (w : World) (h0 : minI < x.net) (h1 : x.net ≤ 9223372036854775807) :
    Calls Try.prog 14 #[.agg #[.int .i64 x.c, .int .i64 x.m, .int .i64 x.a, .int .i64 x.net, .int .i64 x.done, .int .i64 x.st]] w fun e w' => e = .returned (.int .i64 x.size) ∧ Below w.heap.size w w' := refsize_any x w h0 h1
theorem contains_snoc (m : Int) {l : List Int} {k : Nat} (hk : k < l.length) : (l.take (k + 1)).contains m = ((l.take k).contains m || l[k] == m) := by
  rw [List.take_succ_eq_append_getElem hk]
  rw [Bool.eq_iff_iff]
  simp only [List.contains_iff_mem, List.mem_append, List.mem_singleton, Bool.or_eq_true, beq_iff_eq]
  constructor
  · rintro (h | h)
    · exact .inl h
    · exact .inr h.symm
  · rintro (h | h)
    · exact .inl h
    · exact .inr h.symm

set_option maxRecDepth 100000 in
set_option maxHeartbeats 6400000 in
theorem tells_any (L : List Ob) (m a st : Int) (v vq : Value) (bs bq base : Nat) (w : World) (h : Two w bs bq base v vq L) (hL : Fine L) :
    Calls Try.prog 16 #[.pointer (some ⟨bs, 0, none⟩), .pointer (some ⟨bq, 0, none⟩), .int .i64 m, .int .i64 a, .int .i64 st] w fun e w' => e = .returned (.bool true) ∧ Below w.heap.size w w' := by
  have hl24 := hL.len
  have hl : L.length ≤ 1000000 := by omega
  have HT := Lib.hid h
  have HL := Lib.hid hL
  clear h hL
  go_enter Try.func16, Try.ntmps16
  go_wp2_with fail
  refine (left_any L m a v bs base _ HT.out.s HL.out).mono ?_
  rintro e w1 ⟨rfl, hb1⟩
  have HT1 := Lib.hid (HT.out.below hb1)
  have HB1 := Lib.hid hb1
  have hz1 := hb1.size
  clear hb1
  go_wp2_with fail
  refine (rfind_any L m a vq bq base _ HT1.out.q hl).mono ?_
  rintro e w2 ⟨rfl, rfl⟩
  go_upto_region 3 with fail
  go_cut [11, 12, 13, 67] (fun _ _ _ s wc => s = .bool false ∧ Hid (Below w1.heap.size w1 wc))
  case first =>
    have hbel := fun (n : Bel w1.heap.size w1) (b o : Nat) (hb : b < w1.heap.size) => n.cells b o hb
    by_cases hi : findI m a L < L.length
    · have HI := Lib.hid (find_lt hi)
      have hE : leftE m a L = 0 := by unfold leftE; rw [if_pos hi]
      have hV : leftV m a L = L[findI m a L].size - L[findI m a L].done := by unfold leftV; rw [List.getElem?_eq_getElem hi]
      obtain ⟨o1, o2, o3, o4, o5⟩ := HL.out.each _ (List.getElem_mem hi)
      rw [HI.out, hE, hV]
      generalize findI m a L = i at *
      obtain ⟨g, cap, hvq, hg, hgb, hcap, hfz, d0, d1, d2, d3, d4, d5⟩ := rf_at HT1.out.q hi
      have c0 := HT1.out.q.c0
      have hbq := HT1.out.q.lt
      rw [hvq] at c0
      clear hvq hE hV hfz
      have hs2 : L[i].size ≤ 9223372036854775807 := by unfold Ob.size; unfold minI at o1; split <;> omega
      have HO1 := Lib.hid o1
      clear o1
      have hw1 : IntKind.i64.wrap (L[i].size - L[i].done) = L[i].size - L[i].done := IntWalk.i64_in _ (by omega)
      have hkb : (i : Int) < (L.length : Int) := by omega
      have hk0 : (0 : Int) ≤ (i : Int) := by omega
      have hk1 : decide ((i : Int) < 0) = false := by simp
      refine wp_region_bel w1.heap.size (by kernel_rfl) (by kernel_rfl) ?_
      repeat (go_big_quiet_step ((go_at_call 14; exact Calls.bel_of (Nat.le_refl _) (refsize_l L[i] _ HO1.out o2))))
      refine wpQuiet_nil ?_
      intro _ hw'
      obtain ⟨nq, hw''⟩ := hw'
      subst hw''
      have HN := Lib.hid nq.h
      clear hw1
      go_wp2_with fail
      go_meet
      exact ⟨rfl, HN.out⟩
    · have HI := Lib.hid (find_no hi)
      have hE : leftE m a L = 8 := by unfold leftE; rw [if_neg hi]
      have hV : leftV m a L = 0 := by unfold leftV; rw [List.getElem?_eq_none (by omega)]
      rw [HI.out, hE, hV]
      clear hE hV
      refine wp_region_bel w1.heap.size (by kernel_rfl) (by kernel_rfl) ?_
      repeat (go_big_quiet_step (fail))
      refine wpQuiet_nil ?_
      intro _ hw'
      obtain ⟨nq, hw''⟩ := hw'
      subst hw''
      have HN := Lib.hid nq.h
      go_wp2_with fail
      go_meet
      exact ⟨rfl, HN.out⟩
  case rest =>
    obtain ⟨rfl, HBC⟩ := hcut
    have HT2 := Lib.hid (HT1.out.below HBC.out)
    have HB2 : Hid (Below w.heap.size w wc) := HB1.out.trans (HBC.out.mono hz1)
    have hz2 := HB2.out.size
    go_wp2_with fail
    refine (lacking_any L v bs base _ HT2.out.s hl).mono ?_
    rintro e w3 ⟨v3, rfl, ho3, hb3⟩
    have HMEM := Lib.hid (lack_mem L)
    have HPW := Lib.hid (lack_sorted L)
    have hzl := lack_len L
    generalize lackL L = zs at *
    obtain ⟨A3, c3, rfl⟩ := own_form ho3
    have HSG := Lib.hid (Seg.of_own ho3)
    have HT3 := Lib.hid (HT2.out.below hb3)
    have HB3 : Hid (Below w.heap.size w w3) := HB2.out.trans (hb3.mono hz2)
    have hz3 := HB3.out.size
    clear ho3 hb3
    go_wp2_with fail
    go_loopw [15] (fun i wr => ∃ k : Nat, k ≤ zs.length ∧ i = .int .i64 k ∧ Hid (Below w3.heap.size w3 wr)) (fun i _ => zs.length - (intOf i).toNat)
    case atStart => exact ⟨0, Nat.zero_le _, rfl, Below.refl _ _⟩
    case round =>
      obtain ⟨k, hk, rfl, HB⟩ := hrel
      have hsz := HB.out.size
      have HT4 := Lib.hid (HT3.out.below HB.out)
      have HSK := Lib.hid ((HSG.out.below HB.out).mono hsz)
      by_cases hlt : k < zs.length
      · obtain ⟨b, o, hA3, hb, d0⟩ := HSK.out.at (k := k) (by simpa using hlt)
        rw [List.getElem_map] at d0
        subst hA3
        have hLK : L.any (owesB zs[k]) = true := (HMEM.out _).1 (List.getElem_mem hlt)
        have HLK : Hid (∀ n : Bel wr.heap.size wr, Calls Try.prog 35 #[.pointer (some ⟨bq, 0, none⟩), .int .i64 zs[k]] n.wd fun e w' => e = .returned (.bool true) ∧ Below n.wd.heap.size n.wd w') := fun n => by
          have := lacks_any L zs[k] vq bq base n.wd (HT4.out.q.below n.h) hl
          rw [hLK] at this
          exact this
        clear hLK
        have hbel := fun (n : Bel wr.heap.size wr) (b o : Nat) (hb : b < wr.heap.size) => n.cells b o hb
        have hkb : (k : Int) < (zs.length : Int) := by omega
        have hk0 : (0 : Int) ≤ (k : Int) := by omega
        rcases Nat.eq_zero_or_pos k with rfl | hpos
        · rw [Nat.add_zero] at d0
          go_upto_region 9 with fail
          refine wp_region_bel wr.heap.size (by kernel_rfl) (by kernel_rfl) ?_
          repeat (go_big_quiet_step ((go_at_call 35; exact Calls.bel_of (Nat.le_refl _) (HLK.out _))))
          refine wpQuiet_nil ?_
          intro _ hw'
          obtain ⟨nq, hw''⟩ := hw'
          subst hw''
          have HN : Hid (Below w3.heap.size w3 nq.wd) := HB.out.trans (nq.h.mono hsz)
          clear hbel
          go_wp2_with fail
          go_roundw
          case rel => exact ⟨0 + 1, by omega, by go_num, HN⟩
          case measure => simp [intOf]; omega
        · obtain ⟨j, rfl⟩ : ∃ j, k = j + 1 := ⟨k - 1, by omega⟩
          have hjl : j < zs.length := by omega
          obtain ⟨b', o', e', hb', d1⟩ := HSK.out.at (k := j) (by simpa using hjl)
          rw [List.getElem_map] at d1
          injection e' with e'
          injection e' with e1 e2
          subst e1 e2
          have hpw : zs[j] < zs[j + 1] := List.pairwise_iff_getElem.1 HPW.out j (j + 1) hjl hlt (by omega)
          have hle : decide (zs[j + 1] ≤ zs[j]) = false := by simp; omega
          have hkp : decide ((0 : Int) < ((j + 1 : Nat) : Int)) = true := by simp
          have hjb : (j : Int) < (zs.length : Int) := by omega
          have hj0 : (0 : Int) ≤ (j : Int) := by omega
          clear hpw
          go_upto_region 9 with fail
          refine wp_region_bel wr.heap.size (by kernel_rfl) (by kernel_rfl) ?_
          repeat (go_big_quiet_step ((go_at_call 35; exact Calls.bel_of (Nat.le_refl _) (HLK.out _))))
          refine wpQuiet_nil ?_
          intro _ hw'
          obtain ⟨nq, hw''⟩ := hw'
          subst hw''
          have HN : Hid (Below w3.heap.size w3 nq.wd) := HB.out.trans (nq.h.mono hsz)
          clear hbel hle
          go_wp2_with fail
          go_roundw
          case rel => exact ⟨j + 1 + 1, by omega, by go_num, HN⟩
          case measure => simp [intOf]; omega
      · obtain rfl : k = zs.length := by omega
        have HB4 : Hid (Below w.heap.size w wr) := HB3.out.trans (HB.out.mono hz3)
        go_wp2_with fail
        go_loop [16, 17] (fun hs i => ∃ k : Nat, k ≤ zs.length ∧ i = .int .i64 k ∧ hs = .bool ((zs.take k).contains m)) (fun _ i => zs.length - (intOf i).toNat)
        case atStart => exact ⟨0, Nat.zero_le _, rfl, rfl⟩
        case round =>
          obtain ⟨k, hk, rfl, rfl⟩ := hrel
          by_cases hlt : k < zs.length
          · obtain ⟨b, o, hA3, hb, d0⟩ := HSK.out.at (k := k) (by simpa using hlt)
            rw [List.getElem_map] at d0
            subst hA3
            have HCS := Lib.hid (contains_snoc m hlt)
            cases h1 : (zs.take k).contains m
            · cases h2 : (zs[k] == m)
              · go_wp2_with fail
                go_round
                case rel => exact ⟨k + 1, by omega, by go_num, by rw [HCS.out, h1, h2]; rfl⟩
                case measure => simp [intOf]; omega
              · go_wp2_with fail
                go_round
                case rel => exact ⟨k + 1, by omega, by go_num, by rw [HCS.out, h1, h2]; rfl⟩
                case measure => simp [intOf]; omega
            · go_wp2_with fail
              go_round
              case rel => exact ⟨k + 1, by omega, by go_num, by rw [HCS.out, h1]; rfl⟩
              case measure => simp [intOf]; omega
          · obtain rfl : k = zs.length := by omega
            rw [List.take_length]
            have hEQ : L.any (owesB m) = zs.contains m := by
              rw [Bool.eq_iff_iff, ← HMEM.out m]
              simp
            have HEQ := Lib.hid hEQ
            clear hEQ
            generalize zs.contains m = hm at *
            go_wp2_with fail
            refine (lacks_any L m vq bq base _ HT4.out.q hl).mono ?_
            rintro e w5 ⟨rfl, hb5⟩
            rw [HEQ.out]
            have HT5 := Lib.hid (HT4.out.below hb5)
            have HB5 : Hid (Below w.heap.size w w5) := HB4.out.trans (hb5.mono HB4.out.size)
            clear hb5
            go_wp2_with fail
            refine (count_any L st v bs base _ HT5.out.s hl).mono ?_
            rintro e w6 ⟨rfl, hb6⟩
            have HT6 := Lib.hid (HT5.out.below hb6)
            have HB6 : Hid (Below w.heap.size w w6) := HB5.out.trans (hb6.mono HB5.out.size)
            clear hb6
            go_wp2_with fail
            refine (rcount_any L st vq bq base _ HT6.out.q hl).mono ?_
            rintro e w7 ⟨rfl, rfl⟩
            go_wp2_with fail
            refine (debts_any L v bs base _ HT6.out.s hl).mono ?_
            rintro e w8 ⟨v8, rfl, ho8, hb8⟩
            dsimp only at ho8
            rw [debts_side] at ho8
            obtain ⟨A8, c8, rfl⟩ := own_form ho8
            have HS8 := Lib.hid (Seg.of_own ho8)
            have HT8 := Lib.hid (HT6.out.below hb8)
            have HB8 : Hid (Below w.heap.size w w8) := HB6.out.trans (hb8.mono HB6.out.size)
            clear ho8 hb8
            go_wp2_with fail
            refine (side_any L true vq bq base _ HT8.out.q hl).mono ?_
            rintro e w9 ⟨v9, rfl, ho9, hb9⟩
            obtain ⟨A9, c9, rfl⟩ := own_form ho9
            have HS9 := Lib.hid (Seg.of_own ho9)
            have HS8' := Lib.hid ((HS8.out.below hb9).mono hb9.size)
            have HT9 := Lib.hid (HT8.out.below hb9)
            have HB9 : Hid (Below w.heap.size w w9) := HB8.out.trans (hb9.mono HB8.out.size)
            clear ho9 hb9
            have hfl1 : (L.filter (sideB true)).length ≤ 1000000 := Nat.le_trans (List.length_filter_le _ _) hl
            go_wp2_with fail
            refine (same_below A8 A9 c8 c9 _ HS8'.out HS9.out hfl1).mono ?_
            rintro e w10 ⟨rfl, hb10⟩
            have HT10 := Lib.hid (HT9.out.below hb10)
            have HB10 : Hid (Below w.heap.size w w10) := HB9.out.trans (hb10.mono HB9.out.size)
            clear hb10
            go_wp2_with fail
            refine (claims_any L v bs base _ HT10.out.s hl).mono ?_
            rintro e w11 ⟨v11, rfl, ho11, hb11⟩
            dsimp only at ho11
            rw [claims_side HL.out] at ho11
            obtain ⟨A11, c11, rfl⟩ := own_form ho11
            have HS11 := Lib.hid (Seg.of_own ho11)
            have HT11 := Lib.hid (HT10.out.below hb11)
            have HB11 : Hid (Below w.heap.size w w11) := HB10.out.trans (hb11.mono HB10.out.size)
            clear ho11 hb11
            go_wp2_with fail
            refine (side_any L false vq bq base _ HT11.out.q hl).mono ?_
            rintro e w12 ⟨v12, rfl, ho12, hb12⟩
            obtain ⟨A12, c12, rfl⟩ := own_form ho12
            have HS12 := Lib.hid (Seg.of_own ho12)
            have HS11' := Lib.hid ((HS11.out.below hb12).mono hb12.size)
            have HB12 : Hid (Below w.heap.size w w12) := HB11.out.trans (hb12.mono HB11.out.size)
            clear ho12 hb12
            have hfl2 : (L.filter (sideB false)).length ≤ 1000000 := Nat.le_trans (List.length_filter_le _ _) hl
            go_wp2_with fail
            refine (same_below A11 A12 c11 c12 _ HS11'.out HS12.out hfl2).mono ?_
            rintro e w13 ⟨rfl, hb13⟩
            have HB13 : Hid (Below w.heap.size w w13) := HB12.out.trans (hb13.mono HB12.out.size)
            clear hb13
            go_wp2_with fail
            go_ret
            exact ⟨rfl, HB13.out⟩
end Go.Proofs.Ytkjkkcaiddeggaa
