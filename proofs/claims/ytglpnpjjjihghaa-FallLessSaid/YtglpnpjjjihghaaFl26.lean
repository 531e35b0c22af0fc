/-
  The walk of FallLess, over this seat's translation.
-/
import Derived.Test.YtglpnpjjjihghaaFl23
import Derived.Test.YtglpnpjjjihghaaFl25
import Derived.Test.YtglpnpjjjihghaaFl11
import Derived.Test.YtglpnpjjjihghaaMgE
import Derived.Deep.RegionHeld3
import Derived.Deep.AppendLies
namespace Go.Proofs.Ytglpnpjjjihghaa
open Go.RowKit

set_option maxRecDepth 100000 in
set_option maxHeartbeats 6400000 in
theorem less_law (p : Pol) (l : List Dw) (A : Option Addr) (c : Nat) (w : World) (h : PolOk w p) (h1 : p.co.length ≤ maxLen) (h2 : p.fu.length ≤ maxLen) (hs : Seg w w.heap.size A (dwRows l)) (_h3 : l.length ≤ maxLen) (hI : ∀ x ∈ l, I64 x.n) :
    Calls Try.prog 6 #[p.val, .slice A l.length c] w fun e w' => e = .returned (.bool true) ∧ Below w.heap.size w w' := by
  have HB0 : Hid (Below w.heap.size w (w.alloc (.cells #[.slice p.Ac p.co.length p.cc, .slice p.Af p.fu.length p.cf, .int .i64 p.line, .int .i64 p.cap] 37))) := Lib.hid ((Below.refl _ _).alloc (Nat.le_refl _) _)
  have HX := Lib.hid fun j => cell_new w #[.slice p.Ac p.co.length p.cc, .slice p.Af p.fu.length p.cf, .int .i64 p.line, .int .i64 p.cap] 37 (b := w.heap.size) j rfl
  have hlt0 : w.heap.size < (w.alloc (.cells #[.slice p.Ac p.co.length p.cc, .slice p.Af p.fu.length p.cf, .int .i64 p.line, .int .i64 p.cap] 37)).heap.size := by simp
  have HFW : Hid (∀ W : World, Calls Try.prog 15 #[p.val, .slice none 0 0] W fun e w' => e = .returned (.bool (few23 p [])) ∧ Below W.heap.size W w') := Lib.hid fun W => few23_any p [] none 0 W h1 h2 (Nat.zero_le _)
  have HLS : Hid (l.length ≤ 40 → ∀ W, Below w.heap.size w W → Calls Try.prog 28 #[p.val, .slice A l.length c] W (GotLs (lessF p l).1 (lessF p l).2 W)) := Lib.hid fun hf W hW => less_any p l A c W (h.below hW) h1 ((hs.below hW).mono hW.size) hI (by omega)
  have HRL : Hid (l.length ≤ 40 → ∀ W, Below w.heap.size w W → Calls Try.prog 29 #[p.val, .slice A l.length c] W fun e w' => e = .returned (.int .i64 (lessF p l).2) ∧ Below W.heap.size W w') := Lib.hid fun hf W hW => rless_any p l A c W (h.below hW) h1 ((hs.below hW).mono hW.size) hI (by omega)
  have HTT : Hid (l.length ≤ 40 → ∀ W, Below w.heap.size w W → Calls Try.prog 30 #[.slice A l.length c] W fun e w' => e = .returned (.int .i64 (totV l)) ∧ Below W.heap.size W w') := Lib.hid fun hf W hW => total_any l A c W ((hs.below hW).mono hW.size) hI (by omega)
  have HDN : Hid (l.length ≤ 40 → ∀ (k m : Int) W, Below w.heap.size w W → Calls Try.prog 20 #[.slice A l.length c, .int .i64 l.length, .agg #[.int .i64 k, .int .i64 m]] W fun e w' => e = .returned (.int .i64 (drwS l k m)) ∧ Below W.heap.size W w') := Lib.hid fun hf k m W hW => by
    have := drawn_any l l.length k m A c W ((hs.below hW).mono hW.size) (by omega) (Nat.le_refl _)
    rw [List.take_length] at this
    exact this
  have HP := Lib.hid h
  have HS := Lib.hid hs
  have HI := Lib.hid hI
  have HER : Hid ((lessF p l).2 ≠ 0 → (lessF p l).1 = noP) := Lib.hid lessF_err
  have HLF : Hid ((lessF p l).2 = 0 → LeftF p l (lessF p l).1 ∧ p.fu.length = p.co.length ∧ p.co.length ≤ 16) := Lib.hid leftF_of
  clear h h1 h2 hs _h3 hI
  unfold Pol.val at HFW HLS HRL
  unfold Pol.val
  generalize (lessF p l).1 = Q at *
  generalize (lessF p l).2 = er at *
  go_enter Try.func6, Try.ntmps6
  go_wp2_with fail
  generalize w.alloc (.cells #[.slice p.Ac p.co.length p.cc, .slice p.Af p.fu.length p.cf, .int .i64 p.line, .int .i64 p.cap] 37) = w0 at *
  have HX0 : Hid (∀ W, Below w0.heap.size w0 W → W.cell? ⟨w.heap.size, 0, none⟩ = some (.slice p.Ac p.co.length p.cc) ∧ W.cell? ⟨w.heap.size, 1, none⟩ = some (.slice p.Af p.fu.length p.cf) ∧ W.cell? ⟨w.heap.size, 2, none⟩ = some (.int .i64 p.line) ∧ W.cell? ⟨w.heap.size, 3, none⟩ = some (.int .i64 p.cap)) := Lib.hid fun W hW => by
    have hk := fun j => (hW.cell (p := ⟨w.heap.size, j, none⟩) hlt0).trans (HX.out j)
    exact ⟨hk 0, hk 1, hk 2, hk 3⟩
  have HW0 : Hid (∀ W, Below w0.heap.size w0 W → Below w.heap.size w W) := Lib.hid fun W hW => HB0.out.trans (hW.mono (Nat.le_of_lt hlt0))
  have HAW : Hid (∀ W, Calls Try.prog 16 #[] W fun e w' => e = .returned (.bool true) ∧ Below W.heap.size W w') := Lib.hid fun W => awake23_any W
  have HTR : Hid (∀ W W', Below w0.heap.size w0 W → Below W.heap.size W W' → Below w0.heap.size w0 W') := Lib.hid fun W W' h h' => h.trans (h'.mono h.size)
  clear HX HB0
  refine (HFW.out w0).mono ?_
  rintro e w1 ⟨rfl, hb1⟩
  have HB1 : Hid (Below w0.heap.size w0 w1) := Lib.hid hb1
  clear hb1 HFW
  obtain ⟨c0, c1, c2, c3⟩ := HX0.out w1 HB1.out
  cases hf : few23 p [] with
  | false =>
    clear HLS HRL HTT HDN HER HLF HP HS HI
    go_wp2_with fail
    refine (HAW.out w1).mono ?_
    rintro e w4 ⟨rfl, hb4⟩
    have HB4 := Lib.hid (HTR.out _ _ HB1.out hb4)
    clear hb4
    go_wp2_with fail
    go_ret
    exact ⟨rfl, HW0.out _ HB4.out⟩
  | true =>
    clear hf
    by_cases hl40 : l.length ≤ 40
    case neg =>
      have hd40 : decide ((40 : Int) < (l.length : Int)) = true := decide_eq_true (by omega)
      clear HLS HRL HTT HDN HER HLF HP HS HI
      go_wp2_with fail
      refine (HAW.out w1).mono ?_
      rintro e w4 ⟨rfl, hb4⟩
      have HB4 := Lib.hid (HTR.out _ _ HB1.out hb4)
      clear hb4
      go_wp2_with fail
      go_ret
      exact ⟨rfl, HW0.out _ HB4.out⟩
    have hd40 : decide ((40 : Int) < (l.length : Int)) = false := decide_eq_false (by omega)
    have HLSb := Lib.hid (HLS.out hl40)
    have HRLb := Lib.hid (HRL.out hl40)
    have HTTb := Lib.hid (HTT.out hl40)
    have HDNb := Lib.hid (HDN.out hl40)
    clear HLS HRL HTT HDN
    go_wp2_with fail
    refine (HLSb.out w1 (HW0.out _ HB1.out)).mono ?_
    rintro e w2 ⟨B1, e1, B2, e2, rfl, hp2, hb2⟩
    have HB2 := Lib.hid (HTR.out _ _ HB1.out hb2)
    have HP2 := Lib.hid hp2
    clear hb2 hp2 c0 c1 c2 c3 HLSb
    obtain ⟨c0, c1, c2, c3⟩ := HX0.out w2 HB2.out
    have HX3 := Lib.hid fun j => cell_new w2 #[.slice B1 Q.co.length e1, .slice B2 Q.fu.length e2, .int .i64 Q.line, .int .i64 Q.cap] 37 (b := w2.heap.size) j rfl
    have HB3 : Hid (Below w2.heap.size w2 (w2.alloc (.cells #[.slice B1 Q.co.length e1, .slice B2 Q.fu.length e2, .int .i64 Q.line, .int .i64 Q.cap] 37))) := Lib.hid ((Below.refl _ _).alloc (Nat.le_refl _) _)
    have hxz : w2.heap.size < (w2.alloc (.cells #[.slice B1 Q.co.length e1, .slice B2 Q.fu.length e2, .int .i64 Q.line, .int .i64 Q.cap] 37)).heap.size := by simp
    have hlt2 : w.heap.size < w2.heap.size := by have := HB2.out.size; omega
    go_wp2_with fail
    clear hlt2
    have HB3' := Lib.hid (HTR.out _ _ HB2.out HB3.out)
    have HP3 := Lib.hid (HP2.out.below HB3.out)
    clear HP2 HB3 c0 c1 c2 c3
    generalize w2.alloc (.cells #[.slice B1 Q.co.length e1, .slice B2 Q.fu.length e2, .int .i64 Q.line, .int .i64 Q.cap] 37) = w3 at *
    generalize w2.heap.size = bl at *
    refine (HRLb.out w3 (HW0.out _ HB3'.out)).mono ?_
    rintro e w4 ⟨rfl, hb4⟩
    have HB4 := Lib.hid (HTR.out _ _ HB3'.out hb4)
    have HP4 := Lib.hid (HP3.out.below hb4)
    have HX4 : Hid (∀ j, w4.cell? ⟨bl, j, none⟩ = (#[.slice B1 Q.co.length e1, .slice B2 Q.fu.length e2, .int .i64 Q.line, .int .i64 Q.cap] : Array Value)[j]?) := Lib.hid fun j => (hb4.cell (p := ⟨bl, j, none⟩) hxz).trans (HX3.out j)
    have hxz4 : bl < w4.heap.size := Nat.lt_of_lt_of_le hxz hb4.size
    have hee : (er != er) = false := by simp
    clear hb4 HP3 HX3 HRLb hxz
    go_wp2_with fail
    have HSN := Lib.hid (fun (k : Nat) (hk : k < l.length) => totV_snoc hk)
    have HTB := Lib.hid (fun k : Nat => totV_bd (l.take k))
    go_loop [7, 8] (fun n i => ∃ k : Nat, k ≤ l.length ∧ i = .int .i64 k ∧ n = .int .i64 (totV (l.take k))) (fun _ i => l.length - (intOf i).toNat)
    case atStart => exact ⟨0, Nat.zero_le _, rfl, rfl⟩
    case round =>
      obtain ⟨k, hk, rfl, rfl⟩ := hrel
      by_cases hlt : k < l.length
      · obtain ⟨b, o, rfl, hb, d0, d1, d2⟩ := dw_at (HS.out.below (HW0.out _ HB4.out)) hlt
        have hsn := HSN.out k hlt
        have htb := HTB.out k
        have hxI := HI.out l[k] (List.getElem_mem hlt)
        have hk0 : (0 : Int) ≤ (k : Int) := by omega
        have hkb : (k : Int) < (l.length : Int) := by omega
        have HSK := Lib.hid hsn
        clear hsn
        generalize totV (l.take k) = tv at *
        generalize l[k].n = xn at *
        have hw1 : IntKind.i64.wrap (9223372036854775807 - tv) = 9223372036854775807 - tv := IntWalk.i64_in _ (by omega)
        by_cases g1 : 9223372036854775807 - tv < xn
        · rw [if_pos g1] at HSK
          have gd : decide (9223372036854775807 - tv < xn) = true := decide_eq_true g1
          go_wp2_with fail
          go_round
          case rel => exact ⟨k + 1, by omega, by go_num, by rw [HSK.out]⟩
          case measure => simp [intOf]; omega
        · have gd : decide (9223372036854775807 - tv < xn) = false := decide_eq_false g1
          rw [if_neg g1] at HSK
          by_cases g2 : 0 < xn
          · rw [if_pos g2] at HSK
            have gd2 : decide (0 < xn) = true := decide_eq_true g2
            have hw2 : IntKind.i64.wrap (tv + xn) = tv + xn := IntWalk.i64_in _ (by omega)
            go_wp2_with fail
            go_round
            case rel => exact ⟨k + 1, by omega, by go_num, by rw [HSK.out]⟩
            case measure => simp [intOf]; omega
          · rw [if_neg g2] at HSK
            have gd2 : decide (0 < xn) = false := decide_eq_false g2
            go_wp2_with fail
            go_round
            case rel => exact ⟨k + 1, by omega, by go_num, by rw [HSK.out]⟩
            case measure => simp [intOf]; omega
      · obtain rfl : k = l.length := by omega
        rw [List.take_length]
        clear HSN HTB HI
        go_wp2_with fail
        refine (HTTb.out w4 (HW0.out _ HB4.out)).mono ?_
        rintro e w5 ⟨rfl, hb5⟩
        have HB5 := Lib.hid (HTR.out _ _ HB4.out hb5)
        have HP5 := Lib.hid (HP4.out.below hb5)
        have HX5 : Hid (∀ j, w5.cell? ⟨bl, j, none⟩ = (#[.slice B1 Q.co.length e1, .slice B2 Q.fu.length e2, .int .i64 Q.line, .int .i64 Q.cap] : Array Value)[j]?) := Lib.hid fun j => (hb5.cell (p := ⟨bl, j, none⟩) hxz4).trans (HX4.out j)
        have hxz5 : bl < w5.heap.size := Nat.lt_of_lt_of_le hxz4 hb5.size
        have htt : (totV l != totV l) = false := by simp
        clear hb5 HP4 HX4 HTTb hee
        generalize totV l = tv at *
        by_cases her : er = 0
        case neg =>
          have heb : (er != 0) = true := by simpa using her
          have hQ := HER.out her
          subst hQ
          clear HLF HER
          go_wp2_with fail
          refine (HAW.out w5).mono ?_
          rintro e w6 ⟨rfl, hb6⟩
          have HB6 := Lib.hid (HTR.out _ _ HB5.out hb6)
          have hx6 := fun j => (hb6.cell (p := ⟨bl, j, none⟩) hxz5).trans (HX5.out j)
          have y0 : w6.cell? ⟨bl, 0, none⟩ = some (.slice B1 0 e1) := hx6 0
          have y1 : w6.cell? ⟨bl, 1, none⟩ = some (.slice B2 0 e2) := hx6 1
          have y2 : w6.cell? ⟨bl, 2, none⟩ = some (.int .i64 0) := hx6 2
          have y3 : w6.cell? ⟨bl, 3, none⟩ = some (.int .i64 0) := hx6 3
          clear hb6 hx6 HX5 HP5
          go_wp2_with fail
          go_ret
          exact ⟨rfl, HW0.out _ HB6.out⟩
        obtain ⟨hLF, hfl, h16⟩ := HLF.out her
        have HLE := Lib.hid hLF
        have HFL := Lib.hid hfl
        subst her
        clear HLF HER hLF hfl
        go_wp2_with fail
        obtain ⟨j0, hj0, jz0, jz1, jz2⟩ := info_parts (show (Try.prog.info? 2).map (fun i => (i.zero, i.size, i.bytes)) = some (some (.int .i64 0), 1, 8) by kernel_rfl)
        go_loopw [9, 10, 11] (fun u v i wr => ∃ k : Nat, k ≤ p.co.length ∧ i = .int .i64 ((k : Int) + 1) ∧ Hid (TwoR w5 2 1 u k ((Q.co.take k).map (Value.int .i64)) v k ((Q.fu.take k).map (Value.int .i64)) wr)) (fun _ _ i _ => p.co.length + 1 - (intOf i).toNat)
        case atStart => exact ⟨0, Nat.zero_le _, rfl, TwoR.start (Below.refl _ _)⟩
        case round =>
          obtain ⟨k, hk, rfl, HT⟩ := hrel
          have hsz := HT.out.b.size
          have HBX := Lib.hid (HTR.out _ _ HB5.out HT.out.b)
          obtain ⟨c0, c1, c2, c3⟩ := HX0.out wr HBX.out
          by_cases hlt : k < p.co.length
          · have hltf : k < p.fu.length := by rw [HFL.out]; exact hlt
            obtain ⟨bc, oc, hAc, hbc, dc⟩ := int_at HP.out.c.seg hlt
            obtain ⟨bf, of, hAf, hbf, df⟩ := int_at HP.out.f.seg hltf
            rw [hAc] at c0
            rw [hAf] at c1
            have HKB : Hid (∀ W, Below wr.heap.size wr W → W.cell? ⟨w.heap.size, 0, none⟩ = some (.slice (some ⟨bc, oc, none⟩) p.co.length p.cc) ∧ W.cell? ⟨w.heap.size, 1, none⟩ = some (.slice (some ⟨bf, of, none⟩) p.fu.length p.cf) ∧ W.cell? ⟨bc, oc + k, none⟩ = some (.int .i64 p.co[k]) ∧ W.cell? ⟨bf, of + k, none⟩ = some (.int .i64 p.fu[k])) := Lib.hid fun W hW => by
              have hb := HTR.out _ _ HBX.out hW
              obtain ⟨a0, a1, -, -⟩ := HX0.out W hb
              rw [hAc] at a0
              rw [hAf] at a1
              have hb' := HW0.out _ hb
              exact ⟨a0, a1, (hb'.cell (p := ⟨bc, oc + k, none⟩) hbc).trans dc, (hb'.cell (p := ⟨bf, of + k, none⟩) hbf).trans df⟩
            clear hAc hAf dc df
            have hk0 : (0 : Int) ≤ (k : Int) := by omega
            have hkb : (k : Int) < (p.co.length : Int) := by omega
            have hkf : (k : Int) < (p.fu.length : Int) := by omega
            have hg : decide ((k : Int) + 1 ≤ (p.co.length : Int)) = true := decide_eq_true (by omega)
            have hkw : IntKind.i64.wrap ((k : Int) + 1 - 1) = (k : Int) := by rw [IntWalk.i64_in _ (by omega)]; omega
            have hkw2 : IntKind.i64.wrap (k : Int) = (k : Int) := IntWalk.i64_in _ (by omega)
            have hkw3 : IntKind.i64.wrap ((k : Int) + 1 + 1) = (k : Int) + 1 + 1 := IntWalk.i64_in _ (by omega)
            obtain ⟨Au, cu, rfl⟩ := own_form HT.out.p
            obtain ⟨Av, cv, rfl⟩ := own_form HT.out.r
            have hQc : k < Q.co.length := by rw [HLE.out.l1]; exact hlt
            have hQf : k < Q.fu.length := by rw [HLE.out.l2]; exact hlt
            have hy1 : IntKind.i64.wrap (atI p.co ((k : Int) + 1) - drwS l 8 ((k : Int) + 1)) = atI Q.co ((k : Int) + 1) := by rw [IntKind.wrap_i64]; have := HLE.out.co k hlt; unfold wrap64 at this; exact this
            have hy2 : IntKind.i64.wrap (atI p.fu ((k : Int) + 1) - drwS l 9 ((k : Int) + 1)) = atI Q.fu ((k : Int) + 1) := by rw [IntKind.wrap_i64]; have := HLE.out.fu k hlt; unfold wrap64 at this; exact this
            rw [atI_at hlt, atI_at hQc] at hy1
            rw [atI_at hltf, atI_at hQf] at hy2
            have HQ1 : Hid ((Q.co.take (k + 1)).map (Value.int .i64) = (Q.co.take k).map (Value.int .i64) ++ [.int .i64 Q.co[k]]) := Lib.hid (by rw [List.take_succ_eq_append_getElem hQc, List.map_append]; rfl)
            have HQ2 : Hid ((Q.fu.take (k + 1)).map (Value.int .i64) = (Q.fu.take k).map (Value.int .i64) ++ [.int .i64 Q.fu[k]]) := Lib.hid (by rw [List.take_succ_eq_append_getElem hQf, List.map_append]; rfl)
            have HDX : Hid (∀ W, Below wr.heap.size wr W → Calls Try.prog 20 #[.slice A l.length c, .int .i64 l.length, .agg #[.int .i64 8, .int .i64 ((k : Int) + 1)]] W fun e w' => e = .returned (.int .i64 (drwS l 8 ((k : Int) + 1))) ∧ Below W.heap.size W w') := Lib.hid fun W hW => HDNb.out _ _ W (HW0.out _ (HTR.out _ _ HBX.out hW))
            have HDY : Hid (∀ W, Below w0.heap.size w0 W → Calls Try.prog 20 #[.slice A l.length c, .int .i64 l.length, .agg #[.int .i64 9, .int .i64 ((k : Int) + 1)]] W fun e w' => e = .returned (.int .i64 (drwS l 9 ((k : Int) + 1))) ∧ Below W.heap.size W w') := Lib.hid fun W hW => HDNb.out _ _ W (HW0.out _ hW)
            generalize drwS l 8 ((k : Int) + 1) = dv1 at *
            generalize drwS l 9 ((k : Int) + 1) = dv2 at *
            generalize p.co[k] = x1 at *
            generalize p.fu[k] = x2 at *
            generalize Q.co[k] = y1 at *
            generalize Q.fu[k] = y2 at *
            generalize (Q.co.take k).map (Value.int .i64) = us at *
            generalize (Q.fu.take k).map (Value.int .i64) = vs at *
            have hw5 : w.heap.size < w5.heap.size := by have := HB5.out.size; omega
            have hlu := fun j hj => HT.out.p.lt j hj
            have hlv := fun j hj => HT.out.r.lt j hj
            have HLU := Lib.hid hlu
            have HLV := Lib.hid hlv
            clear hlu hlv
            go_wp2_with fail
            have HBW : Hid (Below wr.heap.size wr ((wr.alloc (.cells #[.int .i64 8, .int .i64 ((k : Int) + 1)] 45)).alloc (.cells #[.int .i64 9, .int .i64 ((k : Int) + 1)] 45))) := Lib.hid (((Below.refl _ _).alloc (Nat.le_refl _) _).alloc (by simp) _)
            have HAC : Hid ((∀ j, ((wr.alloc (.cells #[.int .i64 8, .int .i64 ((k : Int) + 1)] 45)).alloc (.cells #[.int .i64 9, .int .i64 ((k : Int) + 1)] 45)).cell? ⟨wr.heap.size, j, none⟩ = (#[.int .i64 8, .int .i64 ((k : Int) + 1)] : Array Value)[j]?) ∧ (∀ j, ((wr.alloc (.cells #[.int .i64 8, .int .i64 ((k : Int) + 1)] 45)).alloc (.cells #[.int .i64 9, .int .i64 ((k : Int) + 1)] 45)).cell? ⟨wr.heap.size + 1, j, none⟩ = (#[.int .i64 9, .int .i64 ((k : Int) + 1)] : Array Value)[j]?)) := Lib.hid ⟨fun j => (cell_old _ _ _ (by simp)).trans (cell_new _ _ _ j rfl), fun j => cell_new _ _ _ j (by simp)⟩
            have hzx : ((wr.alloc (.cells #[.int .i64 8, .int .i64 ((k : Int) + 1)] 45)).alloc (.cells #[.int .i64 9, .int .i64 ((k : Int) + 1)] 45)).heap.size = wr.heap.size + 2 := by simp
            have HTX := Lib.hid (HT.out.below HBW.out)
            generalize (wr.alloc (.cells #[.int .i64 8, .int .i64 ((k : Int) + 1)] 45)).alloc (.cells #[.int .i64 9, .int .i64 ((k : Int) + 1)] 45) = wx at *
            have HZX := Lib.hid hzx
            have HDA : Hid (∀ W, Below wx.heap.size wx W → Calls Try.prog 20 #[.slice A l.length c, .int .i64 l.length, .agg #[.int .i64 8, .int .i64 ((k : Int) + 1)]] W fun e w' => e = .returned (.int .i64 dv1) ∧ Below W.heap.size W w') := Lib.hid fun W hW => HDX.out W (HBW.out.trans (hW.mono HBW.out.size))
            have HK1 : Hid (∀ W W' (row : Option Nat), (∀ j, row = some j → w5.heap.size ≤ j ∧ j < wr.heap.size) → Below wx.heap.size wx W → W.grownBy W' row → W'.cell? ⟨w.heap.size, 0, none⟩ = some (.slice (some ⟨bc, oc, none⟩) p.co.length p.cc) ∧ W'.cell? ⟨bc, oc + k, none⟩ = some (.int .i64 x1) ∧ W'.cell? ⟨wr.heap.size, 0, none⟩ = some (.int .i64 8) ∧ W'.cell? ⟨wr.heap.size, 1, none⟩ = some (.int .i64 ((k : Int) + 1)) ∧ W'.cell? ⟨w.heap.size, 1, none⟩ = some (.slice (some ⟨bf, of, none⟩) p.fu.length p.cf) ∧ W'.cell? ⟨bf, of + k, none⟩ = some (.int .i64 x2) ∧ W'.cell? ⟨wr.heap.size + 1, 0, none⟩ = some (.int .i64 9) ∧ W'.cell? ⟨wr.heap.size + 1, 1, none⟩ = some (.int .i64 ((k : Int) + 1))) := Lib.hid fun W W' row hrow hW hg => by
              obtain ⟨q0, q1, q2, q3⟩ := HKB.out W (HBW.out.trans (hW.mono HBW.out.size))
              have hz := hW.size
              have kp : ∀ b o, b < W.heap.size → (∀ j, row = some j → b ≠ j) → W'.cell? ⟨b, o, none⟩ = W.cell? ⟨b, o, none⟩ := fun b o hb hne => World.cell?_of_block (a := ⟨b, o, none⟩) (hg.block b hb fun e => hne b e.symm rfl)
              have n1 : ∀ j, row = some j → w.heap.size ≠ j := fun j hj => by have := hrow j hj; omega
              have n2 : ∀ j, row = some j → bc ≠ j := fun j hj => by have := hrow j hj; omega
              have n3 : ∀ j, row = some j → bf ≠ j := fun j hj => by have := hrow j hj; omega
              have n4 : ∀ j, row = some j → wr.heap.size ≠ j := fun j hj => by have := hrow j hj; omega
              have n5 : ∀ j, row = some j → wr.heap.size + 1 ≠ j := fun j hj => by have := hrow j hj; omega
              have za := fun j => (hW.cell (p := ⟨wr.heap.size, j, none⟩) (by show wr.heap.size < wx.heap.size; omega)).trans (HAC.out.1 j)
              have zb := fun j => (hW.cell (p := ⟨wr.heap.size + 1, j, none⟩) (by show wr.heap.size + 1 < wx.heap.size; omega)).trans (HAC.out.2 j)
              exact ⟨(kp _ _ (by omega) n1).trans q0, (kp _ _ (by omega) n2).trans q2, (kp _ _ (by omega) n4).trans (za 0), (kp _ _ (by omega) n4).trans (za 1), (kp _ _ (by omega) n1).trans q1, (kp _ _ (by omega) n3).trans q3, (kp _ _ (by omega) n5).trans (zb 0), (kp _ _ (by omega) n5).trans (zb 1)⟩
            have HKN : Hid (∀ W, Below wx.heap.size wx W → W.cell? ⟨w.heap.size, 0, none⟩ = some (.slice (some ⟨bc, oc, none⟩) p.co.length p.cc) ∧ W.cell? ⟨bc, oc + k, none⟩ = some (.int .i64 x1) ∧ W.cell? ⟨wr.heap.size, 0, none⟩ = some (.int .i64 8) ∧ W.cell? ⟨wr.heap.size, 1, none⟩ = some (.int .i64 ((k : Int) + 1))) := Lib.hid fun W hW => by
              obtain ⟨s0, s1, s2, s3, -⟩ := HK1.out W W none (fun j hj => by cases hj) hW ⟨rfl, rfl, rfl, Nat.le_refl _, fun _ _ _ => rfl⟩
              exact ⟨s0, s1, s2, s3⟩
            clear hzx c0 c1 c2 c3
            go_region_held3 (fun w' => w'.cell? ⟨w.heap.size, 0, none⟩ = some (.slice (some ⟨bc, oc, none⟩) p.co.length p.cc) ∧ w'.cell? ⟨bc, oc + k, none⟩ = some (.int .i64 x1) ∧ w'.cell? ⟨wr.heap.size, 0, none⟩ = some (.int .i64 8) ∧ w'.cell? ⟨wr.heap.size, 1, none⟩ = some (.int .i64 ((k : Int) + 1))) (first | (with_reducible exact HKN.out _ (Below.refl _ _).drew) | (with_reducible exact HKN.out _ HB6.out) | (with_reducible exact HKN.out _ HB6a.out) | (with_reducible exact HKN.out _ (HB6.out.alloc HB6.out.size _)) | (with_reducible exact HK7.out)) (first
              | (go_at_call 20; refine (HDA.out _ (by first | exact (Below.refl _ _).drew | exact Below.refl _ _)).mono ?_; rintro e w6 ⟨rfl, hb6⟩; have HB6 : Hid (Below wx.heap.size wx w6) := Lib.hid ((Below.refl _ _).drew.trans hb6); clear hb6)
              | (refine step_append_lies _ rfl _ _ 35 rfl w5.heap.size 2 j0 _ 1 8 Try.underlying35 hj0 jz0 jz1 jz2 rfl (by decide) _ k us rfl ((own_below HTX.out.p HB6.out).alloc _) ⟨w6.heap.size, 0, none⟩ 1 1 [.int .i64 y1] rfl rfl (new_cells _ _ #[_] (by simp)) one_int (by decide) (by simp only [maxLen]; omega) (by omega) (by have := HTX.out.b.size; have := HB6.out.size; simp; omega) _ rfl ?_; intro g7 cap7 w7 hown1 hgrow1 hat1 hlt1; have HT7 := Lib.hid (HTX.out.first (HB6.out.alloc HB6.out.size _) hown1 hgrow1 (hat1.imp id (fun e => by rw [e]; have := HB6.out.size; simp; omega))); have HZ7 : Hid (wr.heap.size + 2 ≤ w7.heap.size) := Lib.hid (by have h1 := hgrow1.size; have h2 := HB6.out.size; have h3 := HZX.out; rw [Deep.nblk_alloc] at h1; omega); have HC7 := Lib.hid (HK1.out _ _ _ HLU.out (HB6.out.alloc HB6.out.size _) hgrow1); have HK7 := Lib.hid (⟨HC7.out.1, HC7.out.2.1, HC7.out.2.2.1, HC7.out.2.2.2.1⟩ : w7.cell? ⟨w.heap.size, 0, none⟩ = some (.slice (some ⟨bc, oc, none⟩) p.co.length p.cc) ∧ w7.cell? ⟨bc, oc + k, none⟩ = some (.int .i64 x1) ∧ w7.cell? ⟨wr.heap.size, 0, none⟩ = some (.int .i64 8) ∧ w7.cell? ⟨wr.heap.size, 1, none⟩ = some (.int .i64 ((k : Int) + 1))); clear hown1 hgrow1 hat1 hlt1))
            have HB7 := Lib.hid (HTR.out _ _ HB5.out HT7.out.b)
            have HDB : Hid (∀ W, Below w7.heap.size w7 W → Calls Try.prog 20 #[.slice A l.length c, .int .i64 l.length, .agg #[.int .i64 9, .int .i64 ((k : Int) + 1)]] W fun e w' => e = .returned (.int .i64 dv2) ∧ Below W.heap.size W w') := Lib.hid fun W hW => HDY.out W (HTR.out _ _ HB7.out hW)
            have HK2 : Hid (∀ W W' (row : Option Nat), (∀ j, row = some j → w5.heap.size ≤ j ∧ j < wr.heap.size) → Below w7.heap.size w7 W → W.grownBy W' row → W'.cell? ⟨w.heap.size, 1, none⟩ = some (.slice (some ⟨bf, of, none⟩) p.fu.length p.cf) ∧ W'.cell? ⟨bf, of + k, none⟩ = some (.int .i64 x2) ∧ W'.cell? ⟨wr.heap.size + 1, 0, none⟩ = some (.int .i64 9) ∧ W'.cell? ⟨wr.heap.size + 1, 1, none⟩ = some (.int .i64 ((k : Int) + 1))) := Lib.hid fun W W' row hrow hW hg => by
              obtain ⟨-, -, -, -, q1, q3, z0, z1⟩ := HC7.out
              have hz := hW.size
              have hz7 := HZ7.out
              have kp : ∀ b o, b < w7.heap.size → (∀ j, row = some j → b ≠ j) → W'.cell? ⟨b, o, none⟩ = w7.cell? ⟨b, o, none⟩ := fun b o hb hne => (World.cell?_of_block (a := ⟨b, o, none⟩) (hg.block b (by omega) fun e => hne b e.symm rfl)).trans (hW.cell (p := ⟨b, o, none⟩) hb)
              have n1 : ∀ j, row = some j → w.heap.size ≠ j := fun j hj => by have := hrow j hj; omega
              have n3 : ∀ j, row = some j → bf ≠ j := fun j hj => by have := hrow j hj; omega
              have n5 : ∀ j, row = some j → wr.heap.size + 1 ≠ j := fun j hj => by have := hrow j hj; omega
              exact ⟨(kp _ _ (by omega) n1).trans q1, (kp _ _ (by omega) n3).trans q3, (kp _ _ (by omega) n5).trans z0, (kp _ _ (by omega) n5).trans z1⟩
            have HKM : Hid (∀ W, Below w7.heap.size w7 W → W.cell? ⟨w.heap.size, 1, none⟩ = some (.slice (some ⟨bf, of, none⟩) p.fu.length p.cf) ∧ W.cell? ⟨bf, of + k, none⟩ = some (.int .i64 x2) ∧ W.cell? ⟨wr.heap.size + 1, 0, none⟩ = some (.int .i64 9) ∧ W.cell? ⟨wr.heap.size + 1, 1, none⟩ = some (.int .i64 ((k : Int) + 1))) := Lib.hid fun W hW =>
              HK2.out W W none (fun j hj => by cases hj) hW ⟨rfl, rfl, rfl, Nat.le_refl _, fun _ _ _ => rfl⟩
            clear HK1 HKN HDA HK7 HAC HBW HTX
            go_wp2_with fail
            go_region_held3 (fun w' => w'.cell? ⟨w.heap.size, 1, none⟩ = some (.slice (some ⟨bf, of, none⟩) p.fu.length p.cf) ∧ w'.cell? ⟨bf, of + k, none⟩ = some (.int .i64 x2) ∧ w'.cell? ⟨wr.heap.size + 1, 0, none⟩ = some (.int .i64 9) ∧ w'.cell? ⟨wr.heap.size + 1, 1, none⟩ = some (.int .i64 ((k : Int) + 1))) (first | (with_reducible exact HKM.out _ (Below.refl _ _).drew) | (with_reducible exact HKM.out _ HB8.out) | (with_reducible exact HKM.out _ (HB8.out.alloc HB8.out.size _)) | (with_reducible exact HK9.out)) (first
              | (go_at_call 20; refine (HDB.out _ (by first | exact (Below.refl _ _).drew | exact Below.refl _ _)).mono ?_; rintro e w8 ⟨rfl, hb8⟩; have HB8 : Hid (Below w7.heap.size w7 w8) := Lib.hid ((Below.refl _ _).drew.trans hb8); clear hb8)
              | (refine step_append_lies _ rfl _ _ 35 rfl w5.heap.size 2 j0 _ 1 8 Try.underlying35 hj0 jz0 jz1 jz2 rfl (by decide) _ k vs rfl ((own_below HT7.out.r HB8.out).alloc _) ⟨w8.heap.size, 0, none⟩ 1 1 [.int .i64 y2] rfl rfl (new_cells _ _ #[_] (by simp)) one_int (by decide) (by simp only [maxLen]; omega) (by omega) (by have := HT7.out.b.size; have := HB8.out.size; simp; omega) _ rfl ?_; intro g9 cap9 w9 hown2 hgrow2 hat2 hlt2; have HT9 := Lib.hid (HT7.out.second (HB8.out.alloc HB8.out.size _) hown2 hgrow2 (hat2.imp id (fun e => by rw [e]; have := HB8.out.size; simp; omega))); have HK9 := Lib.hid (HK2.out _ _ _ HLV.out (HB8.out.alloc HB8.out.size _) hgrow2); clear hown2 hgrow2 hat2 hlt2))
            rw [← HQ1.out, ← HQ2.out] at HT9
            go_wp2_with fail
            go_roundw
            case rel => exact ⟨k + 1, by omega, by go_num, HT9⟩
            case measure => simp [intOf]; omega
          · obtain rfl : k = p.co.length := by omega
            have hg : decide ((p.co.length : Int) + 1 ≤ (p.co.length : Int)) = false := decide_eq_false (by omega)
            obtain ⟨Au, cu, rfl⟩ := own_form HT.out.p
            obtain ⟨Av, cv, rfl⟩ := own_form HT.out.r
            have hs1 := Seg.of_own HT.out.p
            have hs2 := Seg.of_own HT.out.r
            rw [← HLE.out.l1, List.take_length] at hs1
            rw [← HLE.out.l2, List.take_length] at hs2
            have HS1 := Lib.hid hs1
            have HS2 := Lib.hid hs2
            have HTB5 := Lib.hid HT.out.b
            have HSA : Hid (∀ W, Below wr.heap.size wr W → Calls Try.prog 31 #[.slice B1 p.co.length e1, .slice Au p.co.length cu] W fun e w' => e = .returned (.bool true) ∧ Below W.heap.size W w') := Lib.hid fun W hW => by
              have := same_any Q.co Q.co B1 Au e1 cu W ((HP5.out.below (HTB5.out.trans (hW.mono HTB5.out.size))).c.seg) ((HS1.out.below hW).mono hW.size) (by rw [HLE.out.l1]; omega) rfl
              rw [HLE.out.l1] at this
              exact this
            have HSB : Hid (∀ W, Below wr.heap.size wr W → Calls Try.prog 31 #[.slice B2 p.co.length e2, .slice Av p.co.length cv] W fun e w' => e = .returned (.bool true) ∧ Below W.heap.size W w') := Lib.hid fun W hW => by
              have := same_any Q.fu Q.fu B2 Av e2 cv W ((HP5.out.below (HTB5.out.trans (hW.mono HTB5.out.size))).f.seg) ((HS2.out.below hW).mono hW.size) (by rw [HLE.out.l2]; omega) rfl
              rw [HLE.out.l2] at this
              exact this
            have HDC : Hid (∀ W, Below wr.heap.size wr W → Calls Try.prog 20 #[.slice A l.length c, .int .i64 l.length, .agg #[.int .i64 3, .int .i64 0]] W fun e w' => e = .returned (.int .i64 (drwS l 3 0)) ∧ Below W.heap.size W w') := Lib.hid fun W hW => HDNb.out _ _ W (HW0.out _ (HTR.out _ _ HBX.out hW))
            have HDD : Hid (∀ W, Below wr.heap.size wr W → Calls Try.prog 20 #[.slice A l.length c, .int .i64 l.length, .agg #[.int .i64 4, .int .i64 0]] W fun e w' => e = .returned (.int .i64 (drwS l 4 0)) ∧ Below W.heap.size W w') := Lib.hid fun W hW => HDNb.out _ _ W (HW0.out _ (HTR.out _ _ HBX.out hW))
            have HAX : Hid (∀ W, Below wr.heap.size wr W → Calls Try.prog 16 #[] W fun e w' => e = .returned (.bool true) ∧ Below W.heap.size W w') := Lib.hid fun W _ => HAW.out W
            have hz3 : IntKind.i64.wrap (p.line - drwS l 3 0) = Q.line := by rw [IntKind.wrap_i64]; have := HLE.out.ln; unfold wrap64 at this; exact this
            have hz4 : IntKind.i64.wrap (p.cap - drwS l 4 0) = Q.cap := by rw [IntKind.wrap_i64]; have := HLE.out.cp; unfold wrap64 at this; exact this
            have hx := fun j => (HTB5.out.cell (p := ⟨bl, j, none⟩) hxz5).trans (HX5.out j)
            have y0 : wr.cell? ⟨bl, 0, none⟩ = some (.slice B1 Q.co.length e1) := hx 0
            have y1 : wr.cell? ⟨bl, 1, none⟩ = some (.slice B2 Q.fu.length e2) := hx 1
            have y2 : wr.cell? ⟨bl, 2, none⟩ = some (.int .i64 Q.line) := hx 2
            have y3 : wr.cell? ⟨bl, 3, none⟩ = some (.int .i64 Q.cap) := hx 3
            rw [HLE.out.l1] at y0
            rw [HLE.out.l2] at y1
            have hbW : bl < wr.heap.size := by omega
            have hxW : w.heap.size < wr.heap.size := by have := HBX.out.size; omega
            have hbel := fun (n : Bel wr.heap.size wr) (b o : Nat) (hb : b < wr.heap.size) => n.cells b o hb
            generalize drwS l 3 0 = dv3 at *
            generalize drwS l 4 0 = dv4 at *
            generalize Q.line = ql at *
            generalize Q.cap = qc at *
            have hq3 : (ql == ql) = true := by simp
            have hq4 : (qc == qc) = true := by simp
            clear hx HX5 HP5 hs1 hs2 HT HLE HFL HDNb
            go_wp2_with fail
            refine wp_region_bel wr.heap.size (by kernel_rfl) (by kernel_rfl) ?_
            repeat (go_big_quiet_step (first | (go_at_call 16; (with_reducible exact Calls.bel_of (Nat.le_refl _) (HAX.out _ (Bel.h _)))) | (go_at_call 31; first | (with_reducible exact Calls.bel_of (Nat.le_refl _) (HSA.out _ (Bel.h _))) | (with_reducible exact Calls.bel_of (Nat.le_refl _) (HSB.out _ (Bel.h _)))) | (go_at_call 20; first | (with_reducible exact Calls.bel_of (Nat.le_refl _) (HDC.out _ (Bel.h _))) | (with_reducible exact Calls.bel_of (Nat.le_refl _) (HDD.out _ (Bel.h _))))))
            refine wpQuiet_nil ?_
            intro _ hw'
            obtain ⟨nq, hw''⟩ := hw'
            subst hw''
            have HN : Hid (Below w0.heap.size w0 nq.wd) := Lib.hid (HTR.out _ _ HBX.out nq.h)
            clear hbel
            go_wp2_with fail
            go_ret
            exact ⟨rfl, HW0.out _ HN.out⟩
end Go.Proofs.Ytglpnpjjjihghaa
