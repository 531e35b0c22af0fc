/-
  The walk of FallBounds, over this seat's translation.
-/
import Derived.Test.YtglpnpjjjihghaaFl23
import Derived.Test.YtglpnpjjjihghaaBndLaw
import Derived.Test.YtglpnpjjjihghaaFl11
import Derived.Test.YtglpnpjjjihghaaBel
namespace Go.Proofs.Ytglpnpjjjihghaa
open Go.RowKit

set_option maxRecDepth 100000 in
set_option maxHeartbeats 6400000 in
theorem bounds_law (p : Pol) (os : List Int) (need : Int) (A : Option Addr) (c : Nat) (w : World) (h : PolOk w p) (h1 : p.co.length ≤ maxLen) (h2 : p.fu.length ≤ maxLen) (hs : Seg w w.heap.size A (os.map (Value.int .i64))) (h3 : os.length ≤ maxLen) (hI : ∀ x ∈ os, I64 x) (hN : I64 need) :
    Calls Try.prog 7 #[p.val, .slice A os.length c, .int .i64 need] w fun e w' => e = .returned (.bool true) ∧ Below w.heap.size w w' := by
  have HB0 : Hid (Below w.heap.size w (w.alloc (.cells #[.slice p.Ac p.co.length p.cc, .slice p.Af p.fu.length p.cf, .int .i64 p.line, .int .i64 p.cap] 37))) := Lib.hid ((Below.refl _ _).alloc (Nat.le_refl _) _)
  have HX := Lib.hid fun j => cell_new w #[.slice p.Ac p.co.length p.cc, .slice p.Af p.fu.length p.cf, .int .i64 p.line, .int .i64 p.cap] 37 (b := w.heap.size) j rfl
  have hlt0 : w.heap.size < (w.alloc (.cells #[.slice p.Ac p.co.length p.cc, .slice p.Af p.fu.length p.cf, .int .i64 p.line, .int .i64 p.cap] 37)).heap.size := by simp
  have HFW : Hid (∀ W : World, Calls Try.prog 15 #[p.val, .slice A os.length c] W fun e w' => e = .returned (.bool (few23 p os)) ∧ Below W.heap.size W w') := Lib.hid fun W => few23_any p os A c W h1 h2 h3
  have HL : Hid (few23 p os = true → os.length ≤ 20) := Lib.hid fun hf => by
    unfold few23 at hf
    simp only [Bool.and_eq_true, decide_eq_true_eq] at hf
    omega
  have HPL : Hid (os.length ≤ 20 → ∀ W, Below w.heap.size w W → Calls Try.prog 17 #[p.val, .slice A os.length c, .int .i64 need] W (GotDE (planL p os need) (planE p os need) W)) := Lib.hid fun hf W hW => plan_any p os need A c W (h.below hW) h1 ((hs.below hW).mono hW.size) (by omega) hI hN
  have HRM : Hid (os.length ≤ 20 → ∀ W, Below w.heap.size w W → Calls Try.prog 22 #[p.val, .slice A os.length c] W fun e w' => e = .returned (.tuple #[.int .i64 (roomV p os), .int .i64 (mayE p os)]) ∧ Below W.heap.size W w') := Lib.hid fun hf W hW => room_any p os A c W (h.below hW) h1 ((hs.below hW).mono hW.size) (by omega) hI
  have HBF : Hid (os.length ≤ 20 → planE p os need = 0 → BndF p os need (planL p os need) ∧ BndL p os need (planL p os need) ∧ MayF p os) := Lib.hid fun hf he => ⟨bndF_of he hN (by omega), bndL_of he hN (by omega), mayF_of (bndL_of he hN (by omega)).pmay⟩
  have HLN : Hid (planE p os need ≠ 0 → planL p os need = []) := Lib.hid fun he => by unfold planL; rw [if_neg he]
  have HLS : Hid (os.length ≤ 20 → planE p os need = 0 → ∀ (A2 : Option Addr) (c2 : Nat) W, Below w.heap.size w W → Seg W W.heap.size A2 (dwRows (planL p os need)) → Calls Try.prog 28 #[p.val, .slice A2 (planL p os need).length c2] W (GotLs ((planL p os need).foldl subP p) 0 W)) := Lib.hid fun hf he A2 c2 W hW hg => by
    have B := bndF_of he hN (show os.length ≤ 100 by omega)
    have L := bndL_of he hN (show os.length ≤ 100 by omega)
    have F := mayF_of L.pmay
    have := less_any p (planL p os need) A2 c2 W (h.below hW) h1 hg (fun x hx => by
      have h1 := B.one x hx
      have h2 := there_max (q := p) F.all F.len (k := x.k) (m := x.m)
      unfold I64
      omega) (by have := B.len; omega)
    rw [L.less] at this
    exact this
  have HTT : Hid (os.length ≤ 20 → planE p os need = 0 → ∀ (A2 : Option Addr) (c2 : Nat) W, Seg W W.heap.size A2 (dwRows (planL p os need)) → Calls Try.prog 30 #[.slice A2 (planL p os need).length c2] W fun e w' => e = .returned (.int .i64 (min need (roomV p os))) ∧ Below W.heap.size W w') := Lib.hid fun hf he A2 c2 W hg => by
    have B := bndF_of he hN (show os.length ≤ 100 by omega)
    have L := bndL_of he hN (show os.length ≤ 100 by omega)
    have F := mayF_of L.pmay
    have := total_any (planL p os need) A2 c2 W hg (fun x hx => by
      have h1 := B.one x hx
      have h2 := there_max (q := p) F.all F.len (k := x.k) (m := x.m)
      unfold I64
      omega) (by have := B.len; omega)
    rw [L.tot] at this
    exact this
  have HRL : Hid (os.length ≤ 20 → planE p os need = 0 → ∀ (A1 A2 : Option Addr) (d1 d2 : Nat) (Q : Pol) W, Q = (planL p os need).foldl subP p → Below w.heap.size w W → PolOk W ⟨Q.co, A1, d1, Q.fu, A2, d2, Q.line, Q.cap⟩ → Calls Try.prog 22 #[.agg #[.slice A1 Q.co.length d1, .slice A2 Q.fu.length d2, .int .i64 Q.line, .int .i64 Q.cap], .slice A os.length c] W fun e w' => e = .returned (.tuple #[.int .i64 (roomV p os - min need (roomV p os)), .int .i64 0]) ∧ Below W.heap.size W w') := Lib.hid fun hf he A1 A2 d1 d2 Q W hQ hW hP => by
    have L := bndL_of he hN (show os.length ≤ 100 by omega)
    have F := mayF_of L.pmay
    have hl := fold_len (planL p os need) p
    have hb := F.big
    have := room_any ⟨Q.co, A1, d1, Q.fu, A2, d2, Q.line, Q.cap⟩ os A c W hP (by subst hQ; show ((planL p os need).foldl subP p).co.length ≤ maxLen; rw [hl.1]; exact h1) ((hs.below hW).mono hW.size) (by omega) hI
    have e1 : roomV ⟨Q.co, A1, d1, Q.fu, A2, d2, Q.line, Q.cap⟩ os = roomV p os - min need (roomV p os) := by
      subst hQ
      rw [← L.totS]
      exact L.room
    have e2 : mayE ⟨Q.co, A1, d1, Q.fu, A2, d2, Q.line, Q.cap⟩ os = 0 := by
      subst hQ
      exact L.may
    rw [e1, e2] at this
    exact this
  have HCL : Hid (os.length ≤ 20 → planE p os need = 0 → ∀ (A1 A2 : Option Addr) (d1 d2 : Nat) (Q : Pol) W, Q = (planL p os need).foldl subP p → PolOk W ⟨Q.co, A1, d1, Q.fu, A2, d2, Q.line, Q.cap⟩ → Calls Try.prog 24 #[.agg #[.slice A1 Q.co.length d1, .slice A2 Q.fu.length d2, .int .i64 Q.line, .int .i64 Q.cap]] W fun e w' => e = .returned (.int .i64 0) ∧ Below W.heap.size W w') := Lib.hid fun hf he A1 A2 d1 d2 Q W hQ hP => by
    have L := bndL_of he hN (show os.length ≤ 100 by omega)
    have hl := fold_len (planL p os need) p
    have := pcheck_any ⟨Q.co, A1, d1, Q.fu, A2, d2, Q.line, Q.cap⟩ W hP (by subst hQ; show ((planL p os need).foldl subP p).co.length ≤ maxLen; rw [hl.1]; exact h1)
    have e2 : polE ⟨Q.co, A1, d1, Q.fu, A2, d2, Q.line, Q.cap⟩ = 0 := by
      subst hQ
      exact L.chk
    rw [e2] at this
    exact this
  have HOU : Hid (os.length ≤ 20 → ∀ (m : Int) W, Below w.heap.size w W → Calls Try.prog 19 #[.slice A os.length c, .int .i64 m] W fun e w' => e = .returned (.bool (os.contains m)) ∧ Below W.heap.size W w') := Lib.hid fun hf m W hW => (out23_any os m A c W ((hs.below hW).mono hW.size) (by omega)).mono fun e w' h => ⟨h.1, h.2 ▸ Below.refl _ _⟩
  have HTH : Hid (os.length ≤ 20 → planE p os need = 0 → ∀ (k m : Int) W, Below w.heap.size w W → Calls Try.prog 21 #[p.val, .agg #[.int .i64 k, .int .i64 m]] W fun e w' => e = .returned (.int .i64 (thereV p k m)) ∧ Below W.heap.size W w') := Lib.hid fun hf he k m W hW => by
    have L := bndL_of he hN (show os.length ≤ 100 by omega)
    have F := mayF_of L.pmay
    have := F.big
    exact there_any p k m W (h.below hW) F.len (by omega)
  have HRB : Hid (os.length ≤ 20 → planE p os need = 0 → 0 ≤ roomV p os ∧ roomV p os ≤ 9223372036854775807 ∧ mayE p os = 0 ∧ 0 ≤ need) := Lib.hid fun hf he => by
    have L := bndL_of he hN (show os.length ≤ 100 by omega)
    have F := mayF_of L.pmay
    have hb := rrN_bd F p.co.length (Nat.le_refl _)
    have := F.big
    rw [room_law L.pmay]
    exact ⟨by omega, by omega, L.pmay, L.need0⟩
  clear h h1 h2 hs h3 hI hN
  unfold Pol.val at HFW HPL HRM HLS HTH
  unfold Pol.val
  generalize planE p os need = pe at *
  go_enter Try.func7, Try.ntmps7
  go_wp2_with fail
  generalize w.alloc (.cells #[.slice p.Ac p.co.length p.cc, .slice p.Af p.fu.length p.cf, .int .i64 p.line, .int .i64 p.cap] 37) = w0 at *
  have HX0 : Hid (∀ W, Below w0.heap.size w0 W → W.cell? ⟨w.heap.size, 0, none⟩ = some (.slice p.Ac p.co.length p.cc) ∧ W.cell? ⟨w.heap.size, 1, none⟩ = some (.slice p.Af p.fu.length p.cf) ∧ W.cell? ⟨w.heap.size, 2, none⟩ = some (.int .i64 p.line) ∧ W.cell? ⟨w.heap.size, 3, none⟩ = some (.int .i64 p.cap)) := Lib.hid fun W hW => by
    have hk := fun j => (hW.cell (p := ⟨w.heap.size, j, none⟩) hlt0).trans (HX.out j)
    exact ⟨hk 0, hk 1, hk 2, hk 3⟩
  have HW0 : Hid (∀ W, Below w0.heap.size w0 W → Below w.heap.size w W) := Lib.hid fun W hW => HB0.out.trans (hW.mono (Nat.le_of_lt hlt0))
  have HAW : Hid (∀ W, Calls Try.prog 16 #[] W fun e w' => e = .returned (.bool true) ∧ Below W.heap.size W w') := Lib.hid fun W => awake23_any W
  have HTR : Hid (∀ W W', Below w0.heap.size w0 W → Below W.heap.size W W' → Below w0.heap.size w0 W') := Lib.hid fun W W' h h' => h.trans (h'.mono h.size)
  clear HX HB0
  refine (HFW.out w0).mono ?_
  rintro e w1 ⟨rfl, hb1⟩
  have HB1 : Hid (Below w0.heap.size w0 w1) := Lib.hid hb1
  clear hb1 HFW
  obtain ⟨c0, c1, c2, c3⟩ := HX0.out w1 HB1.out
  cases hf : few23 p os with
  | false =>
    clear HPL HL HRM HBF HLN HLS HTT HRL HCL HOU HTH HRB
    go_wp2_with fail
    refine (HAW.out w1).mono ?_
    rintro e w4 ⟨rfl, hb4⟩
    have HB4 := Lib.hid (HTR.out _ _ HB1.out hb4)
    clear hb4
    go_wp2_with fail
    go_ret
    exact ⟨rfl, HW0.out _ HB4.out⟩
  | true =>
    have hl := HL.out hf
    clear HL hf
    have HPL := Lib.hid (HPL.out hl)
    have HRM := Lib.hid (HRM.out hl)
    have HOU := Lib.hid (HOU.out hl)
    have HBF := Lib.hid (HBF.out hl)
    have HLS := Lib.hid (HLS.out hl)
    have HTT := Lib.hid (HTT.out hl)
    have HRL := Lib.hid (HRL.out hl)
    have HCL := Lib.hid (HCL.out hl)
    have HTH := Lib.hid (HTH.out hl)
    have HRB := Lib.hid (HRB.out hl)
    clear hl
    go_wp2_with fail
    refine (HPL.out w1 (HW0.out _ HB1.out)).mono ?_
    rintro e w2 ⟨A2, c2', rfl, hs2, hb2⟩
    have HB2 := Lib.hid (HTR.out _ _ HB1.out hb2)
    have HS2 := Lib.hid hs2
    clear hb2 hs2 c0 c1 c2 c3 HPL
    obtain ⟨c0, c1, c2, c3⟩ := HX0.out w2 HB2.out
    by_cases hpe : pe = 0
    case neg =>
      have hpb : (pe != 0) = true := by simpa using hpe
      have hle := HLN.out hpe
      rw [hle]
      clear HRM HBF HLN HLS HTT HRL HCL HOU HTH HRB
      go_wp2_with fail
      refine (HAW.out w2).mono ?_
      rintro e w4 ⟨rfl, hb4⟩
      have HB4 := Lib.hid (HTR.out _ _ HB2.out hb4)
      clear hb4
      go_wp2_with fail
      go_ret
      exact ⟨rfl, HW0.out _ HB4.out⟩
    obtain ⟨hbf, hbl, hmf⟩ := HBF.out hpe
    have HO := Lib.hid hbf.one
    have hll := hbf.len
    have HLSb := Lib.hid (HLS.out hpe)
    have HTTb := Lib.hid (HTT.out hpe)
    have HRLb := Lib.hid (HRL.out hpe)
    have HCLb := Lib.hid (HCL.out hpe)
    have HTHb := Lib.hid (HTH.out hpe)
    obtain ⟨hr0, hr1, hme, hnd⟩ := HRB.out hpe
    subst hpe
    rw [hme] at HRM
    clear HBF HLN HRB hbf hbl hmf hme HLS HTT HRL HCL HTH
    generalize planL p os need = l at *
    generalize roomV p os = rm at *
    obtain ⟨Q, hQ⟩ : ∃ Q, Q = l.foldl subP p := ⟨_, rfl⟩
    have HQQ := Lib.hid hQ
    rw [← hQ] at HLSb
    clear hQ
    have hmn : min need rm ≤ rm := Int.min_le_right _ _
    have hmn0 : 0 ≤ min need rm := by omega
    go_wp2_with fail
    refine (HRM.out w2 (HW0.out _ HB2.out)).mono ?_
    rintro e w3 ⟨rfl, hb3⟩
    have HB3 := Lib.hid (HTR.out _ _ HB2.out hb3)
    have HS3 := Lib.hid ((HS2.out.below hb3).mono hb3.size)
    clear hb3 HS2 c0 c1 c2 c3 HRM
    obtain ⟨c0, c1, c2, c3⟩ := HX0.out w3 HB3.out
    go_wp2_with fail
    refine (HTTb.out _ _ w3 HS3.out).mono ?_
    rintro e w4 ⟨rfl, hb4⟩
    have HB4 := Lib.hid (HTR.out _ _ HB3.out hb4)
    have HS4 := Lib.hid ((HS3.out.below hb4).mono hb4.size)
    clear hb4 HS3 c0 c1 c2 c3
    go_wp2_with fail
    go_loopw [11] (fun i wr => ∃ k : Nat, k ≤ l.length ∧ i = .int .i64 k ∧ Hid (Below w4.heap.size w4 wr)) (fun i _ => l.length - (intOf i).toNat)
    case atStart => exact ⟨0, Nat.zero_le _, rfl, Below.refl _ _⟩
    case round =>
      obtain ⟨k, hk, rfl, HB⟩ := hrel
      have hsz := HB.out.size
      have HBX := Lib.hid (HTR.out _ _ HB4.out HB.out)
      obtain ⟨c0, c1, c2, c3⟩ := HX0.out wr HBX.out
      by_cases hlt : k < l.length
      · obtain ⟨b, o, rfl, hb, d0, d1, d2⟩ := dw_at (HS4.out.below HB.out) hlt
        obtain ⟨z1, z2, z3⟩ := HO.out l[k] (List.getElem_mem hlt)
        have hk0 : (0 : Int) ≤ (k : Int) := by omega
        have hkb : (k : Int) < (l.length : Int) := by omega
        have HR1 : Hid (∀ W, Below wr.heap.size wr W → Calls Try.prog 19 #[.slice A os.length c, .int .i64 l[k].m] W fun e w' => e = .returned (.bool (os.contains l[k].m)) ∧ Below W.heap.size W w') := Lib.hid fun W hW => HOU.out _ W (HW0.out _ (HTR.out _ _ HBX.out hW))
        have HT1 : Hid (∀ W, Below wr.heap.size wr W → Calls Try.prog 21 #[.agg #[.slice p.Ac p.co.length p.cc, .slice p.Af p.fu.length p.cf, .int .i64 p.line, .int .i64 p.cap], .agg #[.int .i64 l[k].k, .int .i64 l[k].m]] W fun e w' => e = .returned (.int .i64 (thereV p l[k].k l[k].m)) ∧ Below W.heap.size W w') := Lib.hid fun W hW => HTHb.out _ _ W (HW0.out _ (HTR.out _ _ HBX.out hW))
        generalize thereV p l[k].k l[k].m = tv at *
        generalize l[k].k = xk at *
        generalize l[k].m = xm at *
        generalize l[k].n = xn at *
        have hn1 : decide (xn < 1) = false := decide_eq_false (by omega)
        have hn2 : decide (tv < xn) = false := decide_eq_false (by omega)
        have hbW : b < wr.heap.size := by omega
        have hxW : w.heap.size < wr.heap.size := by have := HBX.out.size; omega
        have hbel := fun (n : Bel wr.heap.size wr) (b o : Nat) (hb : b < wr.heap.size) => n.cells b o hb
        by_cases h8 : xk = 8
        · have hct := z3 h8
          rw [hct] at HR1
          subst h8
          have h8b : ((8 : Int) == 8) = true := rfl
          clear z1 z2 z3 hct
          go_wp2_with fail
          refine wp_region_bel wr.heap.size (by kernel_rfl) (by kernel_rfl) ?_
          repeat (go_big_quiet_step (first | (go_at_call 19; exact Calls.bel_of (Nat.le_refl _) (HR1.out _ (Bel.h _))) | (go_at_call 21; exact Calls.bel_of (Nat.le_refl _) (HT1.out _ (Bel.h _)))))
          refine wpQuiet_nil ?_
          intro _ hw'
          obtain ⟨nq, hw''⟩ := hw'
          subst hw''
          have HN : Hid (Below w4.heap.size w4 nq.wd) := Lib.hid (HB.out.trans (nq.h.mono hsz))
          clear hbel
          go_wp2_with fail
          go_roundw
          case rel => exact ⟨k + 1, by omega, by go_num, HN⟩
          case measure => simp [intOf]; omega
        · have h8b : (xk == 8) = false := by rw [beq_eq_false_iff_ne]; exact h8
          generalize os.contains xm = ob at *
          clear z1 z2 z3 h8
          go_wp2_with fail
          refine wp_region_bel wr.heap.size (by kernel_rfl) (by kernel_rfl) ?_
          repeat (go_big_quiet_step (first | (go_at_call 19; exact Calls.bel_of (Nat.le_refl _) (HR1.out _ (Bel.h _))) | (go_at_call 21; exact Calls.bel_of (Nat.le_refl _) (HT1.out _ (Bel.h _)))))
          refine wpQuiet_nil ?_
          intro _ hw'
          obtain ⟨nq, hw''⟩ := hw'
          subst hw''
          have HN : Hid (Below w4.heap.size w4 nq.wd) := Lib.hid (HB.out.trans (nq.h.mono hsz))
          clear hbel
          go_wp2_with fail
          go_roundw
          case rel => exact ⟨k + 1, by omega, by go_num, HN⟩
          case measure => simp [intOf]; omega
      · obtain rfl : k = l.length := by omega
        have HSR := Lib.hid ((HS4.out.below HB.out).mono hsz)
        go_wp2_with fail
        refine (HLSb.out _ _ wr (HW0.out _ HBX.out) HSR.out).mono ?_
        rintro e w5 ⟨B1, e1, B2, e2, rfl, hp5, hb5⟩
        have HB5 := Lib.hid (HTR.out _ _ HBX.out hb5)
        have HS5 := Lib.hid ((HSR.out.below hb5).mono hb5.size)
        have HP5 := Lib.hid hp5
        have hxz : w5.heap.size < (w5.alloc (.cells #[.slice B1 Q.co.length e1, .slice B2 Q.fu.length e2, .int .i64 Q.line, .int .i64 Q.cap] 37)).heap.size := by simp
        have HX6 := Lib.hid fun j => cell_new w5 #[.slice B1 Q.co.length e1, .slice B2 Q.fu.length e2, .int .i64 Q.line, .int .i64 Q.cap] 37 (b := w5.heap.size) j rfl
        have HB6 : Hid (Below w5.heap.size w5 (w5.alloc (.cells #[.slice B1 Q.co.length e1, .slice B2 Q.fu.length e2, .int .i64 Q.line, .int .i64 Q.cap] 37))) := Lib.hid ((Below.refl _ _).alloc (Nat.le_refl _) _)
        clear hb5 hp5 c0 c1 c2 c3 HSR HB HBX HLSb
        go_wp2_with fail
        have HB6' := Lib.hid (HTR.out _ _ HB5.out HB6.out)
        have HS6 := Lib.hid ((HS5.out.below HB6.out).mono HB6.out.size)
        have HP6 := Lib.hid (HP5.out.below HB6.out)
        clear HS5 HP5 HB6
        generalize w5.alloc (.cells #[.slice B1 Q.co.length e1, .slice B2 Q.fu.length e2, .int .i64 Q.line, .int .i64 Q.cap] 37) = w6 at *
        generalize w5.heap.size = bl at *
        refine (HRLb.out _ _ _ _ _ w6 HQQ.out (HW0.out _ HB6'.out) HP6.out).mono ?_
        rintro e w7 ⟨rfl, hb7⟩
        have HB7 := Lib.hid (HTR.out _ _ HB6'.out hb7)
        have HS7 := Lib.hid ((HS6.out.below hb7).mono hb7.size)
        have HP7 := Lib.hid (HP6.out.below hb7)
        have HX7 : Hid (∀ j, w7.cell? ⟨bl, j, none⟩ = (#[.slice B1 Q.co.length e1, .slice B2 Q.fu.length e2, .int .i64 Q.line, .int .i64 Q.cap] : Array Value)[j]?) := Lib.hid fun j => (hb7.cell (p := ⟨bl, j, none⟩) hxz).trans (HX6.out j)
        have hxz7 : bl < w7.heap.size := Nat.lt_of_lt_of_le hxz hb7.size
        clear hb7 HS6 HP6 HX6 HRLb
        go_wp2_with fail
        refine (HAW.out w7).mono ?_
        rintro e w8 ⟨rfl, hb8⟩
        have HB8 := Lib.hid (HTR.out _ _ HB7.out hb8)
        have HS8 := Lib.hid ((HS7.out.below hb8).mono hb8.size)
        have HP8 := Lib.hid (HP7.out.below hb8)
        have HX8 : Hid (∀ j, w8.cell? ⟨bl, j, none⟩ = (#[.slice B1 Q.co.length e1, .slice B2 Q.fu.length e2, .int .i64 Q.line, .int .i64 Q.cap] : Array Value)[j]?) := Lib.hid fun j => (hb8.cell (p := ⟨bl, j, none⟩) hxz7).trans (HX7.out j)
        have hxz8 : bl < w8.heap.size := Nat.lt_of_lt_of_le hxz7 hb8.size
        clear hb8 HS7 HP7 HX7
        go_wp2_with fail
        refine (HTTb.out _ _ w8 HS8.out).mono ?_
        rintro e w9 ⟨rfl, hb9⟩
        have HB9 := Lib.hid (HTR.out _ _ HB8.out hb9)
        have HP9 := Lib.hid (HP8.out.below hb9)
        have hx9 := fun j => (hb9.cell (p := ⟨bl, j, none⟩) hxz8).trans (HX8.out j)
        have y0 : w9.cell? ⟨bl, 0, none⟩ = some (.slice B1 Q.co.length e1) := hx9 0
        have y1 : w9.cell? ⟨bl, 1, none⟩ = some (.slice B2 Q.fu.length e2) := hx9 1
        have y2 : w9.cell? ⟨bl, 2, none⟩ = some (.int .i64 Q.line) := hx9 2
        have y3 : w9.cell? ⟨bl, 3, none⟩ = some (.int .i64 Q.cap) := hx9 3
        have hwm : IntKind.i64.wrap (rm - min need rm) = rm - min need rm := IntWalk.i64_in _ (by omega)
        clear hb9 hx9 HX8 HS8 HP8
        go_wp2_with fail
        refine (HCLb.out _ _ _ _ _ w9 HQQ.out HP9.out).mono ?_
        rintro e w10 ⟨rfl, hb10⟩
        have HB10 := Lib.hid (HTR.out _ _ HB9.out hb10)
        clear hb10
        go_wp2_with fail
        go_ret
        exact ⟨rfl, HW0.out _ HB10.out⟩
end Go.Proofs.Ytglpnpjjjihghaa
