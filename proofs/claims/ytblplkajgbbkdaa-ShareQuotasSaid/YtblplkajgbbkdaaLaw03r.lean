/-
  The walk of ShareQuotas, over this seat's translation.
-/
import Derived.Test.YtblplkajgbbkdaaLaw03q
namespace Go.Proofs.Ytblplkajgbbkdaa
open Go.RowKit Go.Lib Go.Sort Go.Proofs.Ytblplkajgbbkdaa.StableLaw Go.Proofs.Ytblplkajgbbkdaa.ShareLaw

set_option maxHeartbeats 6400000 in
set_option maxRecDepth 1000000 in
theorem quotas_bad (x0 x1 x2 : Int) (cs ps : List Int) (A A' : Option Addr) (c c' : Nat) (w : World) (hx0 : I64 x0) (hx2 : I64 x2) (hI : ∀ x ∈ cs, I64 x) (hs : Seg w w.heap.size A (cs.map (Value.int .i64))) (hs' : Seg w w.heap.size A' (ps.map (Value.int .i64))) (hn : cs.length ≤ 60) (hn2 : ps.length ≤ 60) (ha : askB x0 x1 x2 = false) :
    Calls Try.prog 7 #[.agg #[.int .i64 x0, .int .i64 x1, .int .i64 x2], .slice A cs.length c, .slice A' ps.length c'] w fun e w' => e = .returned (.bool true) ∧ Below w.heap.size w w' := by
  have HS := Lib.hid hs
  have HS' := Lib.hid hs'
  have HI := Lib.hid hI
  clear hs hs' hI
  have HQ := fun W => Lib.hid (quota_bad x0 x1 x2 W ha)
  have hask : x0 < 0 ∨ ¬ x0 < 0 ∧ x1 < 0 ∨ ¬ x0 < 0 ∧ ¬ x1 < 0 ∧ x2 < x1 ∨ ¬ x0 < 0 ∧ ¬ x1 < 0 ∧ ¬ x2 < x1 ∧ (x2 == 0) = true := by
    unfold askB at ha
    simp at ha ⊢
    omega
  have HA9 := Lib.hid ha
  have HX0 := Lib.hid hx0
  have HX2 := Lib.hid hx2
  clear ha hx0 hx2
  rcases hask with z1 | ⟨z1, z2⟩ | ⟨z1, z2, z3⟩ | ⟨z1, z2, z3, z4⟩
  all_goals
    go_enter Try.func7, Try.ntmps7
    go_wp2_with fail
    refine (HQ _).out.mono ?_
    rintro e w1 ⟨rfl, rfl⟩
    have HQ1 : ∀ o, Hid (Below w.heap.size w (w.alloc o)) := fun o => (Below.refl _ _).alloc (Nat.le_refl _) _
    have HQ1 := HQ1 (.cells #[.int .i64 x0, .int .i64 x1, .int .i64 x2] 33)
    clear HQ
    go_wp2_with fail
    clear z1
    generalize w.alloc (.cells #[.int .i64 x0, .int .i64 x1, .int .i64 x2] 33) = w1 at HQ1 ⊢
    go_wp2_with fail
    refine (Lost_any cs ps A A' c c' _ HI.out ((HS.out.below HQ1.out).mono HQ1.out.size) ((HS'.out.below HQ1.out).mono HQ1.out.size) (by omega)).mono ?_
    rintro e w2 ⟨A2, c2, rfl, hs2, hb2⟩
    have HB2 : Hid (Below w.heap.size w w2) := HQ1.out.trans (hb2.mono HQ1.out.size)
    have HSL := Lib.hid hs2
    clear hs2 hb2
    by_cases hlen : cs.length = ps.length
    · have HLEN := Lib.hid hlen
      have hlb : ((cs.length : Int) == (ps.length : Int)) = true := by simp; omega
      have hlb' : (cs.length == ps.length) = true := by simpa using hlen
      have hle1 : ps.length ≤ cs.length := by omega
      have hle2 : cs.length ≤ ps.length := by omega
      clear hlen
      have HL0 := HSL
      clear HSL
      obtain ⟨L, hL⟩ : ∃ L, L = lostL cs ps := ⟨_, rfl⟩
      obtain ⟨E, hE⟩ : ∃ E, E = lostE cs ps := ⟨_, rfl⟩
      rw [← hL] at HL0 ⊢
      rw [← hE]
      have HL := Lib.hid hL
      have HE := Lib.hid hE
      clear hL hE
      go_wp2_with fail
      clear hlb hlb'
      go_loopw [14, 15] (fun u i wr => ∃ (k : Nat) (b : Bool), k ≤ cs.length ∧ i = .int .i64 k ∧ u = .bool b ∧ Hid (RB cs ps k b) ∧ Hid (Below w2.heap.size w2 wr)) (fun _ i _ => cs.length - (intOf i).toNat)
      case atStart => exact ⟨0, true, Nat.zero_le _, rfl, by first | rfl | simp | (simp; omega), RB.start _ _, Below.refl _ _⟩
      case round =>
        obtain ⟨k, b, hk, rfl, rfl, HR, HB⟩ := hrel
        by_cases hlt : k < cs.length
        · cases b
          · have HF := Lib.hid (HR.out.no rfl)
            have e1 : E = 1 := by rw [HE.out]; unfold lostE; rw [HF.out]; rfl
            have e2 : L = [] := by rw [HL.out]; unfold lostL; rw [HF.out]; rfl
            subst e1 e2
            go_wp2_with fail
            refine (awake3_any _).mono ?_
            rintro e w3 ⟨rfl, hb3⟩
            have HB3 : Hid (Below w.heap.size w w3) := (HB2.out.trans (HB.out.mono HB2.out.size)).trans (hb3.mono (by have := HB2.out.size; have := HB.out.size; omega))
            clear hb3
            go_wp2_with fail
            go_ret
            exact ⟨rfl, HB3.out⟩
          · have hlt' : k < ps.length := by omega
            have HBW : Hid (Below w.heap.size w wr) := HB2.out.trans (HB.out.mono HB2.out.size)
            obtain ⟨b1, o1, rfl, hb1, hc1⟩ := (HS.out.below HBW.out).at (k := k) (by simpa using hlt)
            obtain ⟨b2, o2, rfl, hb2, hc2⟩ := (HS'.out.below HBW.out).at (k := k) (by simpa using hlt')
            rw [List.getElem_map] at hc1 hc2
            have HX := Lib.hid (HR.out.next HLEN.out rfl hlt hlt')
            obtain ⟨x, hx⟩ : ∃ x, x = cs[k] := ⟨_, rfl⟩
            obtain ⟨y, hy⟩ : ∃ y, y = ps[k] := ⟨_, rfl⟩
            rw [← hx] at hc1
            rw [← hy] at hc2
            rw [← hx, ← hy] at HX
            clear hx hy
            have i1 : (0 : Int) ≤ (k : Int) := by omega
            have i2 : (k : Int) < (cs.length : Int) := by omega
            have i3 : (k : Int) < (ps.length : Int) := by omega
            cases d1 : decide (0 ≤ y)
            · have HR2 : Hid (RB cs ps (k + 1) false) := by
                have := HX.out
                rw [d1] at this
                exact this
              have d3 : ¬ 0 ≤ y := of_decide_eq_false d1
              go_wp2_with fail
              go_quiet (fail)
              have HBn := Lib.hid (below_drewN HB.out nq)
              clear hc1 hc2 HB
              generalize wr.drewN nq = w3 at HBn ⊢
              go_wp2_with fail
              go_roundw
              case rel => exact ⟨k + 1, false, by omega, by go_num, rfl, HR2, HBn⟩
              case measure => simp [intOf]; omega
            · have d3 : 0 ≤ y := of_decide_eq_true d1
              cases d2 : decide (y ≤ x)
              all_goals
                have HR2 := HX
                rw [d1, d2] at HR2
                have d4 := d2
                simp only [decide_eq_true_eq, decide_eq_false_iff_not] at d4
                go_wp2_with fail
                go_quiet (fail)
                have HBn := Lib.hid (below_drewN HB.out nq)
                clear hc1 hc2 HB
                generalize wr.drewN nq = w3 at HBn ⊢
                go_wp2_with fail
                go_roundw
                case rel => exact ⟨k + 1, _, by omega, by go_num, rfl, HR2, HBn⟩
                case measure => simp [intOf]; omega
        · obtain rfl : k = cs.length := by omega
          cases b
          · have HF := Lib.hid (HR.out.no rfl)
            have e1 : E = 1 := by rw [HE.out]; unfold lostE; rw [HF.out]; rfl
            have e2 : L = [] := by rw [HL.out]; unfold lostL; rw [HF.out]; rfl
            subst e1 e2
            go_wp2_with fail
            refine (awake3_any _).mono ?_
            rintro e w3 ⟨rfl, hb3⟩
            have HB3 : Hid (Below w.heap.size w w3) := (HB2.out.trans (HB.out.mono HB2.out.size)).trans (hb3.mono (by have := HB2.out.size; have := HB.out.size; omega))
            clear hb3
            go_wp2_with fail
            go_ret
            exact ⟨rfl, HB3.out⟩
          · have HF := Lib.hid (HR.out.yes HLEN.out rfl)
            have e1 : E = 0 := by rw [HE.out]; unfold lostE; rw [HF.out]; rfl
            have hLl : L.length = cs.length := by rw [HL.out]; unfold lostL; rw [HF.out, if_pos rfl, List.length_zipWith]; have := HLEN.out; omega
            have HLZ : Hid (∀ i (h : i < L.length) (h1 : i < cs.length) (h2 : i < ps.length), L[i] = cs[i] - ps[i]) := by
              intro i h h1 h2
              have e9 : L = List.zipWith (· - ·) cs ps := by rw [HL.out]; unfold lostL; rw [HF.out]; rfl
              subst e9
              simp
            have HFB : Hid (∀ i (h : i < cs.length) (h' : i < ps.length), 0 ≤ ps[i] ∧ ps[i] ≤ cs[i]) := (fitB_iff HLEN.out).1 HF.out
            have HLL := Lib.hid hLl
            have hL1 : L.length ≤ cs.length := by omega
            have hL2 : cs.length ≤ L.length := by omega
            have hL3 : ((L.length : Int) != (cs.length : Int)) = false := by simp; omega
            have hL4 : (L.length == cs.length) = true := by simpa using hLl
            subst e1
            clear hLl
            obtain ⟨wo, rfl⟩ : ∃ wo : World, wo = wr := ⟨_, rfl⟩
            go_wp2_with fail
            go_loopw [16] (fun i wr => ∃ k : Nat, k ≤ cs.length ∧ i = .int .i64 k ∧ Hid (Below w2.heap.size w2 wr)) (fun i _ => cs.length - (intOf i).toNat)
            case atStart => exact ⟨0, Nat.zero_le _, rfl, HB⟩
            case round =>
              clear HB
              obtain ⟨k, hk, rfl, HB⟩ := hrel
              have HBW : Hid (Below w.heap.size w wr) := HB2.out.trans (HB.out.mono HB2.out.size)
              by_cases hlt : k < cs.length
              · have hlt' : k < ps.length := by omega
                have hltL : k < L.length := by omega
                obtain ⟨b1, o1, rfl, hb1, hc1⟩ := (HS.out.below HBW.out).at (k := k) (by simpa using hlt)
                obtain ⟨b2, o2, rfl, hb2, hc2⟩ := (HS'.out.below HBW.out).at (k := k) (by simpa using hlt')
                obtain ⟨b3, o3, rfl, hb3, hc3⟩ := (HL0.out.below HB.out).at (k := k) (by simpa using hltL)
                rw [List.getElem_map] at hc1 hc2 hc3
                rw [HLZ.out k hltL hlt hlt'] at hc3
                have hfb := HFB.out k hlt hlt'
                have hI := HI.out cs[k] (List.getElem_mem hlt)
                unfold I64 at hI
                obtain ⟨x, hx⟩ : ∃ x, x = cs[k] := ⟨_, rfl⟩
                obtain ⟨y, hy⟩ : ∃ y, y = ps[k] := ⟨_, rfl⟩
                rw [← hx, ← hy] at hc3 hfb
                rw [← hx] at hc1 hI
                rw [← hy] at hc2
                clear hx hy
                obtain ⟨f1, f2⟩ := hfb
                obtain ⟨f3, f4⟩ := hI
                have i1 : (0 : Int) ≤ (k : Int) := by omega
                have i2 : (k : Int) < (cs.length : Int) := by omega
                have i3 : (k : Int) < (ps.length : Int) := by omega
                have i4 : (k : Int) < (L.length : Int) := by omega
                have rw1 : IntKind.i64.wrap (x - y) = x - y := by rw [IntKind.wrap_i64]; omega
                go_wp2_with fail
                go_quiet (fail)
                have HBn := Lib.hid (below_drewN HB.out nq)
                clear hc1 hc2 hc3 HB rw1
                generalize wr.drewN nq = w3 at HBn ⊢
                go_wp2_with fail
                go_roundw
                case rel => exact ⟨k + 1, by omega, by go_num, HBn⟩
                case measure => simp [intOf]; omega
              · go_wp2_with fail
                refine (awake3_any _).mono ?_
                rintro e w3 ⟨rfl, hb3⟩
                have HB3 : Hid (Below w.heap.size w w3) := HBW.out.trans (hb3.mono HBW.out.size)
                clear hb3
                go_wp2_with fail
                go_ret
                exact ⟨by simp; omega, HB3.out⟩
    · have e0 : fitB cs ps = false := by
        cases hf : fitB cs ps
        · rfl
        · exact absurd (fitB_len hf) hlen
      have e1 : lostE cs ps = 1 := by unfold lostE; rw [e0]; rfl
      have e2 : lostL cs ps = [] := by unfold lostL; rw [e0]; rfl
      rw [e1, e2]
      have hlb : ((cs.length : Int) == (ps.length : Int)) = false := by simp; omega
      have hlb' : (cs.length == ps.length) = false := by simpa using hlen
      clear e0 e1 e2 HSL
      go_wp2_with fail
      refine wp_loop_rounds 1 ?_
      rw [rounds_succ]
      have hd0 : 0 < cs.length ∨ cs.length = 0 := by omega
      rcases hd0 with hd0 | hd0
      all_goals
        go_wp2_with fail
        refine (awake3_any _).mono ?_
        rintro e w3 ⟨rfl, hb3⟩
        have HB3 : Hid (Below w.heap.size w w3) := HB2.out.trans (hb3.mono HB2.out.size)
        clear hb3
        go_wp2_with fail
        go_ret
        exact ⟨rfl, HB3.out⟩
theorem quotas_law (x0 x1 x2 : Int) (cs ps : List Int) (A A' : Option Addr) (c c' : Nat) (w : World) (hx0 : I64 x0) (hx2 : I64 x2) (hI : ∀ x ∈ cs, I64 x) (hs : Seg w w.heap.size A (cs.map (Value.int .i64))) (hs' : Seg w w.heap.size A' (ps.map (Value.int .i64))) (hm : cs.length ≤ maxLen) (hm2 : ps.length ≤ maxLen) :
    Calls Try.prog 7 #[.agg #[.int .i64 x0, .int .i64 x1, .int .i64 x2], .slice A cs.length c, .slice A' ps.length c'] w fun e w' => e = .returned (.bool true) ∧ Below w.heap.size w w' := by
  by_cases hbig : 60 < cs.length ∨ 60 < ps.length
  · exact quotas_big x0 x1 x2 cs ps A A' c c' w hx0 hx2 hI hs hs' hm hm2 hbig
  · cases ha : askB x0 x1 x2
    · exact quotas_bad x0 x1 x2 cs ps A A' c c' w hx0 hx2 hI hs hs' (by omega) (by omega) ha
    · exact quotas_ok x0 x1 x2 cs ps A A' c c' w hx0 hx2 hI hs hs' (by omega) (by omega) ha
end Go.Proofs.Ytblplkajgbbkdaa
