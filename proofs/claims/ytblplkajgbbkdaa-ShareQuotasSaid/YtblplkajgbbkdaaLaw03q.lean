/-
  The walk of ShareQuotas, over this seat's translation.
-/
import Derived.Test.YtblplkajgbbkdaaLaw03b
namespace Go.Proofs.Ytblplkajgbbkdaa
open Go.RowKit Go.Lib Go.Sort Go.Proofs.Ytblplkajgbbkdaa.StableLaw Go.Proofs.Ytblplkajgbbkdaa.ShareLaw

/-- So far each part fits its claim, or one does not. -/
def RB (cs ps : List Int) (k : Nat) (b : Bool) : Prop := (b = true → ∀ i (h : i < cs.length) (h' : i < ps.length), i < k → 0 ≤ ps[i] ∧ ps[i] ≤ cs[i]) ∧ (b = false → fitB cs ps = false)
theorem RB.start (cs ps : List Int) : RB cs ps 0 true := ⟨fun _ i _ _ h => by omega, fun h => by cases h⟩
theorem RB.no {cs ps : List Int} {k : Nat} {b : Bool} (h : RB cs ps k b) (hb : b = false) : fitB cs ps = false := h.2 hb
theorem RB.yes {cs ps : List Int} {b : Bool} (h : RB cs ps cs.length b) (e : cs.length = ps.length) (hb : b = true) : fitB cs ps = true := (fitB_iff e).2 fun i h1 h2 => h.1 hb i h1 h2 h1
theorem RB.next {cs ps : List Int} {k : Nat} {b : Bool} (h : RB cs ps k b) (e : cs.length = ps.length) (hb : b = true) (hk : k < cs.length) (hk' : k < ps.length) : RB cs ps (k + 1) (decide (0 ≤ ps[k]) && decide (ps[k] ≤ cs[k])) := by
  refine ⟨fun h1 i hi hi' hik => ?_, fun h1 => fitB_no e hk hk' fun h2 => ?_⟩
  · by_cases c : i = k
    · subst c; simpa using h1
    · exact h.1 hb i hi hi' (by omega)
  · simp [h2.1, h2.2] at h1
set_option maxHeartbeats 6400000 in
set_option maxRecDepth 1000000 in
theorem quotas_big (x0 x1 x2 : Int) (cs ps : List Int) (A A' : Option Addr) (c c' : Nat) (w : World) (hx0 : I64 x0) (hx2 : I64 x2) (hI : ∀ x ∈ cs, I64 x) (hs : Seg w w.heap.size A (cs.map (Value.int .i64))) (hs' : Seg w w.heap.size A' (ps.map (Value.int .i64))) (hm : cs.length ≤ maxLen) (hm2 : ps.length ≤ maxLen) (hbig : 60 < cs.length ∨ 60 < ps.length) :
    Calls Try.prog 7 #[.agg #[.int .i64 x0, .int .i64 x1, .int .i64 x2], .slice A cs.length c, .slice A' ps.length c'] w fun e w' => e = .returned (.bool true) ∧ Below w.heap.size w w' := by
  have HS := Lib.hid hs
  have HS' := Lib.hid hs'
  have HI := Lib.hid hI
  clear hs hs' hI
  unfold maxLen at hm hm2
  have hq : decide ((60 : Int) < (cs.length : Int)) = true ∨ decide ((60 : Int) < (cs.length : Int)) = false ∧ decide ((60 : Int) < (ps.length : Int)) = true := by
    simp only [decide_eq_true_eq, decide_eq_false_iff_not]
    omega
  have HX0 := Lib.hid hx0
  have HX2 := Lib.hid hx2
  clear hbig hx0 hx2
  rcases hq with q1 | ⟨q1, q2⟩
  all_goals
    go_enter Try.func7, Try.ntmps7
    go_wp2_with fail
    refine (awake3_any _).mono ?_
    rintro e w1 ⟨rfl, hb1⟩
    have HB1 : Hid (Below w.heap.size w w1) := ((Below.refl _ _).alloc (Nat.le_refl _) _).trans (hb1.mono (by simp))
    clear hb1
    go_wp2_with fail
    go_ret
    exact ⟨rfl, HB1.out⟩
set_option maxHeartbeats 6400000 in
set_option maxRecDepth 1000000 in
theorem quotas_ok (x0 x1 x2 : Int) (cs ps : List Int) (A A' : Option Addr) (c c' : Nat) (w : World) (hx0 : I64 x0) (hx2 : I64 x2) (hI : ∀ x ∈ cs, I64 x) (hs : Seg w w.heap.size A (cs.map (Value.int .i64))) (hs' : Seg w w.heap.size A' (ps.map (Value.int .i64))) (hn : cs.length ≤ 60) (hn2 : ps.length ≤ 60) (ha : askB x0 x1 x2 = true) :
    Calls Try.prog 7 #[.agg #[.int .i64 x0, .int .i64 x1, .int .i64 x2], .slice A cs.length c, .slice A' ps.length c'] w fun e w' => e = .returned (.bool true) ∧ Below w.heap.size w w' := by
  have HS := Lib.hid hs
  have HS' := Lib.hid hs'
  have HI := Lib.hid hI
  clear hs hs' hI
  have hask : 0 ≤ x0 ∧ 0 ≤ x1 ∧ x1 ≤ x2 ∧ x2 ≠ 0 := by
    unfold askB at ha
    simp at ha
    omega
  obtain ⟨a0, a1, a2, a3⟩ := hask
  unfold I64 at hx0 hx2
  obtain ⟨n0, rfl⟩ := Int.eq_ofNat_of_zero_le a0
  obtain ⟨n1, rfl⟩ := Int.eq_ofNat_of_zero_le a1
  obtain ⟨n2, rfl⟩ := Int.eq_ofNat_of_zero_le (show 0 ≤ x2 by omega)
  have HQ := fun W => Lib.hid (quota_any n0 n1 n2 W (by omega) (by omega) (by omega) (by omega))
  have HRQ := fun W => Lib.hid (rquota_any n0 n1 n2 W (by omega) (by omega) (by omega) (by omega))
  have z1 : ((n2 : Int) == 0) = false := by rw [beq_eq_false_iff_ne]; omega
  have z1' : (n2 == 0) = false := by rw [beq_eq_false_iff_ne]; omega
  have z2 : ¬ (n2 : Int) < (n1 : Int) := by omega
  have z3 : ¬ (n0 : Int) < 0 := by omega
  have z4 : ¬ (n1 : Int) < 0 := by omega
  clear ha a0 a1 a2 a3 hx0 hx2
  generalize n0 * n1 / n2 = D at *
  generalize n0 * n1 % n2 = M at *
  go_enter Try.func7, Try.ntmps7
  go_wp2_with fail
  refine (HQ _).out.mono ?_
  rintro e w1 ⟨rfl, hb1⟩
  have HB1 := Lib.hid hb1
  have c0 : w1.cell? ⟨w.heap.size, 0, none⟩ = some (.int .i64 (n0 : Int)) := by rw [hb1.cell (p := ⟨w.heap.size, 0, none⟩) (by simp), cell_new _ _ _ _ rfl]; rfl
  have c1 : w1.cell? ⟨w.heap.size, 1, none⟩ = some (.int .i64 (n1 : Int)) := by rw [hb1.cell (p := ⟨w.heap.size, 1, none⟩) (by simp), cell_new _ _ _ _ rfl]; rfl
  have c2 : w1.cell? ⟨w.heap.size, 2, none⟩ = some (.int .i64 (n2 : Int)) := by rw [hb1.cell (p := ⟨w.heap.size, 2, none⟩) (by simp), cell_new _ _ _ _ rfl]; rfl
  have HQ0 : Hid (Below w.heap.size w w1) := ((Below.refl _ _).alloc (Nat.le_refl _) _).trans (hb1.mono (by simp))
  clear hb1
  go_wp2_with fail
  refine (HRQ _).out.mono ?_
  rintro e w1b ⟨rfl, hb1⟩
  have HQ1 : Hid (Below w.heap.size w w1b) := HQ0.out.trans (hb1.mono HQ0.out.size)
  clear hb1 c0 c1 c2 HQ HRQ HQ0 HB1
  go_wp2_with fail
  refine (Lost_any cs ps A A' c c' _ HI.out ((HS.out.below HQ1.out).mono HQ1.out.size) ((HS'.out.below HQ1.out).mono HQ1.out.size) (by omega)).mono ?_
  rintro e w2 ⟨A2, c2, rfl, hs2, hb2⟩
  have HB2 : Hid (Below w.heap.size w w2) := HQ1.out.trans (hb2.mono HQ1.out.size)
  have HSL := Lib.hid hs2
  clear hs2 hb2
  by_cases hlen : cs.length = ps.length
  · have HLEN := Lib.hid hlen
    have hlb : ((cs.length : Int) == (ps.length : Int)) = true := by simp; omega
    have hlb' : (cs.length == ps.length) = true := by simpa using hlen
    have hle1 : ps.length ≤ cs.length := by omega
    have hle2 : cs.length ≤ ps.length := by omega
    clear hlen
    have HL0 := HSL
    clear HSL
    obtain ⟨L, hL⟩ : ∃ L, L = lostL cs ps := ⟨_, rfl⟩
    obtain ⟨E, hE⟩ : ∃ E, E = lostE cs ps := ⟨_, rfl⟩
    rw [← hL] at HL0 ⊢
    rw [← hE]
    have HL := Lib.hid hL
    have HE := Lib.hid hE
    clear hL hE
    go_wp2_with fail
    clear hlb hlb'
    go_loopw [14, 15] (fun u i wr => ∃ (k : Nat) (b : Bool), k ≤ cs.length ∧ i = .int .i64 k ∧ u = .bool b ∧ Hid (RB cs ps k b) ∧ Hid (Below w2.heap.size w2 wr)) (fun _ i _ => cs.length - (intOf i).toNat)
    case atStart => exact ⟨0, true, Nat.zero_le _, rfl, by first | rfl | simp | (simp; omega), RB.start _ _, Below.refl _ _⟩
    case round =>
      obtain ⟨k, b, hk, rfl, rfl, HR, HB⟩ := hrel
      by_cases hlt : k < cs.length
      · cases b
        · have HF := Lib.hid (HR.out.no rfl)
          have e1 : E = 1 := by rw [HE.out]; unfold lostE; rw [HF.out]; rfl
          have e2 : L = [] := by rw [HL.out]; unfold lostL; rw [HF.out]; rfl
          subst e1 e2
          go_wp2_with fail
          refine (awake3_any _).mono ?_
          rintro e w3 ⟨rfl, hb3⟩
          have HB3 : Hid (Below w.heap.size w w3) := (HB2.out.trans (HB.out.mono HB2.out.size)).trans (hb3.mono (by have := HB2.out.size; have := HB.out.size; omega))
          clear hb3
          go_wp2_with fail
          go_ret
          exact ⟨rfl, HB3.out⟩
        · have hlt' : k < ps.length := by omega
          have HBW : Hid (Below w.heap.size w wr) := HB2.out.trans (HB.out.mono HB2.out.size)
          obtain ⟨b1, o1, rfl, hb1, hc1⟩ := (HS.out.below HBW.out).at (k := k) (by simpa using hlt)
          obtain ⟨b2, o2, rfl, hb2, hc2⟩ := (HS'.out.below HBW.out).at (k := k) (by simpa using hlt')
          rw [List.getElem_map] at hc1 hc2
          have HX := Lib.hid (HR.out.next HLEN.out rfl hlt hlt')
          obtain ⟨x, hx⟩ : ∃ x, x = cs[k] := ⟨_, rfl⟩
          obtain ⟨y, hy⟩ : ∃ y, y = ps[k] := ⟨_, rfl⟩
          rw [← hx] at hc1
          rw [← hy] at hc2
          rw [← hx, ← hy] at HX
          clear hx hy
          have i1 : (0 : Int) ≤ (k : Int) := by omega
          have i2 : (k : Int) < (cs.length : Int) := by omega
          have i3 : (k : Int) < (ps.length : Int) := by omega
          cases d1 : decide (0 ≤ y)
          · have HR2 : Hid (RB cs ps (k + 1) false) := by
              have := HX.out
              rw [d1] at this
              exact this
            have d3 : ¬ 0 ≤ y := of_decide_eq_false d1
            go_wp2_with fail
            go_quiet (fail)
            have HBn := Lib.hid (below_drewN HB.out nq)
            clear hc1 hc2 HB
            generalize wr.drewN nq = w3 at HBn ⊢
            go_wp2_with fail
            go_roundw
            case rel => exact ⟨k + 1, false, by omega, by go_num, rfl, HR2, HBn⟩
            case measure => simp [intOf]; omega
          · have d3 : 0 ≤ y := of_decide_eq_true d1
            cases d2 : decide (y ≤ x)
            all_goals
              have HR2 := HX
              rw [d1, d2] at HR2
              have d4 := d2
              simp only [decide_eq_true_eq, decide_eq_false_iff_not] at d4
              go_wp2_with fail
              go_quiet (fail)
              have HBn := Lib.hid (below_drewN HB.out nq)
              clear hc1 hc2 HB
              generalize wr.drewN nq = w3 at HBn ⊢
              go_wp2_with fail
              go_roundw
              case rel => exact ⟨k + 1, _, by omega, by go_num, rfl, HR2, HBn⟩
              case measure => simp [intOf]; omega
      · obtain rfl : k = cs.length := by omega
        cases b
        · have HF := Lib.hid (HR.out.no rfl)
          have e1 : E = 1 := by rw [HE.out]; unfold lostE; rw [HF.out]; rfl
          have e2 : L = [] := by rw [HL.out]; unfold lostL; rw [HF.out]; rfl
          subst e1 e2
          go_wp2_with fail
          refine (awake3_any _).mono ?_
          rintro e w3 ⟨rfl, hb3⟩
          have HB3 : Hid (Below w.heap.size w w3) := (HB2.out.trans (HB.out.mono HB2.out.size)).trans (hb3.mono (by have := HB2.out.size; have := HB.out.size; omega))
          clear hb3
          go_wp2_with fail
          go_ret
          exact ⟨rfl, HB3.out⟩
        · have HF := Lib.hid (HR.out.yes HLEN.out rfl)
          have e1 : E = 0 := by rw [HE.out]; unfold lostE; rw [HF.out]; rfl
          have hLl : L.length = cs.length := by rw [HL.out]; unfold lostL; rw [HF.out, if_pos rfl, List.length_zipWith]; have := HLEN.out; omega
          have HLZ : Hid (∀ i (h : i < L.length) (h1 : i < cs.length) (h2 : i < ps.length), L[i] = cs[i] - ps[i]) := by
            intro i h h1 h2
            have e9 : L = List.zipWith (· - ·) cs ps := by rw [HL.out]; unfold lostL; rw [HF.out]; rfl
            subst e9
            simp
          have HFB : Hid (∀ i (h : i < cs.length) (h' : i < ps.length), 0 ≤ ps[i] ∧ ps[i] ≤ cs[i]) := (fitB_iff HLEN.out).1 HF.out
          have HLL := Lib.hid hLl
          have hL1 : L.length ≤ cs.length := by omega
          have hL2 : cs.length ≤ L.length := by omega
          have hL3 : ((L.length : Int) != (cs.length : Int)) = false := by simp; omega
          have hL4 : (L.length == cs.length) = true := by simpa using hLl
          subst e1
          clear hLl
          obtain ⟨wo, rfl⟩ : ∃ wo : World, wo = wr := ⟨_, rfl⟩
          go_wp2_with fail
          go_loopw [16] (fun i wr => ∃ k : Nat, k ≤ cs.length ∧ i = .int .i64 k ∧ Hid (Below w2.heap.size w2 wr)) (fun i _ => cs.length - (intOf i).toNat)
          case atStart => exact ⟨0, Nat.zero_le _, rfl, HB⟩
          case round =>
            clear HB
            obtain ⟨k, hk, rfl, HB⟩ := hrel
            have HBW : Hid (Below w.heap.size w wr) := HB2.out.trans (HB.out.mono HB2.out.size)
            by_cases hlt : k < cs.length
            · have hlt' : k < ps.length := by omega
              have hltL : k < L.length := by omega
              obtain ⟨b1, o1, rfl, hb1, hc1⟩ := (HS.out.below HBW.out).at (k := k) (by simpa using hlt)
              obtain ⟨b2, o2, rfl, hb2, hc2⟩ := (HS'.out.below HBW.out).at (k := k) (by simpa using hlt')
              obtain ⟨b3, o3, rfl, hb3, hc3⟩ := (HL0.out.below HB.out).at (k := k) (by simpa using hltL)
              rw [List.getElem_map] at hc1 hc2 hc3
              rw [HLZ.out k hltL hlt hlt'] at hc3
              have hfb := HFB.out k hlt hlt'
              have hI := HI.out cs[k] (List.getElem_mem hlt)
              unfold I64 at hI
              obtain ⟨x, hx⟩ : ∃ x, x = cs[k] := ⟨_, rfl⟩
              obtain ⟨y, hy⟩ : ∃ y, y = ps[k] := ⟨_, rfl⟩
              rw [← hx, ← hy] at hc3 hfb
              rw [← hx] at hc1 hI
              rw [← hy] at hc2
              clear hx hy
              obtain ⟨f1, f2⟩ := hfb
              obtain ⟨f3, f4⟩ := hI
              have i1 : (0 : Int) ≤ (k : Int) := by omega
              have i2 : (k : Int) < (cs.length : Int) := by omega
              have i3 : (k : Int) < (ps.length : Int) := by omega
              have i4 : (k : Int) < (L.length : Int) := by omega
              have rw1 : IntKind.i64.wrap (x - y) = x - y := by rw [IntKind.wrap_i64]; omega
              go_wp2_with fail
              go_quiet (fail)
              have HBn := Lib.hid (below_drewN HB.out nq)
              clear hc1 hc2 hc3 HB rw1
              generalize wr.drewN nq = w3 at HBn ⊢
              go_wp2_with fail
              go_roundw
              case rel => exact ⟨k + 1, by omega, by go_num, HBn⟩
              case measure => simp [intOf]; omega
            · go_wp2_with fail
              refine (awake3_any _).mono ?_
              rintro e w3 ⟨rfl, hb3⟩
              have HB3 : Hid (Below w.heap.size w w3) := HBW.out.trans (hb3.mono HBW.out.size)
              clear hb3
              go_wp2_with fail
              go_ret
              exact ⟨by simp; omega, HB3.out⟩
  · have e0 : fitB cs ps = false := by
      cases hf : fitB cs ps
      · rfl
      · exact absurd (fitB_len hf) hlen
    have e1 : lostE cs ps = 1 := by unfold lostE; rw [e0]; rfl
    have e2 : lostL cs ps = [] := by unfold lostL; rw [e0]; rfl
    rw [e1, e2]
    have hlb : ((cs.length : Int) == (ps.length : Int)) = false := by simp; omega
    have hlb' : (cs.length == ps.length) = false := by simpa using hlen
    clear e0 e1 e2 HSL
    go_wp2_with fail
    refine wp_loop_rounds 1 ?_
    rw [rounds_succ]
    have hd0 : 0 < cs.length ∨ cs.length = 0 := by omega
    rcases hd0 with hd0 | hd0
    all_goals
      go_wp2_with fail
      refine (awake3_any _).mono ?_
      rintro e w3 ⟨rfl, hb3⟩
      have HB3 : Hid (Below w.heap.size w w3) := HB2.out.trans (hb3.mono HB2.out.size)
      clear hb3
      go_wp2_with fail
      go_ret
      exact ⟨rfl, HB3.out⟩
end Go.Proofs.Ytblplkajgbbkdaa
