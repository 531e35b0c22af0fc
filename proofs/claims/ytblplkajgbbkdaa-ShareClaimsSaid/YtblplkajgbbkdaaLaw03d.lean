/-
  The walk of ShareClaims, over this seat's translation.
-/
import Derived.Test.YtblplkajgbbkdaaLaw03c
import Derived.Test.YtblplkajgbbkdaaAl3
namespace Go.Proofs.Ytblplkajgbbkdaa
open Go.RowKit Go.Lib Go.Sort Go.Proofs.Ytblplkajgbbkdaa.StableLaw Go.Proofs.Ytblplkajgbbkdaa.ShareLaw

structure ClaimF (T : Int) (l zs ls : List Int) : Prop where
  len : zs.length = l.length
  len2 : ls.length = l.length
  sum : sumI zs = min T (sumI l)
  pos : 0 ≤ T
  all : ∀ x ∈ l, 0 ≤ x
  amt : I64 (sumI l)
  bd : ∀ i (h : i < zs.length) (h' : i < l.length), 0 ≤ zs[i] ∧ zs[i] ≤ l[i]
  lost : ∀ i (h : i < zs.length) (h' : i < l.length) (g : i < ls.length), ls[i] = l[i] - zs[i]
  fair : T < sumI l → ∀ i (h : i < zs.length) (h' : i < l.length), FairP zs[i] T l[i] (sumI l)
theorem alE_ne {T : Int} {l : List Int} (h : alE T l ≠ 0) : alL T l = [] := by
  by_cases h0 : chkE T l = 0
  · exact absurd (given_of h0).err h
  · unfold alL; rw [if_pos h0]
theorem alE_chk {T : Int} {l : List Int} (h : alE T l = 0) : chkE T l = 0 := by
  by_cases h0 : chkE T l = 0
  · exact h0
  · unfold alE at h; rw [if_pos h0] at h; exact absurd h h0
theorem claimF_of {T : Int} {l : List Int} (h : alE T l = 0) : ClaimF T l (alL T l) (lostL l (alL T l)) := by
  have h0 := alE_chk h
  have G := given_of h0
  have F := fit_of h0
  have hf := given_fit h0
  have el : lostL l (alL T l) = List.zipWith (· - ·) l (alL T l) := by unfold lostL; rw [if_pos hf]
  refine ⟨G.len, by rw [el, List.length_zipWith, G.len, Nat.min_self], G.sum, F.pos, F.all, F.amt, G.bd, fun i h1 h2 h3 => ?_, fun hlt i h1 h2 => ?_⟩
  · rw [getElem_of_eq el h3, List.getElem_zipWith]
  · obtain ⟨-, hc⟩ := al_cases h0
    have hp := F.pos
    have hs : sumN (wf l) l.length = sumI l := sum_wf l
    rcases hc with ⟨c1, -⟩ | ⟨-, c2, c3⟩ | ⟨-, c2, c3⟩
    · omega
    · rw [getElem_of_eq c3 h1, List.getElem_replicate, c2]
      exact FairP.zero (by omega)
    · rw [getElem_of_eq c3 h1, rowF_at, ← wf_at h2]
      exact part_fair (by omega) hs i
structure TripC (l zs ls : List Int) (i b o b1 o1 b2 o2 : Nat) (hi : i < l.length) (hi' : i < zs.length) (hi2 : i < ls.length) (W : World) : Prop where
  w : W.cell? ⟨b, o + i, none⟩ = some (.int .i64 l[i])
  z : W.cell? ⟨b1, o1 + i, none⟩ = some (.int .i64 zs[i])
  l : W.cell? ⟨b2, o2 + i, none⟩ = some (.int .i64 ls[i])
theorem trip_cells {B B1 B2 b o b1 o1 b2 o2 i : Nat} {l zs ls : List Int} {W : World} (h : Seg W B (some ⟨b, o, none⟩) (l.map (Value.int .i64))) (h1 : Seg W B1 (some ⟨b1, o1, none⟩) (zs.map (Value.int .i64))) (h2 : Seg W B2 (some ⟨b2, o2, none⟩) (ls.map (Value.int .i64))) (hi : i < l.length) (hi' : i < zs.length) (hi2 : i < ls.length) : TripC l zs ls i b o b1 o1 b2 o2 hi hi' hi2 W := by
  obtain ⟨p1, p2⟩ := pair_cells h h1 hi hi'
  obtain ⟨p3, p4⟩ := pair_cells h h2 hi hi2
  exact ⟨p1, p2, p4⟩
set_option maxHeartbeats 6400000 in
set_option maxRecDepth 1000000 in
theorem shclaims_law (T : Int) (l : List Int) (A : Option Addr) (c : Nat) (w : World) (hT : I64 T) (hl : ∀ x ∈ l, I64 x) (hs : Seg w w.heap.size A (l.map (Value.int .i64))) (hn : l.length ≤ maxLen) :
    Calls Try.prog 6 #[.int .i64 T, .slice A l.length c] w fun e w' => e = .returned (.bool true) ∧ Below w.heap.size w w' := by
  have hn' := hn
  unfold maxLen at hn'
  by_cases hbig : 40 < l.length
  · have q1 : decide ((40 : Int) < (l.length : Int)) = true := by simp only [decide_eq_true_eq]; omega
    clear hl hs
    go_enter Try.func6, Try.ntmps6
    go_wp2_with fail
    refine (awake3_any _).mono ?_
    rintro e w1 ⟨rfl, hb1⟩
    have HB1 := Lib.hid hb1
    clear hb1
    go_wp2_with fail
    go_ret
    exact ⟨rfl, HB1.out⟩
  have hn2 : l.length ≤ 40 := by omega
  have HP := Lib.hid (Allocate_any T l A c w hT hl hs hn)
  by_cases he : ¬ alE T l = 0
  · have hz := alE_ne he
    rw [hz] at HP
    have heb : (alE T l != 0) = true := by simpa [bne] using he
    clear hz he hl hs hT
    generalize alE T l = E at *
    go_enter Try.func6, Try.ntmps6
    go_wp2_with fail
    refine HP.out.mono ?_
    rintro e w1 ⟨A1, c1, rfl, hs1, hb1⟩
    have HB1 := Lib.hid hb1
    clear hs1 hb1
    go_wp2_with fail
    refine (awake3_any _).mono ?_
    rintro e w2 ⟨rfl, hb2⟩
    have HB2 : Hid (Below w.heap.size w w2) := HB1.out.trans (hb2.mono HB1.out.size)
    clear hb2
    go_wp2_with fail
    go_ret
    exact ⟨rfl, HB2.out⟩
  have he := Decidable.not_not.1 he
  have F := claimF_of he
  have HLE := Lib.hid (lost_len (alE_chk he)).2
  rw [he] at HP
  obtain ⟨hlen, hlen2, hsum, hpos, hall, hamt, hbd, hlost, hfair⟩ := F
  clear he
  have HLO : Hid (∀ (A1 : Option Addr) (c1 : Nat) (W : World), Below w.heap.size w W → Seg W W.heap.size A1 ((alL T l).map (Value.int .i64)) → Calls Try.prog 21 #[.slice A l.length c, .slice A1 (alL T l).length c1] W (GotI W (lostL l (alL T l)) 0)) := fun A1 c1 W hW h1 => by
    have h := Lost_any l (alL T l) A A1 c c1 W hl ((hs.below hW).mono hW.size) h1 (by omega)
    rw [HLE.out] at h
    exact h
  generalize lostL l (alL T l) = ls at *
  generalize alL T l = zs at *
  have hZI : ∀ x ∈ zs, I64 x := fun x hx => by
    obtain ⟨i, hi, rfl⟩ := List.mem_iff_getElem.1 hx
    have h1 := hbd i hi (by omega)
    have h2 := hl _ (List.getElem_mem (show i < l.length by omega))
    unfold I64 at *
    omega
  have HZI := Lib.hid hZI
  have HLEN := Lib.hid hlen
  have HLEN2 := Lib.hid hlen2
  have HS := Lib.hid hs
  have HI := Lib.hid hl
  have HSUM := Lib.hid hsum
  have HALL := Lib.hid hall
  have HBD := Lib.hid hbd
  have HFAIR := Lib.hid hfair
  have HLOST := Lib.hid hlost
  have hle : zs.length ≤ l.length := by omega
  have hge : l.length ≤ zs.length := by omega
  have hge2 : zs.length ≤ ls.length := by omega
  have hle2 : ls.length ≤ zs.length := by omega
  have hTT : T ≤ 9223372036854775807 := by unfold I64 at hT; omega
  have hS0 : 0 ≤ sumI l := sum_nonneg hall
  have hSS : sumI l ≤ 9223372036854775807 := by unfold I64 at hamt; omega
  have hMI : I64 (min T (sumI l)) := by unfold I64; omega
  have HAM := Lib.hid (amt_in hamt)
  have HAT := Lib.hid (amt_in hMI)
  clear hlen hlen2 hsum hall hamt hbd hfair hlost hs hl hT hMI hZI
  have HR1 : Hid (∀ W, Below w.heap.size w W → Calls Try.prog 19 #[.slice A l.length c] W fun e w' => e = .returned (.tuple #[.int .i64 (sumI l), .int .i64 0]) ∧ W = w') := fun W hW => by
    have h := refsum_any l A c W HI.out ((HS.out.below hW).mono hW.size) (by omega)
    rw [HAM.out.1, HAM.out.2] at h
    exact h
  have HR2 : Hid (∀ (A1 : Option Addr) (c1 : Nat) (W : World), Seg W W.heap.size A1 (zs.map (Value.int .i64)) → Calls Try.prog 19 #[.slice A1 zs.length c1] W fun e w' => e = .returned (.tuple #[.int .i64 (min T (sumI l)), .int .i64 0]) ∧ W = w') := fun A1 c1 W hW => by
    have h := refsum_any zs A1 c1 W HZI.out hW (by omega)
    rw [HSUM.out, HAT.out.1, HAT.out.2] at h
    exact h
  clear HAM HAT HSUM
  generalize sumI l = S at *
  go_enter Try.func6, Try.ntmps6
  go_wp2_with fail
  refine HP.out.mono ?_
  rintro e w1 ⟨A1, c1, rfl, hs1, hb1⟩
  have HS1 := Lib.hid hs1
  have HB1 := Lib.hid hb1
  clear hs1 hb1 HP
  go_wp2_with fail
  refine (HR1.out _ HB1.out).mono ?_
  rintro e w2 ⟨rfl, rfl⟩
  clear HR1
  go_wp2_with fail
  refine (HR2.out A1 c1 _ HS1.out).mono ?_
  rintro e w3 ⟨rfl, rfl⟩
  clear HR2
  go_wp2_with fail
  refine (HLO.out A1 c1 _ HB1.out HS1.out).mono ?_
  rintro e w3 ⟨A2, c2, rfl, hs3, hb3⟩
  have HS3 : Hid (Seg w3 w3.heap.size A1 (zs.map (Value.int .i64))) := (HS1.out.below hb3).mono hb3.size
  have HL3 := Lib.hid hs3
  have HB3 : Hid (Below w.heap.size w w3) := HB1.out.trans (hb3.mono HB1.out.size)
  have hw3 := HB3.out.size
  clear hb3 hs3 HLO HS1 HB1
  have e1 : ((zs.length : Int) != (l.length : Int)) = false := by simp; omega
  have e1' : (zs.length != l.length) = false := by simp; omega
  have e2 : ((ls.length : Int) != (zs.length : Int)) = false := by simp; omega
  have e2' : (ls.length != zs.length) = false := by simp; omega
  have e3 : (min T S != min T S) = false := by simp
  go_wp2_with fail
  clear e1 e1' e2 e2' e3
  go_loopw [13] (fun i wr => ∃ k : Nat, k ≤ zs.length ∧ i = .int .i64 k ∧ Hid (Below w3.heap.size w3 wr)) (fun i _ => zs.length - (intOf i).toNat)
  case atStart => exact ⟨0, Nat.zero_le _, rfl, Below.refl _ _⟩
  case round =>
    obtain ⟨i, hk, rfl, HB⟩ := hrel
    have hsz := HB.out.size
    by_cases hlt : i < zs.length
    · have hltl : i < l.length := by omega
      have hltm : i < ls.length := by omega
      obtain ⟨b, o, rfl, hb, -⟩ := HS.out.at (k := i) (by simpa using hltl)
      obtain ⟨b1, o1, rfl, hb1, -⟩ := HS3.out.at (k := i) (by simpa using hlt)
      obtain ⟨b2, o2, rfl, hb2, -⟩ := HL3.out.at (k := i) (by simpa using hltm)
      have HWO : Hid (Below w.heap.size w wr) := HB3.out.trans (HB.out.mono hw3)
      obtain ⟨q0, q1, q2⟩ := trip_cells (HS.out.below HWO.out) (HS3.out.below HB.out) (HL3.out.below HB.out) hltl hlt hltm
      have hk0 : (0 : Int) ≤ (i : Int) := by omega
      have hkb : (i : Int) < (l.length : Int) := by omega
      have hkb2 : (i : Int) < (zs.length : Int) := by omega
      have hkb3 : (i : Int) < (ls.length : Int) := by omega
      have hWB1 := HALL.out _ (List.getElem_mem hltl)
      have hWB2 := HI.out _ (List.getElem_mem hltl)
      unfold I64 at hWB2
      have hZB := HBD.out i hlt hltl
      have HFI : Hid (T < S → FairP zs[i] T l[i] S) := fun h => HFAIR.out h i hlt hltl
      rw [HLOST.out i hlt hltl hltm] at q2
      generalize zs[i] = p at *
      generalize l[i] = wt at *
      obtain ⟨z0, z1⟩ := hZB
      have x1 : IntKind.i64.wrap (wt - p) = wt - p := IntWalk.i64_in _ (by omega)
      have d1 : decide (p < 0) = false := decide_eq_false (by omega)
      have d2 : decide (wt < p) = false := decide_eq_false (by omega)
      have d3 : (wt - p != wt - p) = false := by simp
      by_cases hS : T < S
      · have hSb : decide (T < S) = true := decide_eq_true hS
        have HFA : Hid (∀ W, Calls Try.prog 20 #[.int .i64 p, .int .i64 T, .int .i64 wt, .int .i64 S] W fun e w' => e = .returned (.bool true) ∧ Below W.heap.size W w') := fun W => by
          obtain ⟨f1, f2⟩ := HFI.out hS
          exact fair_any p T wt S W z0 (by omega) hpos hTT (by omega) (by omega) hS0 hSS f1 f2
        go_wp2_with fail
        have hbel : ∀ (n : Bel wr.heap.size wr) (b o : Nat), b < wr.heap.size → n.wd.cell? ⟨b, o, none⟩ = wr.cell? ⟨b, o, none⟩ := fun n b o hb => Bel.cells n b o hb
        have hbb : b < wr.heap.size := by omega
        have hbb1 : b1 < wr.heap.size := by omega
        have hbb2 : b2 < wr.heap.size := by omega
        clear hWB1 hWB2 z0 z1
        refine wp_region_bel wr.heap.size (by kernel_rfl) (by kernel_rfl) ?_
        repeat (go_big_quiet_step ((go_at_call 20; exact Calls.bel_of (Nat.le_refl _) (HFA.out _))))
        refine wpQuiet_nil ?_
        intro w5 hw5
        obtain ⟨nb, rfl⟩ := hw5
        have HB5 := Lib.hid nb.h
        obtain ⟨w5, hw5⟩ : ∃ w5 : World, w5 = nb.wd := ⟨_, rfl⟩
        rw [← hw5] at HB5 ⊢
        clear hw5 hbel hbb hbb1 hbb2 hSb x1 d1 d2 d3
        go_wp2_with fail
        go_roundw
        case rel => exact ⟨i + 1, by omega, by go_num, HB.out.trans (HB5.out.mono hsz)⟩
        case measure => simp [intOf]; omega
      · have hSb : decide (T < S) = false := decide_eq_false hS
        clear hWB1 hWB2 z0 z1
        go_wp2_with fail
        go_quiet (fail)
        clear x1 d1 d2 d3 hSb
        go_wp2_with fail
        go_roundw
        case rel => exact ⟨i + 1, by omega, by go_num, below_drewN HB.out nq⟩
        case measure => simp [intOf]; omega
    · obtain rfl : i = zs.length := by omega
      go_wp2_with fail
      refine (awake3_any _).mono ?_
      rintro e w7 ⟨rfl, hb7⟩
      have HB7 : Hid (Below w.heap.size w w7) := HB3.out.trans ((HB.out.trans (hb7.mono hsz)).mono hw3)
      clear hb7
      go_wp2_with fail
      go_ret
      exact ⟨rfl, HB7.out⟩
end Go.Proofs.Ytblplkajgbbkdaa
