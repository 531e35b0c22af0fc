/-
  What complineref26.Sum, Given and Some come to, over this seat's translation: contracts for callers.
-/
import Derived.Test.YtglpnpjjjihghaaAl3
import Derived.Test.YtglpnpjjjihghaaLSame
import Derived.Test.YtglpnpjjjihghaaRef01D
import Derived.Test.YtglpnpjjjihghaaMgE
namespace Go.Proofs.Ytglpnpjjjihghaa
open Go.RowKit

structure RC26 (L : List Lg) (k : Nat) (b o : Nat) (hk : k < L.length) (W : World) : Prop where
  d0 : W.cell? ⟨b, o + k * 3, none⟩ = some (.int .i64 L[k].m)
  d1 : W.cell? ⟨b, o + k * 3 + 1, none⟩ = some (.int .i64 L[k].a)
  d2 : W.cell? ⟨b, o + k * 3 + 2, none⟩ = some (.int .i64 L[k].n)
theorem lg_cells {W : World} {B b o : Nat} {L : List Lg} (h : Seg W B (some ⟨b, o, none⟩) (lgRows L)) {k : Nat} (hk : k < L.length) : RC26 L k b o hk W := by
  obtain ⟨b9, o9, e9, _, d0, d1, d2⟩ := lg_at h hk
  injection e9 with e9
  injection e9 with e91 e92
  subst e91 e92
  exact ⟨d0, d1, d2⟩
set_option maxHeartbeats 3200000 in
set_option maxRecDepth 100000 in
theorem rsum26_any (L : List Lg) (A : Option Addr) (c : Nat) (w : World) (hs : Seg w w.heap.size A (lgRows L)) (hI : ∀ x ∈ L, I64 x.n) (hl : L.length ≤ 100000) :
    Calls Try.prog 37 #[.slice A L.length c] w fun e w' => e = .returned (.tuple #[.int .i64 (sumV L), .int .i64 (clmE L)]) ∧ Below w.heap.size w w' := by
  have HS := Lib.hid hs
  have HI := Lib.hid hI
  have HD := Lib.hid (show sumV L = if clmE L = 0 then sumI (amts L) else 0 from rfl)
  obtain ⟨i0, hi0, hz0, hz1, hz2⟩ := info_parts i64_info
  clear hs hI
  by_cases hle : L.length ≤ 1024
  · have hle' : ¬ (1024 : Int) < (L.length : Int) := by omega
    go_enter Try.func37, Try.ntmps37
    go_wp2_with fail
    go_loopw [4, 5] (fun u i wr => ∃ k : Nat, k ≤ L.length ∧ i = .int .i64 k ∧ Hid (∀ j, j < k → badAt L j = false) ∧ Hid (wr.ownsRow w.heap.size 2 1 u (amts (L.take k)).length ((amts (L.take k)).map (Value.int .i64))) ∧ Hid (Below w.heap.size w wr)) (fun _ i _ => L.length - (intOf i).toNat)
    case atStart => exact ⟨0, Nat.zero_le _, rfl, fun j h => by omega, World.ownsRow_nil _ _ _ _, Below.refl _ _⟩
    case round =>
      obtain ⟨k, hk, rfl, HP, HO, HB⟩ := hrel
      have hsz := HB.out.size
      by_cases hlt : k < L.length
      · obtain ⟨b, o, rfl, hb, d0, d1, d2⟩ := lg_at (HS.out.below HB.out) hlt
        have HS1 := Lib.hid (HS.out.below HB.out)
        obtain ⟨f0, f1, f2⟩ := lg_cells HS1.out (show 0 < L.length by omega)
        simp only [Nat.zero_mul, Nat.add_zero] at f0 f1 f2
        rw [← ast0_at (show 0 < L.length by omega)] at f1
        have HBA := Lib.hid (badAt_at hlt)
        have hk0 : (0 : Int) ≤ (k : Int) := by omega
        have hkb : (k : Int) < (L.length : Int) := by omega
        have hl0 : (0 : Int) < (L.length : Int) := by omega
        have hl0n : 0 < L.length := by omega
        by_cases hn : L[k].n ≤ 0
        · have hnb : decide (L[k].n < 1) = true := decide_eq_true (by omega)
          have hnc : decide (L[k].n ≤ 0) = true := decide_eq_true hn
          have HE := Lib.hid (clmE_bad hle hlt (HBA.out.trans (by rw [hnb]; rfl)))
          have HSV : Hid (sumV L = 0) := by show _ = _; rw [HD.out, HE.out]; rfl
          go_wp2_with fail
          go_quiet (fail)
          go_wp2_with fail
          go_ret2
          exact ⟨(by rw [HSV.out, HE.out]; first | done | rfl), below_drewN HB.out nq⟩
        · have hnb : decide (L[k].n < 1) = false := decide_eq_false (by omega)
          have hnc : decide (L[k].n ≤ 0) = false := decide_eq_false hn
          by_cases ha : L[k].a = ast0 L
          · have hab : (L[k].a != ast0 L) = false := by simpa using ha
            rcases Nat.eq_zero_or_pos k with hz | hz
            · subst hz
              simp only [Nat.zero_mul, Nat.add_zero] at d0 d1 d2
              have HP1 : Hid (∀ j, j < 0 + 1 → badAt L j = false) := by
                intro j hj
                by_cases e : j = 0
                · subst e; exact HBA.out.trans (by rw [hnb, hab]; rfl)
                · exact HP.out j (by omega)
              go_wp2_with fail
              go_quiet (fail)
              have HB2 : Hid (Below w.heap.size w (wr.drewN nq)) := below_drewN HB.out nq
              have HO2 : Hid ((wr.drewN nq).ownsRow w.heap.size 2 1 _ _ _) := HO.out
              have HF := Lib.hid (amts_snoc hlt)
              have hyl : (amts (L.take 0)).length ≤ 0 := by rw [amts_len, List.length_take]; omega
              obtain ⟨x0, x1, x2⟩ := lg_cells (HS.out.below HB2.out) hlt
              have hsz2 := HB2.out.size
              clear d0 d1 d2 f0 f1 f2 hnb hnc hab hn ha
              generalize wr.drewN nq = wd at *
              generalize amts (L.take 0) = ys at *
              go_wp2_with (at_builtin; refine wpList_append_own _ rfl _ _ 35 rfl w.heap.size 2 i0 _ 1 8 Try.underlying35 hi0 hz0 hz1 hz2 rfl (by decide) _ ys.length (ys.map (Value.int .i64)) rfl (HO2.out.alloc _) ⟨wd.heap.size, 0, none⟩ 1 1 [.int .i64 L[0].n] rfl rfl (new_cells _ _ #[_] (by simp)) one_int (by simp only [maxLen]; omega) (by omega) (by simp; omega) ?_)
              intro v' w4 hown1 hgrow1 _
              have HO4 : Hid (w4.ownsRow w.heap.size 2 1 v' (amts (L.take (0 + 1))).length ((amts (L.take (0 + 1))).map (Value.int .i64))) := by
                show World.ownsRow _ _ _ _ _ _ _
                rw [HF.out, List.map_append, List.length_append, List.length_singleton]
                exact hown1
              have HG4 : Hid (Below w.heap.size w w4) := (HB2.out.alloc hsz2 _).grown hgrow1 (by simp; omega) (fun j hj => own_base HO2.out j hj)
              clear hown1 hgrow1
              go_wp2_with fail
              go_roundw
              case rel => exact ⟨0 + 1, by omega, by go_num, HP1, HO4, HG4⟩
              case measure => simp [intOf]; omega
            · have hz' : (0 : Int) < (k : Int) := by omega
              have hzb : decide (0 < k) = true := by simpa using hz
              obtain ⟨g0, g1, g2⟩ := lg_cells HS1.out (show k - 1 < L.length by omega)
              rw [← prevM_at (show k - 1 < L.length by omega)] at g0
              have hkw : IntKind.i64.wrap ((k : Int) - 1) = (k : Int) - 1 := IntWalk.i64_in _ (by omega)
              have hk1 : (0 : Int) ≤ (k : Int) - 1 := by omega
              have hk2 : (k : Int) - 1 < (L.length : Int) := by omega
              have hkn : ((k : Int) - 1).toNat = k - 1 := by omega
              by_cases hm : L[k].m ≤ prevM L k
              · have hmb : decide (L[k].m ≤ prevM L k) = true := decide_eq_true hm
                have HE := Lib.hid (clmE_bad hle hlt (HBA.out.trans (by rw [hnb, hab, hzb, hmb]; rfl)))
                have HSV : Hid (sumV L = 0) := by show _ = _; rw [HD.out, HE.out]; rfl
                go_wp2_with fail
                go_quiet (fail)
                go_wp2_with fail
                go_ret2
                exact ⟨(by rw [HSV.out, HE.out]; first | done | rfl), below_drewN HB.out nq⟩
              · have hmb : decide (L[k].m ≤ prevM L k) = false := decide_eq_false hm
                have HP1 : Hid (∀ j, j < k + 1 → badAt L j = false) := by
                  intro j hj
                  by_cases e : j = k
                  · subst e; exact HBA.out.trans (by rw [hnb, hab, hzb, hmb]; rfl)
                  · exact HP.out j (by omega)
                go_wp2_with fail
                go_quiet (fail)
                have HB2 : Hid (Below w.heap.size w (wr.drewN nq)) := below_drewN HB.out nq
                have HO2 : Hid ((wr.drewN nq).ownsRow w.heap.size 2 1 _ _ _) := HO.out
                have HF := Lib.hid (amts_snoc hlt)
                have hyl : (amts (L.take k)).length ≤ k := by rw [amts_len, List.length_take]; omega
                obtain ⟨x0, x1, x2⟩ := lg_cells (HS.out.below HB2.out) hlt
                have hsz2 := HB2.out.size
                clear d0 d1 d2 f0 f1 f2 hnb hnc hab hn ha
                generalize wr.drewN nq = wd at *
                generalize amts (L.take k) = ys at *
                go_wp2_with (at_builtin; refine wpList_append_own _ rfl _ _ 35 rfl w.heap.size 2 i0 _ 1 8 Try.underlying35 hi0 hz0 hz1 hz2 rfl (by decide) _ ys.length (ys.map (Value.int .i64)) rfl (HO2.out.alloc _) ⟨wd.heap.size, 0, none⟩ 1 1 [.int .i64 L[k].n] rfl rfl (new_cells _ _ #[_] (by simp)) one_int (by simp only [maxLen]; omega) (by omega) (by simp; omega) ?_)
                intro v' w4 hown1 hgrow1 _
                have HO4 : Hid (w4.ownsRow w.heap.size 2 1 v' (amts (L.take (k + 1))).length ((amts (L.take (k + 1))).map (Value.int .i64))) := by
                  show World.ownsRow _ _ _ _ _ _ _
                  rw [HF.out, List.map_append, List.length_append, List.length_singleton]
                  exact hown1
                have HG4 : Hid (Below w.heap.size w w4) := (HB2.out.alloc hsz2 _).grown hgrow1 (by simp; omega) (fun j hj => own_base HO2.out j hj)
                clear hown1 hgrow1
                go_wp2_with fail
                go_roundw
                case rel => exact ⟨k + 1, by omega, by go_num, HP1, HO4, HG4⟩
                case measure => simp [intOf]; omega
          · have hab : (L[k].a != ast0 L) = true := by simpa [bne] using ha
            have HE := Lib.hid (clmE_bad hle hlt (HBA.out.trans (by rw [hnb, hab]; rfl)))
            have HSV : Hid (sumV L = 0) := by show _ = _; rw [HD.out, HE.out]; rfl
            go_wp2_with fail
            go_quiet (fail)
            go_wp2_with fail
            go_ret2
            exact ⟨(by rw [HSV.out, HE.out]; first | done | rfl), below_drewN HB.out nq⟩
      · obtain rfl : k = L.length := by omega
        have HE := Lib.hid (clmE_good hle HP.out)
        have hO := HO.out
        rw [List.take_length] at hO
        obtain ⟨A1, c1, rfl⟩ := own_form hO
        have HSD := Lib.hid (Seg.of_own hO)
        have hll : (amts L).length ≤ 1073741824 := by rw [amts_len]; omega
        have HLN := Lib.hid (amts_len L)
        clear hO
        go_wp2_with fail
        refine (refsum_any (amts L) A1 c1 _ (amts_I64 HI.out) HSD.out hll).mono ?_
        rintro e w3 ⟨rfl, rfl⟩
        have HSV : Hid (sumV L = amtV (sumI (amts L))) := by
          show _ = _
          rw [HD.out, HE.out]
          by_cases h9 : I64 (sumI (amts L))
          · rw [(amt_in h9).1, (amt_in h9).2]; rfl
          · rw [(amt_out h9).1, (amt_out h9).2]; rfl
        go_wp2_with fail
        go_ret2
        exact ⟨(by rw [HSV.out, HE.out]; first | done | rfl), HB.out⟩
  · have hle' : (1024 : Int) < (L.length : Int) := by omega
    have HE : Hid (clmE L = 6) := by show _ = _; unfold clmE; rw [if_pos (by omega)]
    have HSV : Hid (sumV L = 0) := by show _ = _; rw [HD.out, HE.out]; rfl
    go_enter Try.func37, Try.ntmps37
    go_wp2_with fail
    go_ret2
    exact ⟨(by rw [HSV.out, HE.out]; first | done | rfl), Below.refl _ _⟩

set_option maxHeartbeats 800000 in
set_option maxRecDepth 100000 in
theorem given26_any (avail : Int) (L : List Lg) (A : Option Addr) (c : Nat) (w : World) (hA : I64 avail) (hs : Seg w w.heap.size A (lgRows L)) (hI : ∀ x ∈ L, I64 x.n) (hl : L.length ≤ 100000) :
    Calls Try.prog 39 #[.int .i64 avail, .slice A L.length c] w (CloneP (alL avail (amts L)) w) := by
  have HS := Lib.hid hs
  have HI := Lib.hid hI
  have HA := Lib.hid hA
  obtain ⟨i0, hi0, hz0, hz1, hz2⟩ := info_parts i64_info
  clear hs hI hA
  go_enter Try.func39, Try.ntmps39
  go_wp2_with fail
  go_loopw [5, 6] (fun u i wr => ∃ k : Nat, k ≤ L.length ∧ i = .int .i64 k ∧ Hid (wr.ownsRow w.heap.size 2 1 u (amts (L.take k)).length ((amts (L.take k)).map (Value.int .i64))) ∧ Hid (Below w.heap.size w wr)) (fun _ i _ => L.length - (intOf i).toNat)
  case atStart => exact ⟨0, Nat.zero_le _, rfl, World.ownsRow_nil _ _ _ _, Below.refl _ _⟩
  case round =>
    obtain ⟨k, hk, rfl, HO, HB⟩ := hrel
    have hsz := HB.out.size
    by_cases hlt : k < L.length
    · obtain ⟨b, o, rfl, hb, d0, d1, d2⟩ := lg_at (HS.out.below HB.out) hlt
      have HF := Lib.hid (amts_snoc hlt)
      have hyl : (amts (L.take k)).length ≤ k := by rw [amts_len, List.length_take]; omega
      generalize amts (L.take k) = ys at *
      go_wp2_with (at_builtin; refine wpList_append_own _ rfl _ _ 35 rfl w.heap.size 2 i0 _ 1 8 Try.underlying35 hi0 hz0 hz1 hz2 rfl (by decide) _ ys.length (ys.map (Value.int .i64)) rfl (HO.out.alloc _) ⟨wr.heap.size, 0, none⟩ 1 1 [.int .i64 L[k].n] rfl rfl (new_cells _ _ #[_] (by simp)) one_int (by simp only [maxLen]; omega) (by omega) (by simp; omega) ?_)
      intro v' w4 hown1 hgrow1 _
      have HO4 : Hid (w4.ownsRow w.heap.size 2 1 v' (amts (L.take (k + 1))).length ((amts (L.take (k + 1))).map (Value.int .i64))) := by
        show World.ownsRow _ _ _ _ _ _ _
        rw [HF.out, List.map_append, List.length_append, List.length_singleton]
        exact hown1
      have HG4 : Hid (Below w.heap.size w w4) := (HB.out.alloc hsz _).grown hgrow1 (by simp; omega) (fun j hj => own_base HO.out j hj)
      clear hown1 hgrow1
      go_wp2_with fail
      go_roundw
      case rel => exact ⟨k + 1, by omega, by go_num, HO4, HG4⟩
      case measure => simp [intOf]; omega
    · obtain rfl : k = L.length := by omega
      have hO := HO.out
      rw [List.take_length] at hO
      obtain ⟨A1, c1, rfl⟩ := own_form hO
      have HSD := Lib.hid (Seg.of_own hO)
      have hal : (amts L).length ≤ maxLen := by rw [amts_len]; unfold maxLen; omega
      clear hO
      go_wp2_with fail
      refine (rAllocate_any avail (amts L) A1 c1 _ HA.out (amts_I64 HI.out) HSD.out hal).mono ?_
      rintro e w2 ⟨A2, c2, rfl, hs2, hb2⟩
      have HS2 := Lib.hid hs2
      have HB2 : Hid (Below w.heap.size w w2) := HB.out.trans (hb2.mono hsz)
      clear hs2 hb2
      go_wp2_with fail
      go_ret
      exact ⟨A2, c2, rfl, HS2.out, HB2.out⟩

set_option maxHeartbeats 1600000 in
set_option maxRecDepth 100000 in
theorem some26_any (L : List Lg) (xs : List Int) (A A' : Option Addr) (c c' : Nat) (w : World) (hs : Seg w w.heap.size A (lgRows L)) (hs' : Seg w w.heap.size A' (xs.map (Value.int .i64))) (hl : L.length ≤ 100000) (hx : xs.length = L.length) :
    Calls Try.prog 40 #[.slice A L.length c, .slice A' xs.length c'] w (LegP (someL L xs) w) := by
  obtain ⟨i0, hi0, hz0, hz1', hz2⟩ := info_parts lg_info
  have HS := Lib.hid hs
  have HS' := Lib.hid hs'
  have HX := Lib.hid hx
  have hxl : xs.length ≤ L.length := by omega
  have hxg : L.length ≤ xs.length := by omega
  clear hs hs' hx
  go_enter Try.func40, Try.ntmps40
  go_wp2_with fail
  go_loopw [5, 6] (fun u i wr => ∃ k : Nat, k ≤ L.length ∧ i = .int .i64 k ∧ Hid (wr.ownsRow w.heap.size 75 3 u (someL (L.take k) (xs.take k)).length (lgRows (someL (L.take k) (xs.take k)))) ∧ Hid (Below w.heap.size w wr)) (fun _ i _ => L.length - (intOf i).toNat)
  case atStart => exact ⟨0, Nat.zero_le _, rfl, ⟨by simp [someL, lgRows], Or.inl ⟨rfl, rfl⟩⟩, Below.refl _ _⟩
  case round =>
    obtain ⟨k, hk, rfl, HO, HB⟩ := hrel
    have hsz := HB.out.size
    by_cases hltL : k < L.length
    · have hlt : k < xs.length := by omega
      obtain ⟨b', o', rfl, hb', hc'⟩ := (HS'.out.below HB.out).at (k := k) (by simpa using hlt)
      rw [List.getElem_map] at hc'
      have HF := Lib.hid (someL_snoc hltL hlt)
      have hyl := someL_len L xs k
      by_cases hp : 0 < xs[k]
      · obtain ⟨b, o, rfl, hb2, -, -, -⟩ := lg_at (HS.out.below HB.out) hltL
        have HKP : Hid (∀ W, Below w.heap.size w W → W.cell? ⟨b, o + k * 3, none⟩ = some (.int .i64 L[k].m) ∧ W.cell? ⟨b, o + k * 3 + 1, none⟩ = some (.int .i64 L[k].a) ∧ W.cell? ⟨b', o' + k, none⟩ = some (.int .i64 xs[k])) := fun W hW => by
          obtain ⟨d0, d1, d2⟩ := lg_cells (HS.out.below hW) hltL
          obtain ⟨b9, o9, e9, _, hc9⟩ := (HS'.out.below hW).at (k := k) (by simpa using hlt)
          injection e9 with e9
          injection e9 with e91 e92
          subst e91 e92
          rw [List.getElem_map] at hc9
          exact ⟨d0, d1, hc9⟩
        obtain ⟨q0, q1, q2⟩ := HKP.out _ HB.out
        rw [if_pos hp] at HF
        have hk0 : (0 : Int) ≤ (k : Int) := by omega
        have hkb : (k : Int) < (L.length : Int) := by omega
        have hkx : (k : Int) < (xs.length : Int) := by omega
        generalize someL (L.take k) (xs.take k) = ys at *
        clear hc'
        go_wp2_with fail
        go_region_held3 (fun w' => w'.cell? ⟨b, o + k * 3, none⟩ = some (.int .i64 L[k].m) ∧ w'.cell? ⟨b, o + k * 3 + 1, none⟩ = some (.int .i64 L[k].a) ∧ w'.cell? ⟨b', o' + k, none⟩ = some (.int .i64 xs[k])) (first | (with_reducible exact HKP.out _ HB.out.drew) | (with_reducible exact HKP.out _ (HB.out.drew.alloc hsz _)) | exact HKP.out _ (HB.out.alloc hsz _).drew | (with_reducible exact HKP.out _ HG4.out)) ((refine step_append_lies _ rfl _ _ 27 rfl w.heap.size 75 i0 _ 3 24 Try.underlying27 hi0 hz0 hz1' hz2 rfl (by decide) _ ys.length (lgRows ys) rfl (HO.out.alloc _) ⟨wr.heap.size, 0, none⟩ 1 1 (Lg.cells ⟨L[k].m, L[k].a, xs[k]⟩) rfl rfl (new_cells _ _ #[_, _, _] (by simp)) (leg_one ⟨L[k].m, L[k].a, xs[k]⟩) (by decide) (by simp only [maxLen]; omega) (by omega) (by simp; omega) _ rfl ?_; intro g cap w4 hown1 hgrow1 _ _; have HO4 := Lib.hid hown1; have HG4 : Hid (Below w.heap.size w w4) := (HB.out.alloc hsz _).drew.grown hgrow1 (by show w.heap.size ≤ (wr.alloc _).heap.size; simp; omega) (fun j hj => own_base HO.out j hj); clear hown1 hgrow1))
        have HO5 : Hid (w4.ownsRow w.heap.size 75 3 (.slice (some ⟨g, 0, none⟩) (ys.length + 1) cap) (someL (L.take (k + 1)) (xs.take (k + 1))).length (lgRows (someL (L.take (k + 1)) (xs.take (k + 1))))) := by
          show World.ownsRow _ _ _ _ _ _ _
          rw [HF.out, lgRows_snoc, List.length_append, List.length_singleton]
          exact HO4.out
        go_wp2_with fail
        go_roundw
        case rel => exact ⟨k + 1, by omega, by go_num, HO5, HG4⟩
        case measure => simp [intOf]; omega
      · rw [if_neg hp, List.append_nil] at HF
        have hO2 := HO.out
        rw [← HF.out] at hO2
        have HO1 := Lib.hid hO2
        clear hO2
        go_wp2_with fail
        go_roundw
        case rel => exact ⟨k + 1, by omega, by go_num, HO1, HB⟩
        case measure => simp [intOf]; omega
    · obtain rfl : k = L.length := by omega
      have hO := HO.out
      rw [List.take_length, List.take_of_length_le (by omega)] at hO
      obtain ⟨A1, c1, rfl⟩ := own_form hO
      have HSD := Lib.hid (Seg.of_own hO)
      clear hO
      go_wp2_with fail
      go_ret
      exact ⟨A1, c1, rfl, HSD.out, HB.out⟩
end Go.Proofs.Ytglpnpjjjihghaa
