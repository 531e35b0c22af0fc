/-
  What complineref27.Sums comes to, over this seat's translation: a contract for callers.
-/
import Derived.Test.YtglpnpjjjihghaaGat
import Derived.Test.YtglpnpjjjihghaaIntsW
import Derived.Test.YtglpnpjjjihghaaSumsLaw
import Derived.Test.YtglpnpjjjihghaaRef01D
import Derived.Deep.RegionHeld3
import Derived.Laws.EntriesVeiled
import Derived.Deep.QuietTactic
import Derived.BigQuiet
import Derived.Deep.LoopGhost
namespace Go.Proofs.Ytglpnpjjjihghaa
open Go.RowKit

theorem i64_info6 : (Try.prog.info? 2).map (fun i => (i.zero, i.size, i.bytes)) = some (some (.int .i64 0), 1, 8) := by kernel_rfl
theorem gatR_len (f : Int → List Int) (ks : List Int) {j : Nat} (hj : j ≤ ks.length) : (gatR f (ks.take j)).length = j := by
  unfold gatR
  rw [List.length_map, List.length_take]
  omega
theorem gatR_last (f : Int → List Int) {ks : List Int} {j : Nat} (hj : j - 1 < ks.length) (h : j - 1 < (gatR f (ks.take j)).length) : (gatR f (ks.take j))[j - 1].m = ks[j - 1] := by
  simp only [gatR, List.getElem_map, List.getElem_take]
theorem gatE_bad {f : Int → List Int} {ks : List Int} {k : Nat} (hk : k < ks.length) (h : ∀ j (hj : j < ks.length), j < k → I64 (sumI (f ks[j]))) (h' : ¬ I64 (sumI (f ks[k]))) : gatE f ks = 2 := gatE_take hk (fun j hj => h j (by omega) hj) h'
/-- While the sums are told: j of them are. -/
structure SI (f : Int → List Int) (ks : List Int) (w wr : World) (j : Nat) (u : Value) : Prop where
  ok : ∀ i (hi : i < ks.length), i < j → I64 (sumI (f ks[i]))
  own : wr.ownsRow w.heap.size 75 3 u j (lgRows (gatR f (ks.take j)))
  b : Below w.heap.size w wr
theorem SI.below {f : Int → List Int} {ks : List Int} {w wr w2 : World} {j : Nat} {u : Value} (h : SI f ks w wr j u) (hb : Below wr.heap.size wr w2) : SI f ks w w2 j u :=
  ⟨h.ok, own_below' h.own hb, h.b.trans (hb.mono h.b.size)⟩
theorem SI.last {f : Int → List Int} {ks : List Int} {w wr : World} {j : Nat} {A : Option Addr} {c : Nat} (h : SI f ks w wr j (.slice A j c)) (h0 : 0 < j) (hj : j ≤ ks.length) :
    ∃ b o, A = some ⟨b, o, none⟩ ∧ b < wr.heap.size ∧ wr.cell? ⟨b, o + (j - 1) * 3, none⟩ = some (.int .i64 (ks.getD (j - 1) 0)) := by
  have hs := Seg.of_own h.own
  have hl := gatR_len f ks hj
  obtain ⟨b, o, e, hb, d0, _, _⟩ := lg_at hs (k := j - 1) (by omega)
  refine ⟨b, o, e, hb, ?_⟩
  rw [d0, gatR_last f (by omega), List.getD_eq_getElem?_getD, List.getElem?_eq_getElem (by omega)]
  rfl
set_option maxHeartbeats 3200000 in
set_option maxRecDepth 100000 in
theorem Sums_any (ms zs ks : List Int) (A B : Option Addr) (c d : Nat) (w : World) (hA : Seg w w.heap.size A (ms.map (Value.int .i64))) (hB : Seg w w.heap.size B (zs.map (Value.int .i64))) (hl : ms.length ≤ 100000) (he : zs.length = ms.length) (hK : Keys ms ks) (hI : ∀ z ∈ zs, I64 z) (hM : ∀ z ∈ ms, I64 z) :
    Calls Try.prog 45 #[.slice A ms.length c, .slice B zs.length d] w (GotLE (gatL (sumF ms zs) ks) (gatE (sumF ms zs) ks) w) := by
  obtain ⟨i0, hi0, hz0, hz1', hz2⟩ := info_parts lg_info3
  obtain ⟨j0, hj0, jz0, jz1, jz2⟩ := info_parts i64_info6
  have HA := Lib.hid hA
  have HB := Lib.hid hB
  have HK := Lib.hid hK
  have HI := Lib.hid hI
  have HM := Lib.hid hM
  have HE := Lib.hid he
  have hkl := hK.len
  have hzl : ms.length ≤ zs.length := by omega
  have hzg : zs.length ≤ ms.length := by omega
  clear hA hB hK hI hM he
  have HF : Hid (∀ q, (sumF ms zs q).length ≤ 100000 ∧ ∀ z ∈ sumF ms zs q, I64 z) := Lib.hid fun q => ⟨by
    have := sumF_len ms zs q ms.length
    rw [List.take_length, List.take_of_length_le hzg] at this
    omega, fun z hz => HI.out z (sumF_mem hz)⟩
  go_enter Try.func45, Try.ntmps45
  go_wp2_with fail
  go_loopw [6, 7] (fun u i wr => ∃ j : Nat, j ≤ ks.length ∧ i = .int .i64 j ∧ Hid (SI (sumF ms zs) ks w wr j u)) (fun _ i _ => ms.length - (intOf i).toNat)
  case atStart => exact ⟨0, Nat.zero_le _, rfl, fun i _ h => absurd h (Nat.not_lt_zero _), ⟨by simp [gatR, lgRows], Or.inl ⟨rfl, rfl⟩⟩, Below.refl _ _⟩
  case round =>
    obtain ⟨j, hj, rfl, HS⟩ := hrel
    obtain ⟨A0, c0, rfl⟩ := own_form HS.out.own
    have hsz := HS.out.b.size
    by_cases hlt : j < ms.length
    · go_wp2_with fail
      go_loopw [8, 9] (fun p i wk => ∃ k : Nat, ∃ pp : Int, k ≤ ms.length ∧ i = .int .i64 k ∧ p = .int .i64 pp ∧ Hid (NX ms ks j k pp) ∧ Hid (∃ n, wr.drewN n = wk)) (fun _ i _ => ms.length - (intOf i).toNat)
      case atStart => exact ⟨0, -1, Nat.zero_le _, rfl, rfl, NX.start _ _ _, 0, rfl⟩
      case round =>
        obtain ⟨k, pp, hk, rfl, rfl, HN, HW⟩ := hrel
        obtain ⟨n, rfl⟩ := HW.out
        have HBW : Hid (Below w.heap.size w (wr.drewN n)) := Lib.hid (below_drewN HS.out.b n)
        by_cases hlt2 : k < ms.length
        · obtain ⟨b, o, rfl, hb, hc⟩ := int_at (HA.out.below HS.out.b) hlt2
          have hk0 : (0 : Int) ≤ (k : Int) := by omega
          have hkb : (k : Int) < (ms.length : Int) := by omega
          rcases Nat.eq_zero_or_pos j with hj0 | hj0
          · subst hj0
            have HT := Lib.hid (abvB_zero ks ms[k])
            rcases HN.out.form with rfl | ⟨q, hq, rfl⟩
            · have HN1 := Lib.hid (HN.out.first hlt2 HT.out)
              go_wp2_with fail
              go_quiet (fail)
              go_wp2_with fail
              go_roundw
              case rel => first | exact ⟨k + 1, k, by omega, by go_num, rfl, HN1, ⟨n + nq, rfl⟩⟩ | ((repeat apply Exists.intro); exact ⟨⟨k + 1, k, by omega, by go_num, rfl, HN1, ⟨n + nq, rfl⟩⟩, rfl⟩)
              case measure => simp [intOf]; omega
            · obtain ⟨b2, o2, e2, -, hc2⟩ := int_at (HA.out.below HS.out.b) hq
              injection e2 with e2
              injection e2 with e21 e22
              subst e21 e22
              have hq0 : (0 : Int) ≤ (q : Int) := by omega
              have hqb : (q : Int) < (ms.length : Int) := by omega
              have hqn : ¬ (q : Int) < 0 := by omega
              have hqd : decide ((q : Int) < 0) = false := decide_eq_false hqn
              by_cases hlo : ms[k] < ms[q]
              · have HN1 := Lib.hid (HN.out.low hlt2 hq HT.out hlo)
                have hlod : decide (ms[k] < ms[q]) = true := decide_eq_true hlo
                go_wp2_with fail
                go_quiet (fail)
                go_wp2_with fail
                go_roundw
                case rel => first | exact ⟨k + 1, k, by omega, by go_num, rfl, HN1, ⟨n + nq, rfl⟩⟩ | ((repeat apply Exists.intro); exact ⟨⟨k + 1, k, by omega, by go_num, rfl, HN1, ⟨n + nq, rfl⟩⟩, rfl⟩)
                case measure => simp [intOf]; omega
              · have HN1 := Lib.hid (HN.out.high hlt2 hq hlo)
                have hlod : decide (ms[k] < ms[q]) = false := decide_eq_false hlo
                go_wp2_with fail
                go_quiet (fail)
                go_wp2_with fail
                go_roundw
                case rel => first | exact ⟨k + 1, q, by omega, by go_num, rfl, HN1, ⟨n + nq, rfl⟩⟩ | ((repeat apply Exists.intro); exact ⟨⟨k + 1, q, by omega, by go_num, rfl, HN1, ⟨n + nq, rfl⟩⟩, rfl⟩)
                case measure => simp [intOf]; omega
          · obtain ⟨bl, ol, rfl, hbl, hcl⟩ := HS.out.last hj0 hj
            have HAS := Lib.hid (abvB_succ hj0 (show j - 1 < ks.length by omega) ms[k])
            have HGD : Hid (ks.getD (j - 1) 0 = ks[j - 1]) := Lib.hid (by rw [List.getD_eq_getElem?_getD, List.getElem?_eq_getElem (by omega)]; rfl)
            have hkw : IntKind.i64.wrap ((j : Int) - 1) = (j : Int) - 1 := IntWalk.i64_in _ (by omega)
            have hjw : IntKind.i64.wrap ((j : Int) - 1) < (j : Int) := by rw [hkw]; omega
            have hj1 : (0 : Int) ≤ (j : Int) - 1 := by omega
            have hj2 : (j : Int) - 1 < (j : Int) := by omega
            have hjn : ((j : Int) - 1).toNat = j - 1 := by omega
            have hjz : ((j : Int) == 0) = false := by rw [beq_eq_false_iff_ne]; omega
            have hjz1 : ¬ (j : Int) = 0 := by omega
            have hjz2 : ¬ j = 0 := by omega
            rw [← HGD.out] at HAS
            generalize ks.getD (j - 1) 0 = lst at *
            clear hjw
            by_cases hab : lst < ms[k]
            · have HT : Hid (abvB ks j ms[k] = true) := Lib.hid (HAS.out.trans (decide_eq_true hab))
              have habd : decide (lst < ms[k]) = true := decide_eq_true hab
              rcases HN.out.form with rfl | ⟨q, hq, rfl⟩
              · have HN1 := Lib.hid (HN.out.first hlt2 HT.out)
                go_wp2_with fail
                go_quiet (fail)
                go_wp2_with fail
                go_roundw
                case rel => exact ⟨k + 1, k, by omega, by go_num, rfl, HN1, ⟨n + nq, rfl⟩⟩
                case measure => simp [intOf]; omega
              · obtain ⟨b2, o2, e2, -, hc2⟩ := int_at (HA.out.below HS.out.b) hq
                injection e2 with e2
                injection e2 with e21 e22
                subst e21 e22
                have hq0 : (0 : Int) ≤ (q : Int) := by omega
                have hqb : (q : Int) < (ms.length : Int) := by omega
                have hqn : ¬ (q : Int) < 0 := by omega
                have hqd : decide ((q : Int) < 0) = false := decide_eq_false hqn
                by_cases hlo : ms[k] < ms[q]
                · have HN1 := Lib.hid (HN.out.low hlt2 hq HT.out hlo)
                  have hlod : decide (ms[k] < ms[q]) = true := decide_eq_true hlo
                  go_wp2_with fail
                  go_quiet (fail)
                  go_wp2_with fail
                  go_roundw
                  case rel => exact ⟨k + 1, k, by omega, by go_num, rfl, HN1, ⟨n + nq, rfl⟩⟩
                  case measure => simp [intOf]; omega
                · have HN1 := Lib.hid (HN.out.high hlt2 hq hlo)
                  have hlod : decide (ms[k] < ms[q]) = false := decide_eq_false hlo
                  go_wp2_with fail
                  go_quiet (fail)
                  go_wp2_with fail
                  go_roundw
                  case rel => exact ⟨k + 1, q, by omega, by go_num, rfl, HN1, ⟨n + nq, rfl⟩⟩
                  case measure => simp [intOf]; omega
            · have HT : Hid (abvB ks j ms[k] = false) := Lib.hid (HAS.out.trans (decide_eq_false hab))
              have habd : decide (lst < ms[k]) = false := decide_eq_false hab
              have HN1 := Lib.hid (HN.out.skip hlt2 HT.out)
              go_wp2_with fail
              go_quiet (fail)
              go_wp2_with fail
              go_roundw
              case rel => exact ⟨k + 1, pp, by omega, by go_num, rfl, HN1, ⟨n + nq, rfl⟩⟩
              case measure => simp [intOf]; omega
        · obtain rfl : k = ms.length := by omega
          clear HW
          rcases HN.out.form with rfl | ⟨q, hq, rfl⟩
          · have HJ := Lib.hid (HN.out.none HK.out hj)
            have hE : gatE (sumF ms zs) ks = 0 := gatE_all fun i hi => HS.out.ok i hi (by have := HJ.out; omega)
            have hL : gatL (sumF ms zs) ks = gatR (sumF ms zs) (ks.take j) := by unfold gatL; rw [if_pos hE, List.take_of_length_le (by have := HJ.out; omega)]
            have HLE := Lib.hid (And.intro hE hL)
            have HSd := Lib.hid (HS.out.below (below_drewN (Below.refl _ _) n))
            have HSG := Lib.hid (Seg.of_own HSd.out.own)
            have HGL := Lib.hid (gatR_len (sumF ms zs) ks hj)
            clear hE hL
            go_wp2_with fail
            go_ret2
            exact ⟨A0, c0, by rw [HLE.out.1, HLE.out.2, HGL.out]; rfl, by rw [HLE.out.2]; exact HSG.out, HSd.out.b⟩
          · have HJ := Lib.hid (HN.out.some HK.out hj hq)
            have hq0 : (0 : Int) ≤ (q : Int) := by omega
            have hqb : (q : Int) < (ms.length : Int) := by omega
            have hqn : ¬ (q : Int) < 0 := by omega
            obtain ⟨x, hx⟩ : ∃ x, x = ms[q] := ⟨_, rfl⟩
            have HX := Lib.hid hx
            have HQX : Hid (∀ W, Below w.heap.size w W → ∃ b o, A = some ⟨b, o, none⟩ ∧ b < w.heap.size ∧ W.cell? ⟨b, o + q, none⟩ = some (.int .i64 x)) := Lib.hid fun W hW => by
              rw [hx]
              exact int_at (HA.out.below hW) hq
            clear hx
            have HSd := Lib.hid (HS.out.below (below_drewN (Below.refl _ _) n))
            clear HN HS
            go_wp2_with fail
            generalize wr.drewN n = wd at *
            have hszd := HSd.out.b.size
            go_loopw [10, 11] (fun u i w3 => ∃ k : Nat, k ≤ ms.length ∧ i = .int .i64 k ∧ Hid (w3.ownsRow wd.heap.size 2 1 u (sumF (ms.take k) (zs.take k) x).length ((sumF (ms.take k) (zs.take k) x).map (Value.int .i64))) ∧ Hid (Below wd.heap.size wd w3)) (fun _ i _ => ms.length - (intOf i).toNat)
            case atStart => exact ⟨0, Nat.zero_le _, rfl, World.ownsRow_nil _ _ _ _, Below.refl _ _⟩
            case round =>
              obtain ⟨k, hk, rfl, HO, HB3⟩ := hrel
              have hsz3 := HB3.out.size
              have HB3w : Hid (Below w.heap.size w wr) := Lib.hid (HSd.out.b.trans (HB3.out.mono hszd))
              have hszw := HB3w.out.size
              by_cases hlt3 : k < ms.length
              · obtain ⟨b, o, rfl, hb, hc⟩ := int_at (HA.out.below HB3w.out) hlt3
                obtain ⟨b9, o9, e9, -, hcq⟩ := HQX.out _ HB3w.out
                injection e9 with e9
                injection e9 with e91 e92
                subst e91 e92
                have hk0 : (0 : Int) ≤ (k : Int) := by omega
                have hkb : (k : Int) < (ms.length : Int) := by omega
                have HF := Lib.hid (sumF_snoc hlt3 (show k < zs.length by omega) x)
                by_cases hmx : ms[k] = x
                · have hmb : (ms[k] == x) = true := by rw [hmx]; exact beq_self_eq_true x
                  rw [if_pos hmx] at HF
                  obtain ⟨b4, o4, rfl, hb4, hc4⟩ := int_at (HB.out.below HB3w.out) (show k < zs.length by omega)
                  have hkz : (k : Int) < (zs.length : Int) := by omega
                  have hyl := sumF_len ms zs x k
                  generalize sumF (ms.take k) (zs.take k) x = ys at *
                  go_wp2_with fail
                  go_quiet (fail)
                  have HO2 : Hid ((wr.drewN nq).ownsRow wd.heap.size 2 1 _ _ _) := HO
                  have HB5 : Hid (Below wd.heap.size wd (wr.drewN nq)) := Lib.hid (below_drewN HB3.out nq)
                  have hc5 : (wr.drewN nq).cell? ⟨b4, o4 + k, none⟩ = some (.int .i64 zs[k]) := hc4
                  have hsz5 : wd.heap.size ≤ (wr.drewN nq).heap.size := hsz3
                  clear hc hcq hc4 HO hsz3 hszw HB3w HB3
                  generalize wr.drewN nq = w5 at *
                  go_wp2_with (at_builtin; refine wpList_append_own _ rfl _ _ 35 rfl wd.heap.size 2 j0 _ 1 8 Try.underlying35 hj0 jz0 jz1 jz2 rfl (by decide) _ ys.length (ys.map (Value.int .i64)) rfl (HO2.out.alloc _) ⟨w5.heap.size, 0, none⟩ 1 1 [.int .i64 zs[k]] rfl rfl (new_cells _ _ #[_] (by simp)) one_int (by simp only [maxLen]; omega) (by omega) (by simp; omega) ?_)
                  intro v' w4 hown1 hgrow1 _
                  have HO4 : Hid (w4.ownsRow wd.heap.size 2 1 v' (sumF (ms.take (k + 1)) (zs.take (k + 1)) x).length ((sumF (ms.take (k + 1)) (zs.take (k + 1)) x).map (Value.int .i64))) := by
                    show World.ownsRow _ _ _ _ _ _ _
                    rw [HF.out, List.map_append, List.length_append, List.length_singleton]
                    exact hown1
                  have HG4 : Hid (Below wd.heap.size wd w4) := (HB5.out.alloc hsz5 _).grown hgrow1 (by simp; omega) (fun j hj => own_base HO2.out j hj)
                  clear hown1 hgrow1
                  go_wp2_with fail
                  go_roundw
                  case rel => exact ⟨k + 1, by omega, by go_num, HO4, HG4⟩
                  case measure => simp [intOf]; omega
                · have hmb : (ms[k] == x) = false := by rw [beq_eq_false_iff_ne]; exact hmx
                  rw [if_neg hmx, List.append_nil] at HF
                  have hO2 := HO.out
                  rw [← HF.out] at hO2
                  have HO1 := Lib.hid hO2
                  clear hO2
                  go_wp2_with fail
                  go_quiet (fail)
                  go_wp2_with fail
                  go_roundw
                  case rel => exact ⟨k + 1, by omega, by go_num, HO1, Lib.hid (below_drewN HB3.out nq)⟩
                  case measure => simp [intOf]; omega
              · obtain rfl : k = ms.length := by omega
                have hO := HO.out
                rw [List.take_length, List.take_of_length_le hzg] at hO
                obtain ⟨A2, c2, rfl⟩ := own_form hO
                have HSL := Lib.hid (Seg.of_own hO)
                obtain ⟨hjl, hjx⟩ := HJ.out
                have HJX : Hid (x = ks[j]) := Lib.hid (HX.out.trans hjx)
                have hfl := (HF.out x).1
                have HFI := Lib.hid (HF.out x).2
                have HS3 : Hid (SI (sumF ms zs) ks w wr j (.slice A0 j c0)) := Lib.hid (HSd.out.below HB3.out)
                clear hO HO hjx HB3 HSd HF hsz3
                by_cases hin : I64 (sumI (sumF ms zs x))
                · have hV := (amt_in hin).1
                  have hE := (amt_in hin).2
                  have HOK : Hid (∀ i (hi : i < ks.length), i < j + 1 → I64 (sumI (sumF ms zs ks[i]))) := Lib.hid fun i hi h => by
                    by_cases e : i = j
                    · subst e; rw [← HJX.out]; exact hin
                    · exact HS3.out.ok i hi (by omega)
                  have HSN : Hid (gatR (sumF ms zs) (ks.take (j + 1)) = gatR (sumF ms zs) (ks.take j) ++ [⟨x, 0, sumI (sumF ms zs x)⟩]) := Lib.hid (by rw [HJX.out]; exact gatR_snoc _ hjl)
                  obtain ⟨sm, hsm⟩ : ∃ sm, sm = sumI (sumF ms zs x) := ⟨_, rfl⟩
                  rw [← hsm] at hV hE HSN
                  have HSM := Lib.hid hsm
                  have hgl := gatR_len (sumF ms zs) ks hj
                  have HOw : Hid (wr.ownsRow w.heap.size 75 3 (.slice A0 j c0) j (lgRows (gatR (sumF ms zs) (ks.take j)))) := Lib.hid HS3.out.own
                  have HFN : Hid (∀ v W, Below w.heap.size w W → W.ownsRow w.heap.size 75 3 v (j + 1) (lgRows (gatR (sumF ms zs) (ks.take j)) ++ Lg.cells ⟨x, 0, sm⟩) → SI (sumF ms zs) ks w W (j + 1) v) := Lib.hid fun v W hb ho => ⟨HOK.out, by rw [HSN.out, lgRows_snoc3]; exact ho, hb⟩
                  generalize gatR (sumF ms zs) (ks.take j) = ys at *
                  generalize sumF ms zs x = fx at *
                  clear hin hsm
                  obtain ⟨b9, o9, rfl, hb9, hcq⟩ := HQX.out _ HB3w.out
                  have HGL := Lib.hid hgl
                  clear hgl
                  go_wp2_with (first | (go_at_call 62; refine (refsum_any fx A2 c2 _ HFI.out HSL.out (by omega)).mono ?_; rintro e w2 ⟨rfl, rfl⟩; rw [← HSM.out, hV, hE]) | (at_builtin; refine wpList_append_own _ rfl _ _ 27 rfl w.heap.size 75 i0 _ 3 24 Try.underlying27 hi0 hz0 hz1' hz2 rfl (by decide) _ j (lgRows ys) rfl (HOw.out.alloc _) ⟨wr.heap.size, 0, none⟩ 1 1 (Lg.cells ⟨x, 0, sm⟩) rfl rfl (new_cells _ _ #[_, _, _] (by simp)) (leg_one3 ⟨x, 0, sm⟩) (by simp only [maxLen]; omega) (by omega) (by simp; omega) ?_))
                  intro v' w4 hown1 hgrow1 _
                  have HS4 : Hid (SI (sumF ms zs) ks w w4 (j + 1) v') := Lib.hid (HFN.out v' w4 ((HB3w.out.alloc hszw _).grown hgrow1 (by simp; omega) (fun j hj => own_base HOw.out j hj)) hown1)
                  clear hown1 hgrow1
                  go_wp2_with fail
                  go_roundw
                  case rel => exact ⟨j + 1, by omega, by go_num, HS4⟩
                  case measure => simp [intOf]; omega
                · have hE := (amt_out hin).2
                  have HEE : Hid (gatE (sumF ms zs) ks = 2) := Lib.hid (gatE_bad hjl (fun i hi h => HS3.out.ok i hi h) (by rw [← HJX.out]; exact hin))
                  generalize sumF ms zs x = fx at *
                  clear hin
                  go_wp2_with (go_at_call 62; refine (refsum_any fx A2 c2 _ HFI.out HSL.out (by omega)).mono ?_; rintro e w2 ⟨rfl, rfl⟩; rw [hE])
                  go_ret2
                  refine ⟨none, 0, ?_, ?_, HB3w.out⟩
                  · rw [HEE.out]; unfold gatL; rw [HEE.out, if_neg (by decide)]; rfl
                  · unfold gatL; rw [HEE.out, if_neg (by decide)]; exact Seg.nil
    · obtain rfl : j = ms.length := by omega
      have HJ : Hid (ms.length = ks.length) := Lib.hid (by omega)
      have hE : gatE (sumF ms zs) ks = 0 := gatE_all fun i hi => HS.out.ok i hi (by have := HJ.out; omega)
      have hL : gatL (sumF ms zs) ks = gatR (sumF ms zs) (ks.take ms.length) := by unfold gatL; rw [if_pos hE, List.take_of_length_le (by have := HJ.out; omega)]
      have HLE := Lib.hid (And.intro hE hL)
      have HSG := Lib.hid (Seg.of_own HS.out.own)
      have HGL := Lib.hid (gatR_len (sumF ms zs) ks hj)
      clear hE hL
      go_wp2_with fail
      go_ret2
      exact ⟨A0, c0, by rw [HLE.out.1, HLE.out.2, HGL.out]; rfl, by rw [HLE.out.2]; exact HSG.out, HS.out.b⟩
end Go.Proofs.Ytglpnpjjjihghaa
