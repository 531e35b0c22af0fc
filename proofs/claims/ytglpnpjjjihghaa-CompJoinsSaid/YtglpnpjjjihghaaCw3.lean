/-
  What comp.gather comes to, over this seat's translation: a contract for callers.
-/
import Derived.Test.YtglpnpjjjihghaaCw2
import Derived.Test.YtglpnpjjjihghaaGat
import Derived.Test.YtglpnpjjjihghaaMoneySumD
import Derived.Test.YtglpnpjjjihghaaObPlain
namespace Go.Proofs.Ytglpnpjjjihghaa
open Go.RowKit

set_option maxHeartbeats 1600000 in
set_option maxRecDepth 100000 in
theorem gather_any {w : World} {base b : Nat} {m : List (Int × Value)} {f : Int → List Int} (h : Grp w base b m f) (hl : m.length ≤ 100000) (hf : ∀ k, (f k).length ≤ 100000 ∧ ∀ z ∈ f k, I64 z) :
    Calls Try.prog 43 #[.map (some b)] w (GotLE (gatL f (keysL m)) (gatE f (keysL m)) w) := by
  obtain ⟨i0, hi0, hz0, hz1', hz2⟩ := info_parts lg_info3
  have HG := Lib.hid h
  have HSC := Lib.hid (sorted_call h (by omega))
  have HF := Lib.hid hf
  have hkl := keysL_len m
  have HKI : Hid (∀ k ∈ keysL m, I64 k) := Lib.hid fun k hk => by
    have h1 : k ∈ m.map (·.1) := (List.mergeSort_perm _ _).mem_iff.1 hk
    obtain ⟨p, hp, rfl⟩ := List.mem_map.1 h1
    exact h.dom p hp
  generalize hks : keysL m = ks at *
  have HKS := Lib.hid hks
  have hml := hl
  rw [← hkl] at hml
  clear h hf hks
  go_enter Try.func43, Try.ntmps43
  go_wp2_with (first | (go_at_call 68; refine (keys_call _ _).mono ?_; rintro e w' ⟨rfl, rfl⟩) | (go_at_call 67; refine HSC.out.mono ?_; rintro e w1 ⟨A, c, rfl, hs1, hb1⟩; rw [← hkl]; have HS1 := Lib.hid hs1; have HB1 : Hid (Below w.heap.size w w1) := Lib.hid (((Below.refl _ w).alloc (Nat.le_refl _) _).trans (hb1.mono (by omega))); clear hs1 hb1))
  go_loopw [4, 6, 7, 8, 13] (fun u _ _ _ i wr => ∃ k : Nat, k ≤ ks.length ∧ i = .int .i64 k ∧ Hid (∀ j (hj : j < ks.length), j < k → I64 (sumI (f ks[j]))) ∧ Hid (wr.ownsRow w1.heap.size 75 3 u (gatR f (ks.take k)).length (lgRows (gatR f (ks.take k)))) ∧ Hid (Below w1.heap.size w1 wr)) (fun _ _ _ _ i _ => ks.length - (intOf i).toNat)
  case atStart => exact ⟨0, Nat.zero_le _, rfl, fun j hj h => absurd h (Nat.not_lt_zero _), ⟨by simp [gatR, lgRows], Or.inl ⟨rfl, rfl⟩⟩, Below.refl _ _⟩
  case round =>
    obtain ⟨k, hk, rfl, HK, HO, HB⟩ := hrel
    have hsz := HB.out.size
    have hsz1 := HB1.out.size
    have HBW : Hid (Below w.heap.size w wr) := Lib.hid (HB1.out.trans (HB.out.mono hsz1))
    by_cases hlt : k < ks.length
    · obtain ⟨b', o', rfl, hb', hc'⟩ := (HS1.out.below HB.out).at (k := k) (by simpa using hlt)
      rw [List.getElem_map] at hc'
      have hkI : I64 ks[k] := HKI.out _ (List.getElem_mem hlt)
      have HGW := Lib.hid (HG.out.below (Nat.le_refl _) HBW.out)
      have hlook := HGW.out.look (q := ks[k]) hkI Try.underlying79
      obtain ⟨A2, c2, hsl⟩ := own_form (HGW.out.slot ks[k])
      rw [hsl] at hlook
      have HSL : Hid (Seg wr wr.heap.size A2 ((f ks[k]).map (Value.int .i64))) := Lib.hid (Seg.of_own (hsl ▸ HGW.out.slot ks[k]))
      have hfl := (HF.out ks[k]).1
      have HFI := Lib.hid (HF.out ks[k]).2
      have HSN := Lib.hid (gatR_snoc f hlt)
      have hyl : (gatR f (ks.take k)).length ≤ 100000 := by unfold gatR; rw [List.length_map, List.length_take]; omega
      have HKN : Hid (∀ j (hj : j < ks.length), j < k → I64 (sumI (f ks[j]))) := HK
      by_cases hin : I64 (sumI (f ks[k]))
      · have HK2 : Hid (∀ j (hj : j < ks.length), j < k + 1 → I64 (sumI (f ks[j]))) := Lib.hid fun j hj h => by
          by_cases e : j = k
          · subst e; exact hin
          · exact HKN.out j hj (by omega)
        have hV := (amt_in hin).1
        have hE := (amt_in hin).2
        generalize hq : ks[k] = q at *
        have HQ := Lib.hid hq
        clear hq hin HK
        generalize hsum : sumI (f q) = sm at *
        have HSUM := Lib.hid hsum
        clear hsum
        generalize gatR f (ks.take k) = ys at *
        go_wp2_with (first | (go_at_call 69; refine (sum_any (f q) A2 c2 _ HFI.out HSL.out (by omega)).mono ?_; rintro e w2 ⟨rfl, hb2⟩; rw [HSUM.out, hV, hE]; have HB2 := Lib.hid hb2; have sz2 := hb2.size; clear hb2) | (at_builtin; refine wpList_append_own _ rfl _ _ 27 rfl w1.heap.size 75 i0 _ 3 24 Try.underlying27 hi0 hz0 hz1' hz2 rfl (by decide) _ ys.length (lgRows ys) rfl ((own_below' HO.out HB2.out).alloc _) ⟨w2.heap.size, 0, none⟩ 1 1 (Lg.cells ⟨q, 0, sm⟩) rfl rfl (new_cells _ _ #[_, _, _] (by simp)) (leg_one3 ⟨q, 0, sm⟩) (by simp only [maxLen]; omega) (by omega) (by simp; omega) ?_))
        intro v' w4 hown1 hgrow1 _
        obtain ⟨A4, c4, rfl⟩ := own_form hown1
        have HO5 : Hid (w4.ownsRow w1.heap.size 75 3 (.slice A4 (ys.length + 1) c4) (gatR f (ks.take (k + 1))).length (lgRows (gatR f (ks.take (k + 1))))) := by
          show World.ownsRow _ _ _ _ _ _ _
          rw [HSN.out, lgRows_snoc3, List.length_append, List.length_singleton]
          exact hown1
        have HB4 : Hid (Below w1.heap.size w1 w4) := Lib.hid (((HB.out.trans (HB2.out.mono hsz)).alloc (by omega) _).grown hgrow1 (by simp; omega) (fun j hj => own_base HO.out j hj))
        clear hown1 hgrow1
        go_wp2_with fail
        go_roundw
        case rel => exact ⟨k + 1, by omega, by go_num, HK2, HO5, HB4⟩
        case measure => simp [intOf]; omega
      · have hE := (amt_out hin).2
        have HEE := Lib.hid (gatE_take hlt (fun j hj => HK.out j (by omega) hj) hin)
        generalize hq : ks[k] = q at *
        go_wp2_with (go_at_call 69; refine (sum_any (f q) A2 c2 _ HFI.out HSL.out (by omega)).mono ?_; rintro e w2 ⟨rfl, hb2⟩; rw [hE]; have HB2 := Lib.hid hb2; have sz2 := hb2.size; clear hb2)
        go_ret2
        refine ⟨none, 0, ?_, ?_, HBW.out.trans (HB2.out.mono HBW.out.size)⟩
        · rw [HEE.out]; unfold gatL; rw [HEE.out, if_neg (by decide)]; rfl
        · unfold gatL; rw [HEE.out, if_neg (by decide)]; exact Seg.nil
    · obtain rfl : k = ks.length := by omega
      have hE := gatE_all (f := f) (ks := ks) fun j hj => HK.out j hj hj
      have hO := HO.out
      rw [List.take_length] at hO
      obtain ⟨A3, c3, rfl⟩ := own_form hO
      have HSD := Lib.hid (Seg.of_own hO)
      have hL : gatL f ks = gatR f ks := by unfold gatL; rw [if_pos hE]
      have HEL := Lib.hid (And.intro hL hE)
      clear hO hE hL
      go_wp2_with fail
      go_ret2
      exact ⟨A3, c3, by rw [HEL.out.1, HEL.out.2]; rfl, by rw [HEL.out.1]; exact HSD.out, HBW.out⟩
end Go.Proofs.Ytglpnpjjjihghaa
