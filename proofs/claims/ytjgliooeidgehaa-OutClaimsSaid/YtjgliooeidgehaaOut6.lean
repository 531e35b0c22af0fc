/-
  What complineref28.Claims and out.Paid come to, over this seat's translation: contracts for callers.
-/
import Derived.Test.YtjgliooeidgehaaOut5
namespace Go.Proofs.Ytjgliooeidgehaa
open Go.RowKit

theorem claim_min {x : Ob} (h : x.net = minI) : x.claim = ⟨x.m, x.a, 9223372036854775807⟩ := by unfold Ob.claim; rw [if_pos h]
theorem claim_neg {x : Ob} (h : x.net ≠ minI) : x.claim = ⟨x.m, x.a, -x.net⟩ := by unfold Ob.claim; rw [if_neg h]
set_option maxRecDepth 100000 in
set_option maxHeartbeats 3200000 in
theorem refheld_any (L : List Ob) (A : Option Addr) (c : Nat) (who : List Int) (Aw : Option Addr) (cw : Nat) (asset : Int) (w : World) (hs : Seg w w.heap.size A (obRows L)) (hl : L.length ≤ 100000) (hI : ∀ x ∈ L, I64 x.net) (hw : Seg w w.heap.size Aw (who.map (Value.int .i64))) (hlw : who.length ≤ 1000000) :
    Calls Try.prog 17 #[.slice A L.length c, .slice Aw who.length cw, .bool true, .int .i64 asset] w (GotLegs w ((L.filter (wantB who true asset)).map Ob.claim)) := by
  have HS := Lib.hid hs
  have HW := Lib.hid hw
  have HI := Lib.hid hI
  obtain ⟨i0, hi0, hz0, hz1', hz2⟩ := info_parts lg_info
  clear hs hw hI
  go_enter Try.func17, Try.ntmps17
  go_wp2_with fail
  go_loopw [9, 10, 11, 12] (fun u i _ _ wr => ∃ k : Nat, k ≤ L.length ∧ i = .int .i64 k ∧ Hid (wr.ownsRow w.heap.size 46 3 u (((L.take k).filter (wantB who true asset)).map Ob.claim).length (lgRows (((L.take k).filter (wantB who true asset)).map Ob.claim))) ∧ Hid (Below w.heap.size w wr)) (fun _ i _ _ _ => L.length - (intOf i).toNat)
  case atStart => exact ⟨0, Nat.zero_le _, rfl, ⟨by simp [lgRows], Or.inl ⟨rfl, rfl⟩⟩, Below.refl _ _⟩
  case round =>
    obtain ⟨k, hk, rfl, HO, HB⟩ := hrel
    have hsz := HB.out.size
    have hfl := filter_len (wantB who true asset) L k
    by_cases hlt : k < L.length
    · obtain ⟨b, o, rfl, hb, d0, d1, d2, d3, d4, d5⟩ := ob_at (HS.out.below HB.out) hlt
      have HF := Lib.hid (map_filter_snoc (wantB who true asset) Ob.claim hlt)
      have hIN : ∀ o : Obj, Calls Try.prog 12 #[.slice Aw who.length cw, .int .i64 L[k].m] (wr.alloc o) fun e w' => e = .returned (.bool (hasB who L[k].m)) ∧ wr.alloc o = w' := fun o => in_any who Aw cw L[k].m _ ((HW.out.below (HB.out.alloc hsz o)).mono (by simp; omega)) hlw
      have hik := HI.out L[k] (List.getElem_mem hlt)
      unfold I64 at hik
      by_cases h1 : L[k].st = 1
      · have h1b : (L[k].st != 1) = false := by simp [h1]
        by_cases h2 : L[k].net < 0
        · cases hv : hasB who L[k].m
          · rw [hv] at hIN
            have HIN := Lib.hid hIN
            clear hIN
            have hF : ((L.take (k + 1)).filter (wantB who true asset)).map Ob.claim = ((L.take k).filter (wantB who true asset)).map Ob.claim := by rw [HF.out, show (wantB who true asset) L[k] = false from by simp [wantB, hv]]; simp
            have hO2 := HO.out
            rw [← hF] at hO2
            have HO1 := Lib.hid hO2
            clear hO2 hF
            clear h1
            go_wp2_with fail
            refine (HIN.out _).mono ?_
            rintro e w3 ⟨rfl, rfl⟩
            go_wp2_with fail
            go_roundw
            case rel => exact ⟨k + 1, by omega, by go_num, HO1.out.alloc _, HB.out.alloc hsz _⟩
            case measure => simp [intOf]; omega
          · rw [hv] at hIN
            have HIN := Lib.hid hIN
            clear hIN
            have hF : ((L.take (k + 1)).filter (wantB who true asset)).map Ob.claim = ((L.take k).filter (wantB who true asset)).map Ob.claim ++ [L[k].claim] := by rw [HF.out, show (wantB who true asset) L[k] = true from by simp [wantB, h1, h2, hv]]; rfl
            have HF1 := Lib.hid hF
            have hyl : (((L.take k).filter (wantB who true asset)).map Ob.claim).length ≤ k := by rw [List.length_map]; exact hfl
            clear hF
            generalize ((L.take k).filter (wantB who true asset)).map Ob.claim = ys at *
            clear h1
            rcases Int.lt_or_le (-9223372036854775808) L[k].net with hn | hn
            · have hcl : L[k].claim = ⟨L[k].m, L[k].a, -L[k].net⟩ := claim_neg (by unfold minI; omega)
              rw [hcl] at HF1
              clear hcl
              go_wp2_with fail
              refine (HIN.out _).mono ?_
              rintro e w3 ⟨rfl, rfl⟩
              go_wp2_with (at_builtin; refine wpList_append_own _ rfl _ _ 40 rfl w.heap.size 46 i0 _ 3 24 Try.underlying40 hi0 hz0 hz1' hz2 rfl (by decide) _ ys.length (lgRows ys) rfl ((HO.out.alloc _).alloc _) ⟨wr.heap.size + 1, 0, none⟩ 1 1 [.int .i64 L[k].m, .int .i64 L[k].a, .int .i64 (-L[k].net)] rfl rfl (new_cells _ _ #[_, _, _] (by simp)) (leg_one ⟨L[k].m, L[k].a, (-L[k].net)⟩) (by simp only [maxLen]; omega) (by omega) (by simp; omega) ?_)
              intro v' w4 hown1 hgrow1 _
              have HO4 : Hid (w4.ownsRow w.heap.size 46 3 v' (((L.take (k + 1)).filter (wantB who true asset)).map Ob.claim).length (lgRows (((L.take (k + 1)).filter (wantB who true asset)).map Ob.claim))) := by
                show World.ownsRow _ _ _ _ _ _ _
                rw [HF1.out, lgRows_snoc, List.length_append, List.length_singleton]
                exact hown1
              have HG4 : Hid (Below w.heap.size w w4) := ((HB.out.alloc hsz _).alloc (by simp; omega) _).grown hgrow1 (by simp; omega) (fun j hj => own_base HO.out j hj)
              clear hown1 hgrow1
              go_wp2_with fail
              go_roundw
              case rel => exact ⟨k + 1, by omega, by go_num, HO4, HG4⟩
              case measure => simp [intOf]; omega
            · have hcl : L[k].claim = ⟨L[k].m, L[k].a, 9223372036854775807⟩ := claim_min (by unfold minI; omega)
              rw [hcl] at HF1
              clear hcl
              go_wp2_with fail
              refine (HIN.out _).mono ?_
              rintro e w3 ⟨rfl, rfl⟩
              go_wp2_with (at_builtin; refine wpList_append_own _ rfl _ _ 40 rfl w.heap.size 46 i0 _ 3 24 Try.underlying40 hi0 hz0 hz1' hz2 rfl (by decide) _ ys.length (lgRows ys) rfl ((HO.out.alloc _).alloc _) ⟨wr.heap.size + 1, 0, none⟩ 1 1 [.int .i64 L[k].m, .int .i64 L[k].a, .int .i64 9223372036854775807] rfl rfl (new_cells _ _ #[_, _, _] (by simp)) (leg_one ⟨L[k].m, L[k].a, 9223372036854775807⟩) (by simp only [maxLen]; omega) (by omega) (by simp; omega) ?_)
              intro v' w4 hown1 hgrow1 _
              have HO4 : Hid (w4.ownsRow w.heap.size 46 3 v' (((L.take (k + 1)).filter (wantB who true asset)).map Ob.claim).length (lgRows (((L.take (k + 1)).filter (wantB who true asset)).map Ob.claim))) := by
                show World.ownsRow _ _ _ _ _ _ _
                rw [HF1.out, lgRows_snoc, List.length_append, List.length_singleton]
                exact hown1
              have HG4 : Hid (Below w.heap.size w w4) := ((HB.out.alloc hsz _).alloc (by simp; omega) _).grown hgrow1 (by simp; omega) (fun j hj => own_base HO.out j hj)
              clear hown1 hgrow1
              go_wp2_with fail
              go_roundw
              case rel => exact ⟨k + 1, by omega, by go_num, HO4, HG4⟩
              case measure => simp [intOf]; omega
        · have h2b : decide (0 ≤ L[k].net) = true := by simp; omega
          have hF : ((L.take (k + 1)).filter (wantB who true asset)).map Ob.claim = ((L.take k).filter (wantB who true asset)).map Ob.claim := by rw [HF.out, show (wantB who true asset) L[k] = false from by simp [wantB, h2]]; simp
          have hO2 := HO.out
          rw [← hF] at hO2
          have HO1 := Lib.hid hO2
          clear hO2 hF
          clear h1 hIN
          go_wp2_with fail
          go_roundw
          case rel => exact ⟨k + 1, by omega, by go_num, HO1.out.alloc _, HB.out.alloc hsz _⟩
          case measure => simp [intOf]; omega
      · have h1b : (L[k].st != 1) = true := by simpa [bne] using h1
        have hF : ((L.take (k + 1)).filter (wantB who true asset)).map Ob.claim = ((L.take k).filter (wantB who true asset)).map Ob.claim := by rw [HF.out, show (wantB who true asset) L[k] = false from by simp [wantB, h1]]; simp
        have hO2 := HO.out
        rw [← hF] at hO2
        have HO1 := Lib.hid hO2
        clear hO2 hF
        clear h1 hIN
        go_wp2_with fail
        go_roundw
        case rel => exact ⟨k + 1, by omega, by go_num, HO1.out.alloc _, HB.out.alloc hsz _⟩
        case measure => simp [intOf]; omega
    · obtain rfl : k = L.length := by omega
      have hO := HO.out
      rw [List.take_length] at hO
      have HO2 := Lib.hid hO
      clear hO
      go_wp2_with fail
      go_ret
      exact ⟨_, rfl, HO2.out, HB.out⟩
set_option maxRecDepth 100000 in
set_option maxHeartbeats 3200000 in
theorem refgood_any (L : List Ob) (A : Option Addr) (c : Nat) (who : List Int) (Aw : Option Addr) (cw : Nat) (asset : Int) (w : World) (hs : Seg w w.heap.size A (obRows L)) (hl : L.length ≤ 100000) (hI : ∀ x ∈ L, I64 x.net) (hw : Seg w w.heap.size Aw (who.map (Value.int .i64))) (hlw : who.length ≤ 1000000) :
    Calls Try.prog 17 #[.slice A L.length c, .slice Aw who.length cw, .bool false, .int .i64 asset] w (GotLegs w ((L.filter (wantB who false asset)).map Ob.claim)) := by
  have HS := Lib.hid hs
  have HW := Lib.hid hw
  have HI := Lib.hid hI
  obtain ⟨i0, hi0, hz0, hz1', hz2⟩ := info_parts lg_info
  clear hs hw hI
  go_enter Try.func17, Try.ntmps17
  go_wp2_with fail
  go_loopw [9, 10, 11, 12] (fun u i _ _ wr => ∃ k : Nat, k ≤ L.length ∧ i = .int .i64 k ∧ Hid (wr.ownsRow w.heap.size 46 3 u (((L.take k).filter (wantB who false asset)).map Ob.claim).length (lgRows (((L.take k).filter (wantB who false asset)).map Ob.claim))) ∧ Hid (Below w.heap.size w wr)) (fun _ i _ _ _ => L.length - (intOf i).toNat)
  case atStart => exact ⟨0, Nat.zero_le _, rfl, ⟨by simp [lgRows], Or.inl ⟨rfl, rfl⟩⟩, Below.refl _ _⟩
  case round =>
    obtain ⟨k, hk, rfl, HO, HB⟩ := hrel
    have hsz := HB.out.size
    have hfl := filter_len (wantB who false asset) L k
    by_cases hlt : k < L.length
    · obtain ⟨b, o, rfl, hb, d0, d1, d2, d3, d4, d5⟩ := ob_at (HS.out.below HB.out) hlt
      have HF := Lib.hid (map_filter_snoc (wantB who false asset) Ob.claim hlt)
      have hIN : ∀ o : Obj, Calls Try.prog 12 #[.slice Aw who.length cw, .int .i64 L[k].m] (wr.alloc o) fun e w' => e = .returned (.bool (hasB who L[k].m)) ∧ wr.alloc o = w' := fun o => in_any who Aw cw L[k].m _ ((HW.out.below (HB.out.alloc hsz o)).mono (by simp; omega)) hlw
      have hik := HI.out L[k] (List.getElem_mem hlt)
      unfold I64 at hik
      by_cases h1 : L[k].st = 1
      · have h1b : (L[k].st != 1) = false := by simp [h1]
        by_cases h2 : L[k].net < 0
        · cases hv : hasB who L[k].m
          · rw [hv] at hIN
            have HIN := Lib.hid hIN
            clear hIN
            by_cases h3 : L[k].a = asset
            · have h3b : (L[k].a != asset) = false := by simp [h3]
              have hF : ((L.take (k + 1)).filter (wantB who false asset)).map Ob.claim = ((L.take k).filter (wantB who false asset)).map Ob.claim ++ [L[k].claim] := by rw [HF.out, show (wantB who false asset) L[k] = true from by simp [wantB, h1, h2, h3, hv]]; rfl
              have HF1 := Lib.hid hF
              have hyl : (((L.take k).filter (wantB who false asset)).map Ob.claim).length ≤ k := by rw [List.length_map]; exact hfl
              clear hF
              generalize ((L.take k).filter (wantB who false asset)).map Ob.claim = ys at *
              clear h1 h3
              rcases Int.lt_or_le (-9223372036854775808) L[k].net with hn | hn
              · have hcl : L[k].claim = ⟨L[k].m, L[k].a, -L[k].net⟩ := claim_neg (by unfold minI; omega)
                rw [hcl] at HF1
                clear hcl
                go_wp2_with fail
                refine (HIN.out _).mono ?_
                rintro e w3 ⟨rfl, rfl⟩
                go_wp2_with (at_builtin; refine wpList_append_own _ rfl _ _ 40 rfl w.heap.size 46 i0 _ 3 24 Try.underlying40 hi0 hz0 hz1' hz2 rfl (by decide) _ ys.length (lgRows ys) rfl ((HO.out.alloc _).alloc _) ⟨wr.heap.size + 1, 0, none⟩ 1 1 [.int .i64 L[k].m, .int .i64 L[k].a, .int .i64 (-L[k].net)] rfl rfl (new_cells _ _ #[_, _, _] (by simp)) (leg_one ⟨L[k].m, L[k].a, (-L[k].net)⟩) (by simp only [maxLen]; omega) (by omega) (by simp; omega) ?_)
                intro v' w4 hown1 hgrow1 _
                have HO4 : Hid (w4.ownsRow w.heap.size 46 3 v' (((L.take (k + 1)).filter (wantB who false asset)).map Ob.claim).length (lgRows (((L.take (k + 1)).filter (wantB who false asset)).map Ob.claim))) := by
                  show World.ownsRow _ _ _ _ _ _ _
                  rw [HF1.out, lgRows_snoc, List.length_append, List.length_singleton]
                  exact hown1
                have HG4 : Hid (Below w.heap.size w w4) := ((HB.out.alloc hsz _).alloc (by simp; omega) _).grown hgrow1 (by simp; omega) (fun j hj => own_base HO.out j hj)
                clear hown1 hgrow1
                go_wp2_with fail
                go_roundw
                case rel => exact ⟨k + 1, by omega, by go_num, HO4, HG4⟩
                case measure => simp [intOf]; omega
              · have hcl : L[k].claim = ⟨L[k].m, L[k].a, 9223372036854775807⟩ := claim_min (by unfold minI; omega)
                rw [hcl] at HF1
                clear hcl
                go_wp2_with fail
                refine (HIN.out _).mono ?_
                rintro e w3 ⟨rfl, rfl⟩
                go_wp2_with (at_builtin; refine wpList_append_own _ rfl _ _ 40 rfl w.heap.size 46 i0 _ 3 24 Try.underlying40 hi0 hz0 hz1' hz2 rfl (by decide) _ ys.length (lgRows ys) rfl ((HO.out.alloc _).alloc _) ⟨wr.heap.size + 1, 0, none⟩ 1 1 [.int .i64 L[k].m, .int .i64 L[k].a, .int .i64 9223372036854775807] rfl rfl (new_cells _ _ #[_, _, _] (by simp)) (leg_one ⟨L[k].m, L[k].a, 9223372036854775807⟩) (by simp only [maxLen]; omega) (by omega) (by simp; omega) ?_)
                intro v' w4 hown1 hgrow1 _
                have HO4 : Hid (w4.ownsRow w.heap.size 46 3 v' (((L.take (k + 1)).filter (wantB who false asset)).map Ob.claim).length (lgRows (((L.take (k + 1)).filter (wantB who false asset)).map Ob.claim))) := by
                  show World.ownsRow _ _ _ _ _ _ _
                  rw [HF1.out, lgRows_snoc, List.length_append, List.length_singleton]
                  exact hown1
                have HG4 : Hid (Below w.heap.size w w4) := ((HB.out.alloc hsz _).alloc (by simp; omega) _).grown hgrow1 (by simp; omega) (fun j hj => own_base HO.out j hj)
                clear hown1 hgrow1
                go_wp2_with fail
                go_roundw
                case rel => exact ⟨k + 1, by omega, by go_num, HO4, HG4⟩
                case measure => simp [intOf]; omega
            · have h3b : (L[k].a != asset) = true := by simpa [bne] using h3
              have hF : ((L.take (k + 1)).filter (wantB who false asset)).map Ob.claim = ((L.take k).filter (wantB who false asset)).map Ob.claim := by rw [HF.out, show (wantB who false asset) L[k] = false from by simp [wantB, h3, hv]]; simp
              have hO2 := HO.out
              rw [← hF] at hO2
              have HO1 := Lib.hid hO2
              clear hO2 hF
              clear h1
              go_wp2_with fail
              refine (HIN.out _).mono ?_
              rintro e w3 ⟨rfl, rfl⟩
              go_wp2_with fail
              go_roundw
              case rel => exact ⟨k + 1, by omega, by go_num, HO1.out.alloc _, HB.out.alloc hsz _⟩
              case measure => simp [intOf]; omega
          · rw [hv] at hIN
            have HIN := Lib.hid hIN
            clear hIN
            have hF : ((L.take (k + 1)).filter (wantB who false asset)).map Ob.claim = ((L.take k).filter (wantB who false asset)).map Ob.claim := by rw [HF.out, show (wantB who false asset) L[k] = false from by simp [wantB, hv]]; simp
            have hO2 := HO.out
            rw [← hF] at hO2
            have HO1 := Lib.hid hO2
            clear hO2 hF
            clear h1
            go_wp2_with fail
            refine (HIN.out _).mono ?_
            rintro e w3 ⟨rfl, rfl⟩
            go_wp2_with fail
            go_roundw
            case rel => exact ⟨k + 1, by omega, by go_num, HO1.out.alloc _, HB.out.alloc hsz _⟩
            case measure => simp [intOf]; omega
        · have h2b : decide (0 ≤ L[k].net) = true := by simp; omega
          have hF : ((L.take (k + 1)).filter (wantB who false asset)).map Ob.claim = ((L.take k).filter (wantB who false asset)).map Ob.claim := by rw [HF.out, show (wantB who false asset) L[k] = false from by simp [wantB, h2]]; simp
          have hO2 := HO.out
          rw [← hF] at hO2
          have HO1 := Lib.hid hO2
          clear hO2 hF
          clear h1 hIN
          go_wp2_with fail
          go_roundw
          case rel => exact ⟨k + 1, by omega, by go_num, HO1.out.alloc _, HB.out.alloc hsz _⟩
          case measure => simp [intOf]; omega
      · have h1b : (L[k].st != 1) = true := by simpa [bne] using h1
        have hF : ((L.take (k + 1)).filter (wantB who false asset)).map Ob.claim = ((L.take k).filter (wantB who false asset)).map Ob.claim := by rw [HF.out, show (wantB who false asset) L[k] = false from by simp [wantB, h1]]; simp
        have hO2 := HO.out
        rw [← hF] at hO2
        have HO1 := Lib.hid hO2
        clear hO2 hF
        clear h1 hIN
        go_wp2_with fail
        go_roundw
        case rel => exact ⟨k + 1, by omega, by go_num, HO1.out.alloc _, HB.out.alloc hsz _⟩
        case measure => simp [intOf]; omega
    · obtain rfl : k = L.length := by omega
      have hO := HO.out
      rw [List.take_length] at hO
      have HO2 := Lib.hid hO
      clear hO
      go_wp2_with fail
      go_ret
      exact ⟨_, rfl, HO2.out, HB.out⟩

def duesL (asset : Int) (L : List Ob) : List Int := (L.filter fun x => x.st == 1 && paidB asset x).map (·.done)
set_option maxRecDepth 100000 in
set_option maxHeartbeats 800000 in
theorem paid_any (L : List Ob) (A : Option Addr) (c : Nat) (asset : Int) (w : World) (hs : Seg w w.heap.size A (obRows L)) (hl : L.length ≤ 1000000) (hI : ∀ x ∈ L, I64 x.done) :
    Calls Try.prog 13 #[.slice A L.length c, .int .i64 asset] w fun e w' => e = .returned (.tuple #[.int .i64 (amtV (sumI (duesL asset L))), .int .i64 (amtE (sumI (duesL asset L)))]) ∧ Below w.heap.size w w' := by
  have hb : Below w.heap.size w (w.alloc (.cells #[.int .i64 asset] 3)) := (Below.refl _ _).alloc (Nat.le_refl _) _
  have hp : ∀ (x : Ob) (W : World), Below (w.alloc (.cells #[.int .i64 asset] 3)).heap.size (w.alloc (.cells #[.int .i64 asset] 3)) W → Calls Try.prog 24 #[x.val, .pointer (some ⟨w.heap.size, 0, none⟩)] W fun e w' => e = .returned (.bool (paidB asset x)) ∧ Below W.heap.size W w' := fun x W hW =>
    paid1_any x asset w.heap.size W (by rw [hW.cell (p := ⟨w.heap.size, 0, none⟩) (by simp), cell_new _ _ _ _ rfl]; rfl) (by have := hW.size; simp at this; omega)
  have HC := Lib.hid (openp_any L A c (.pointer (some ⟨w.heap.size, 0, none⟩)) (paidB asset) _ ((hs.below hb).mono (by simp)) hl hp)
  have HB := Lib.hid hb
  have hDl : (L.filter fun x => x.st == 1 && paidB asset x).length ≤ L.length := List.length_filter_le _ _
  have HDI : Hid (∀ x ∈ (L.filter fun x => x.st == 1 && paidB asset x), I64 x.done) := fun x hx => hI x (List.mem_filter.1 hx).1
  obtain ⟨i0, hi0, hz0, hz1', hz2⟩ := info_parts i64_info
  generalize hzs : duesL asset L = zs
  have HZ : Hid ((L.filter fun x => x.st == 1 && paidB asset x).map (·.done) = zs) := hzs
  clear hs hp hb hI hzs
  go_enter Try.func13, Try.ntmps13
  go_wp2_with fail
  refine HC.out.mono ?_
  rintro e w1 ⟨v1, rfl, ho1, hb1⟩
  generalize (L.filter fun x => x.st == 1 && paidB asset x) = D at *
  obtain ⟨A1, c1, rfl⟩ := own_form ho1
  have HS := Lib.hid (Seg.of_own ho1)
  have HB1 : Hid (Below w.heap.size w w1) := HB.out.trans (hb1.mono (by simp))
  have hz1 := HB1.out.size
  clear ho1 hb1
  go_wp2_with fail
  go_loopw [6, 8, 13] (fun u _ i wr => ∃ k : Nat, k ≤ D.length ∧ i = .int .i64 k ∧ Hid (wr.ownsRow w1.heap.size 2 1 u ((D.take k).map (·.done)).length (((D.take k).map (·.done)).map (Value.int .i64))) ∧ Hid (Below w1.heap.size w1 wr)) (fun _ _ i _ => D.length - (intOf i).toNat)
  case atStart => exact ⟨0, Nat.zero_le _, rfl, ⟨by simp, Or.inl ⟨rfl, rfl⟩⟩, Below.refl _ _⟩
  case round =>
    obtain ⟨k, hk, rfl, HO, HB⟩ := hrel
    have hsz := HB.out.size
    by_cases hlt : k < D.length
    · obtain ⟨b, o, rfl, hb, d0, d1, d2, d3, d4, d5⟩ := ob_at (HS.out.below HB.out) hlt
      have HF1 : Hid ((D.take (k + 1)).map (·.done) = (D.take k).map (·.done) ++ [D[k].done]) := by show _ = _; rw [List.take_succ_eq_append_getElem hlt, List.map_append]; rfl
      have hyl : ((D.take k).map (·.done)).length ≤ k := by rw [List.length_map]; exact List.length_take_le _ _
      generalize (D.take k).map (·.done) = ys at *
      go_wp2_with (at_builtin; refine wpList_append_own _ rfl _ _ 32 rfl w1.heap.size 2 i0 _ 1 8 Try.underlying32 hi0 hz0 hz1' hz2 rfl (by decide) _ ys.length (ys.map (Value.int .i64)) rfl ((HO.out.alloc _).alloc _) ⟨wr.heap.size + 1, 0, none⟩ 1 1 [.int .i64 D[k].done] rfl rfl ?c1 one_int ?c3 ?c4 ?c5 ?_)
      case c1 => exact new_cells _ _ #[_] (by simp)
      case c3 => simp only [maxLen]; omega
      case c4 => omega
      case c5 => simp; omega
      intro v' w4 hown1 hgrow1 _
      have HO4 : Hid (w4.ownsRow w1.heap.size 2 1 v' ((D.take (k + 1)).map (·.done)).length (((D.take (k + 1)).map (·.done)).map (Value.int .i64))) := by
        show World.ownsRow _ _ _ _ _ _ _
        rw [HF1.out, List.map_append, List.length_append, List.length_singleton]
        exact hown1
      have HG4 : Hid (Below w1.heap.size w1 w4) := ((HB.out.alloc hsz _).alloc (by simp; omega) _).grown hgrow1 (by simp; omega) (fun j hj => own_base HO.out j hj)
      clear hown1 hgrow1
      go_wp2_with fail
      go_roundw
      case rel => exact ⟨k + 1, by omega, by go_num, HO4, HG4⟩
      case measure => simp [intOf]; omega
    · obtain rfl : k = D.length := by omega
      have hO := HO.out
      rw [List.take_length, HZ.out] at hO
      have hzl : zs.length ≤ 1000000 := by rw [← HZ.out, List.length_map]; omega
      have HZI : Hid (∀ x ∈ zs, I64 x) := by
        show ∀ x ∈ zs, I64 x
        rw [← HZ.out]
        intro x hx
        obtain ⟨y, hy, rfl⟩ := List.mem_map.1 hx
        exact HDI.out y hy
      obtain ⟨A2, c2, rfl⟩ := own_form hO
      have HS2 := Lib.hid (Seg.of_own hO)
      have HBW : Hid (Below w.heap.size w wr) := HB1.out.trans (HB.out.mono hz1)
      clear hO
      go_wp2_with fail
      refine (sum_any zs A2 c2 _ HZI.out HS2.out (by omega)).mono ?_
      rintro e w5 ⟨rfl, hb5⟩
      have HB5 : Hid (Below w.heap.size w w5) := HBW.out.trans (hb5.mono HBW.out.size)
      clear hb5
      go_wp2_with fail
      go_ret2
      exact ⟨rfl, HB5.out⟩
end Go.Proofs.Ytjgliooeidgehaa
