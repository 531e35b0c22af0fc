/-
  What alloc.amounts and alloc.Check come to, over this seat's translation: contracts for callers.
-/
import Derived.Test.YtglpnpjjjihghaaObPlain
import Derived.Test.YtglpnpjjjihghaaIntsW
import Derived.Test.YtglpnpjjjihghaaMgD
import Derived.Deep.QuietTactic
import Derived.BigQuiet
namespace Go.Proofs.Ytglpnpjjjihghaa
open Go.RowKit

theorem i64_info : (Try.prog.info? 2).map (fun i => (i.zero, i.size, i.bytes)) = some (some (.int .i64 0), 1, 8) := by kernel_rfl
theorem lg_info : (Try.prog.info? 75).map (fun i => (i.zero, i.size, i.bytes)) = some (some (.agg #[.int .i64 0, .int .i64 0, .int .i64 0]), 3, 24) := by kernel_rfl
theorem leg_one (x : Lg) : ∀ u ∈ x.cells, u.oneCell' = true := by intro u hu; simp [Lg.cells] at hu; rcases hu with rfl | rfl | rfl <;> rfl
theorem lgRows_snoc (L : List Lg) (x : Lg) : lgRows (L ++ [x]) = lgRows L ++ x.cells := by unfold lgRows; simp
def amts (L : List Lg) : List Int := L.map (·.n)
theorem amts_len (L : List Lg) : (amts L).length = L.length := by unfold amts; rw [List.length_map]
theorem amts_snoc {L : List Lg} {k : Nat} (hk : k < L.length) : amts (L.take (k + 1)) = amts (L.take k) ++ [L[k].n] := by
  unfold amts; rw [List.take_succ_eq_append_getElem hk, List.map_append]; rfl
/-- A list of legs came back. -/
def LegP (L : List Lg) (w : World) : Ending → World → Prop := fun e w' => ∃ A c, e = .returned (.slice A L.length c) ∧ Seg w' w'.heap.size A (lgRows L) ∧ Below w.heap.size w w'

set_option maxHeartbeats 800000 in
set_option maxRecDepth 100000 in
theorem amounts_any (L : List Lg) (A : Option Addr) (c : Nat) (w : World) (hs : Seg w w.heap.size A (lgRows L)) (hl : L.length ≤ 100000) :
    Calls Try.prog 79 #[.slice A L.length c] w (CloneP (amts L) w) := by
  obtain ⟨i0, hi0, hz0, hz1, hz2⟩ := info_parts i64_info
  have HS := Lib.hid hs
  clear hs
  go_enter Try.func79, Try.ntmps79
  go_wp2_with fail
  go_loopw [3, 5, 8] (fun u _ i wr => ∃ k : Nat, k ≤ L.length ∧ i = .int .i64 k ∧ Hid (wr.ownsRow w.heap.size 2 1 u (amts (L.take k)).length ((amts (L.take k)).map (Value.int .i64))) ∧ Hid (Below w.heap.size w wr)) (fun _ _ i _ => L.length - (intOf i).toNat)
  case atStart => exact ⟨0, Nat.zero_le _, rfl, ⟨by simp, Or.inl ⟨rfl, rfl⟩⟩, Below.refl _ _⟩
  case round =>
    obtain ⟨k, hk, rfl, HO, HB⟩ := hrel
    have hsz := HB.out.size
    by_cases hlt : k < L.length
    · obtain ⟨b, o, rfl, hb, d0, d1, d2⟩ := lg_at (HS.out.below HB.out) hlt
      have HF := Lib.hid (amts_snoc hlt)
      have hyl : (amts (L.take k)).length ≤ k := by rw [amts_len, List.length_take]; omega
      generalize amts (L.take k) = ys at *
      go_wp2_with (at_builtin; refine wpList_append_own _ rfl _ _ 35 rfl w.heap.size 2 i0 _ 1 8 Try.underlying35 hi0 hz0 hz1 hz2 rfl (by decide) _ ys.length (ys.map (Value.int .i64)) rfl ((HO.out.alloc _).alloc _) ⟨wr.heap.size + 1, 0, none⟩ 1 1 [.int .i64 L[k].n] rfl rfl (new_cells _ _ #[_] (by simp)) one_int (by simp only [maxLen]; omega) (by omega) (by simp; omega) ?_)
      intro v' w4 hown1 hgrow1 _
      have HO4 : Hid (w4.ownsRow w.heap.size 2 1 v' (amts (L.take (k + 1))).length ((amts (L.take (k + 1))).map (Value.int .i64))) := by
        show World.ownsRow _ _ _ _ _ _ _
        rw [HF.out, List.map_append, List.length_append, List.length_singleton]
        exact hown1
      have HG4 : Hid (Below w.heap.size w w4) := ((HB.out.alloc hsz _).alloc (by simp; omega) _).grown hgrow1 (by simp; omega) (fun j hj => own_base HO.out j hj)
      clear hown1 hgrow1
      go_wp2_with fail
      go_roundw
      case rel => exact ⟨k + 1, by omega, by go_num, HO4, HG4⟩
      case measure => simp [intOf]; omega
    · obtain rfl : k = L.length := by omega
      have hO := HO.out
      rw [List.take_length] at hO
      obtain ⟨A1, c1, rfl⟩ := own_form hO
      have HSD := Lib.hid (Seg.of_own hO)
      clear hO
      go_wp2_with fail
      go_ret
      exact ⟨A1, c1, rfl, HSD.out, HB.out⟩

/-- The first one's asset, and the member ahead of one. -/
def ast0 (L : List Lg) : Int := (L[0]?.map (·.a)).getD 0
def prevM (L : List Lg) (k : Nat) : Int := (L[k - 1]?.map (·.m)).getD 0
def badAt (L : List Lg) (k : Nat) : Bool := match L[k]? with
  | none => false
  | some x => decide (x.n < 1) || (x.a != ast0 L || (decide (0 < k) && decide (x.m ≤ prevM L k)))
def clmE (L : List Lg) : Int := if 1024 < L.length then 6 else if (List.range L.length).any (badAt L) then 1 else amtE (sumI (amts L))
theorem badAt_at {L : List Lg} {k : Nat} (hk : k < L.length) : badAt L k = (decide (L[k].n < 1) || (L[k].a != ast0 L || (decide (0 < k) && decide (L[k].m ≤ prevM L k)))) := by
  unfold badAt; rw [List.getElem?_eq_getElem hk]
theorem prevM_at {L : List Lg} {k : Nat} (hk : k - 1 < L.length) : prevM L k = L[k - 1].m := by unfold prevM; rw [List.getElem?_eq_getElem hk]; rfl
theorem ast0_at {L : List Lg} (hk : 0 < L.length) : ast0 L = L[0].a := by unfold ast0; rw [List.getElem?_eq_getElem hk]; rfl
theorem clmE_bad {L : List Lg} {k : Nat} (hl : L.length ≤ 1024) (hk : k < L.length) (h : badAt L k = true) : clmE L = 1 := by
  unfold clmE
  rw [if_neg (by omega), if_pos (List.any_eq_true.2 ⟨k, List.mem_range.2 hk, h⟩)]
theorem clmE_good {L : List Lg} (hl : L.length ≤ 1024) (h : ∀ k, k < L.length → badAt L k = false) : clmE L = amtE (sumI (amts L)) := by
  unfold clmE
  rw [if_neg (by omega), if_neg]
  rw [List.any_eq_true]
  rintro ⟨k, hk, e⟩
  rw [h k (List.mem_range.1 hk)] at e
  cases e
theorem amts_I64 {L : List Lg} (h : ∀ x ∈ L, I64 x.n) : ∀ x ∈ amts L, I64 x := by
  intro x hx
  obtain ⟨y, hy, rfl⟩ := List.mem_map.1 hx
  exact h y hy

set_option maxHeartbeats 1600000 in
set_option maxRecDepth 100000 in
theorem clm_any (L : List Lg) (A : Option Addr) (c : Nat) (w : World) (hs : Seg w w.heap.size A (lgRows L)) (hI : ∀ x ∈ L, I64 x.n) (hl : L.length ≤ 100000) :
    Calls Try.prog 57 #[.slice A L.length c] w fun e w' => e = .returned (.int .i64 (clmE L)) ∧ Below w.heap.size w w' := by
  have HS := Lib.hid hs
  have HI := Lib.hid hI
  clear hs hI
  by_cases hle : L.length ≤ 1024
  · have hle' : ¬ (1024 : Int) < (L.length : Int) := by omega
    go_enter Try.func57, Try.ntmps57
    go_wp2_with fail
    go_loopw [3, 4, 12] (fun _ _ i wr => ∃ k : Nat, k ≤ L.length ∧ i = .int .i64 k ∧ Hid (∀ j, j < k → badAt L j = false) ∧ Hid (Below w.heap.size w wr)) (fun _ _ i _ => L.length - (intOf i).toNat)
    case atStart => exact ⟨0, Nat.zero_le _, rfl, fun j h => by omega, Below.refl _ _⟩
    case round =>
      obtain ⟨k, hk, rfl, HP, HB⟩ := hrel
      have hsz := HB.out.size
      by_cases hlt : k < L.length
      · have HS1 := Lib.hid (HS.out.below HB.out)
        obtain ⟨b, o, rfl, hb, d0, d1, d2⟩ := lg_at HS1.out hlt
        obtain ⟨b0, o0, e0, hb0, f0, f1, f2⟩ := lg_at HS1.out (show 0 < L.length by omega)
        injection e0 with e0
        injection e0 with e1 e2
        subst e1 e2
        simp only [Nat.zero_mul, Nat.add_zero] at f0 f1 f2
        rw [← ast0_at (show 0 < L.length by omega)] at f1
        have HBA := Lib.hid (badAt_at hlt)
        have hbr : b < wr.heap.size := by omega
        have hbn : ¬ b = wr.heap.size := by omega
        have hk0 : (0 : Int) ≤ (k : Int) := by omega
        have hkb : (k : Int) < (L.length : Int) := by omega
        have hl0 : (0 : Int) < (L.length : Int) := by omega
        by_cases hn : L[k].n < 1
        · have hnb : decide (L[k].n < 1) = true := decide_eq_true hn
          have HE := Lib.hid (clmE_bad hle hlt (HBA.out.trans (by rw [hnb]; rfl)))
          go_wp2_with fail
          go_quiet (fail)
          go_wp2_with fail
          go_ret
          exact ⟨ret_int HE.out.symm, below_drewN (HB.out.alloc hsz _) nq⟩
        by_cases ha : L[k].a = ast0 L
        · have hab : (L[k].a != ast0 L) = false := by simpa using ha
          have hnb : decide (L[k].n < 1) = false := decide_eq_false hn
          rcases Nat.eq_zero_or_pos k with hz | hz
          · subst hz
            have HP1 : Hid (∀ j, j < 0 + 1 → badAt L j = false) := by
              intro j hj
              by_cases e : j = 0
              · subst e; exact HBA.out.trans (by rw [hnb, hab]; rfl)
              · exact HP.out j (by omega)
            go_wp2_with fail
            go_quiet (fail)
            go_wp2_with fail
            go_roundw
            case rel => exact ⟨0 + 1, by omega, by go_num, HP1, below_drewN (HB.out.alloc hsz _) nq⟩
            case measure => simp [intOf]; omega
          have hz' : (0 : Int) < (k : Int) := by omega
          have hzb : decide (0 < k) = true := by simpa using hz
          obtain ⟨b9, o9, e9, hb9, g0, g1, g2⟩ := lg_at HS1.out (show k - 1 < L.length by omega)
          injection e9 with e9
          injection e9 with e91 e92
          subst e91 e92
          rw [← prevM_at (show k - 1 < L.length by omega)] at g0
          have hkw : IntKind.i64.wrap ((k : Int) - 1) = (k : Int) - 1 := IntWalk.i64_in _ (by omega)
          have hk1 : (0 : Int) ≤ (k : Int) - 1 := by omega
          have hk2 : (k : Int) - 1 < (L.length : Int) := by omega
          have hkn : ((k : Int) - 1).toNat = k - 1 := by omega
          by_cases hm : L[k].m ≤ prevM L k
          · have hmb : decide (L[k].m ≤ prevM L k) = true := decide_eq_true hm
            have HE := Lib.hid (clmE_bad hle hlt (HBA.out.trans (by rw [hnb, hab, hzb, hmb]; rfl)))
            go_wp2_with fail
            go_quiet (fail)
            go_wp2_with fail
            go_ret
            exact ⟨ret_int HE.out.symm, below_drewN (HB.out.alloc hsz _) nq⟩
          · have hmb : decide (L[k].m ≤ prevM L k) = false := decide_eq_false hm
            have HP1 : Hid (∀ j, j < k + 1 → badAt L j = false) := by
              intro j hj
              by_cases e : j = k
              · subst e; exact HBA.out.trans (by rw [hnb, hab, hzb, hmb]; rfl)
              · exact HP.out j (by omega)
            go_wp2_with fail
            go_quiet (fail)
            go_wp2_with fail
            go_roundw
            case rel => exact ⟨k + 1, by omega, by go_num, HP1, below_drewN (HB.out.alloc hsz _) nq⟩
            case measure => simp [intOf]; omega
        · have hab : (L[k].a != ast0 L) = true := by simpa [bne] using ha
          have hnb : decide (L[k].n < 1) = false := decide_eq_false hn
          have HE := Lib.hid (clmE_bad hle hlt (HBA.out.trans (by rw [hnb, hab]; rfl)))
          go_wp2_with fail
          go_quiet (fail)
          go_wp2_with fail
          go_ret
          exact ⟨ret_int HE.out.symm, below_drewN (HB.out.alloc hsz _) nq⟩
      · obtain rfl : k = L.length := by omega
        have HE := Lib.hid (clmE_good hle HP.out)
        have HAM := Lib.hid (amounts_any L A c _ ((HS.out.below HB.out).mono hsz) hl)
        go_wp2_with fail
        refine HAM.out.mono ?_
        rintro e w2 ⟨A2, c2, rfl, hs2, hb2⟩
        have HS2 := Lib.hid hs2
        have HB2 : Hid (Below w.heap.size w w2) := HB.out.trans (hb2.mono hsz)
        have hll : (amts L).length ≤ 4611686018427387904 := by rw [amts_len]; omega
        clear hs2 hb2
        go_wp2_with fail
        refine (sum_any (amts L) A2 c2 _ (amts_I64 HI.out) HS2.out hll).mono ?_
        rintro e w3 ⟨rfl, hb3⟩
        have HB3 : Hid (Below w.heap.size w w3) := HB2.out.trans (hb3.mono HB2.out.size)
        clear hb3
        go_wp2_with fail
        go_ret
        exact ⟨ret_int HE.out.symm, HB3.out⟩
  · have hle' : (1024 : Int) < (L.length : Int) := by omega
    have HE : Hid (clmE L = 6) := by show _ = _; unfold clmE; rw [if_pos (by omega)]
    go_enter Try.func57, Try.ntmps57
    go_wp2_with fail
    go_ret
    exact ⟨ret_int HE.out.symm, Below.refl _ _⟩
end Go.Proofs.Ytglpnpjjjihghaa
