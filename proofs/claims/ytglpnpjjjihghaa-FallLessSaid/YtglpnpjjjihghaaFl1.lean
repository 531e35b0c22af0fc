/-
  Draws in memory: words; what fall.alone, slices.Contains at ints and fall.Total come to, over this seat's translation: contracts for callers.
-/
import Derived.Test.YtglpnpjjjihghaaMem
import Derived.Test.YtglpnpjjjihghaaMoneyDef
import Derived.Test.YtglpnpjjjihghaaIntsW
import Derived.Test.YtglpnpjjjihghaaShelf
import Derived.Test.YtglpnpjjjihghaaGat
import Derived.Deep.QuietTactic
import Derived.BigQuiet
namespace Go.Proofs.Ytglpnpjjjihghaa
open Go.RowKit

/-- A draw: its account's kind and member, and the amount. -/
structure Dw where
  k : Int
  m : Int
  n : Int
deriving DecidableEq
def Dw.cells (x : Dw) : List Value := [.int .i64 x.k, .int .i64 x.m, .int .i64 x.n]
def dwRows (l : List Dw) : List Value := l.flatMap Dw.cells
theorem dw_at {w : World} {B : Nat} {A : Option Addr} {l : List Dw} (h : Seg w B A (dwRows l)) {k : Nat} (hk : k < l.length) :
    ∃ b o, A = some ⟨b, o, none⟩ ∧ b < B ∧ w.cell? ⟨b, o + k * 3, none⟩ = some (.int .i64 l[k].k) ∧ w.cell? ⟨b, o + k * 3 + 1, none⟩ = some (.int .i64 l[k].m) ∧ w.cell? ⟨b, o + k * 3 + 2, none⟩ = some (.int .i64 l[k].n) := by
  obtain ⟨b, o, e, hb, hc⟩ := h.run (i := k * 3) (y := .int .i64 l[k].k) (t := [.int .i64 l[k].m, .int .i64 l[k].n]) (fun j u hu => flat_at Dw.cells 3 (fun _ => rfl) l k hk j u hu)
  exact ⟨b, o, e, hb, hc 0 _ rfl, hc 1 _ rfl, hc 2 _ rfl⟩
theorem dw_one (x : Dw) : ∀ u ∈ x.cells, u.oneCell' = true := by
  intro u hu
  simp [Dw.cells] at hu
  rcases hu with rfl | rfl | rfl <;> rfl
theorem dwRows_snoc (l : List Dw) (x : Dw) : dwRows (l ++ [x]) = dwRows l ++ x.cells := by simp [dwRows]
theorem dw_info : (Try.prog.info? 47).map (fun i => (i.zero, i.size, i.bytes)) = some (some (.agg #[.int .i64 0, .int .i64 0, .int .i64 0]), 3, 24) := by kernel_rfl
theorem contains2_any (zs : List Int) (A : Option Addr) (c : Nat) (m : Int) (w : World) (h : Seg w w.heap.size A (zs.map (Value.int .i64))) (hl : zs.length ≤ 1000000) :
    Calls Try.prog 74 #[.slice A zs.length c, .int .i64 m] w fun e w' => e = .returned (.bool (zs.contains m)) ∧ w = w' := by
  rcases Nat.eq_zero_or_pos zs.length with h0 | h0
  · have hz : zs = [] := List.eq_nil_of_length_eq_zero h0
    subst hz
    refine (Try.slices_Contains_int_empty A c m _).mono ?_
    rintro e w1 ⟨rfl, hw⟩
    exact ⟨rfl, hw.symm⟩
  · obtain ⟨b, o, rfl, hb, _⟩ := int_at h h0
    refine (Try.slices_Contains_int b o zs.length c zs m _ (Nat.le_refl _) (by omega) (seg_cells h)).mono ?_
    rintro e w1 ⟨rfl, hw⟩
    exact ⟨by rw [List.take_length], hw.symm⟩
set_option maxHeartbeats 400000 in
theorem alone_any (k m n : Int) (w : World) :
    Calls Try.prog 73 #[.int .i64 k, .int .i64 m, .int .i64 n] w fun e w' => e = .returned (.slice (some ⟨w.heap.size, 0, none⟩) 1 1) ∧ w.alloc (.cells #[.int .i64 k, .int .i64 m, .int .i64 n] 47) = w' := by
  go_enter Try.func73, Try.ntmps73
  go_wp2_with fail
  go_ret
  exact ⟨rfl, rfl⟩
/-- The sum of draws, at most the greatest int64. -/
def totS (L : List Dw) : Int := (L.map fun x => max x.n 0).sum
def totV (L : List Dw) : Int := if totS L ≤ 9223372036854775807 then totS L else 9223372036854775807
theorem totS_snoc {L : List Dw} {k : Nat} (hk : k < L.length) : totS (L.take (k + 1)) = totS (L.take k) + max L[k].n 0 := by
  unfold totS
  rw [List.take_succ_eq_append_getElem hk, List.map_append, List.sum_append]
  simp
theorem totS_nonneg (L : List Dw) : 0 ≤ totS L := by
  unfold totS
  induction L with
  | nil => simp
  | cons x L ih => simp only [List.map_cons, List.sum_cons]; omega
theorem totS_take (L : List Dw) (k : Nat) : totS (L.take k) ≤ totS L := by
  have h : totS L = totS (L.take k) + totS (L.drop k) := by
    unfold totS
    rw [← List.sum_append, ← List.map_append, List.take_append_drop]
  have := totS_nonneg (L.drop k)
  omega
theorem totV_big {L : List Dw} {k : Nat} (hk : k < L.length) (h : 9223372036854775807 - totS (L.take k) < L[k].n) : totV L = 9223372036854775807 := by
  have h1 := totS_snoc hk
  have h2 := totS_take L (k + 1)
  unfold totV
  rw [if_neg]
  omega
theorem totV_all {L : List Dw} (h : totS L ≤ 9223372036854775807) : totV L = totS L := by
  unfold totV
  rw [if_pos h]
set_option maxHeartbeats 1600000 in
theorem total_any (L : List Dw) (A : Option Addr) (c : Nat) (w : World) (hs : Seg w w.heap.size A (dwRows L)) (hI : ∀ x ∈ L, I64 x.n) (hl : L.length ≤ 100000) :
    Calls Try.prog 30 #[.slice A L.length c] w fun e w' => e = .returned (.int .i64 (totV L)) ∧ Below w.heap.size w w' := by
  have HS := Lib.hid hs
  have HI := Lib.hid hI
  clear hs hI
  go_enter Try.func30, Try.ntmps30
  go_wp2_with fail
  go_loopw [3, 8] (fun n i wr => ∃ k : Nat, ∃ s : Int, k ≤ L.length ∧ i = .int .i64 k ∧ n = .int .i64 s ∧ Hid (s = totS (L.take k)) ∧ 0 ≤ s ∧ s ≤ 9223372036854775807 ∧ Hid (Below w.heap.size w wr)) (fun _ i _ => L.length - (intOf i).toNat)
  case atStart => exact ⟨0, 0, Nat.zero_le _, rfl, rfl, rfl, by omega, by omega, Below.refl _ _⟩
  case round =>
    obtain ⟨k, s, hk, rfl, rfl, HT, h0, h1, HB⟩ := hrel
    have hsz := HB.out.size
    by_cases hlt : k < L.length
    · obtain ⟨b, o, rfl, hb, d0, d1, d2⟩ := dw_at (HS.out.below HB.out) hlt
      have HB1 : Hid (∀ v, Below w.heap.size w (wr.alloc v)) := Lib.hid fun v => HB.out.alloc hsz v
      have hn := HI.out _ (List.getElem_mem hlt)
      unfold I64 at hn
      have HSN := Lib.hid (totS_snoc hlt)
      have HBG : Hid (9223372036854775807 - s < L[k].n → totV L = 9223372036854775807) := Lib.hid fun h => totV_big hlt (by rw [← HT.out]; exact h)
      generalize L[k].n = x at *
      by_cases hbig : 9223372036854775807 - s < x
      · have HV := Lib.hid (HBG.out hbig)
        have hbd : decide (9223372036854775807 - s < x) = true := decide_eq_true hbig
        go_wp2_with fail
        go_ret
        exact ⟨ret_int HV.out.symm, HB1.out _⟩
      · have hbd : decide (9223372036854775807 - s < x) = false := decide_eq_false hbig
        have HT1 : Hid (s + max x 0 = totS (L.take (k + 1))) := Lib.hid (by rw [HSN.out, HT.out])
        have hw1 : IntKind.i64.wrap (9223372036854775807 - s) = 9223372036854775807 - s := IntWalk.i64_in _ (by omega)
        clear HSN HBG
        by_cases hx : x ≤ 0
        · have hm : max x 0 = 0 := by omega
          rw [hm, Int.add_zero] at HT1
          go_wp2_with fail
          go_roundw
          case rel => exact ⟨k + 1, s, by omega, by go_num, rfl, HT1, h0, h1, Lib.hid (HB1.out _)⟩
          case measure => simp [intOf]; omega
        · have hm : max x 0 = x := by omega
          rw [hm] at HT1
          have hw2 : IntKind.i64.wrap (s + x) = s + x := IntWalk.i64_in _ (by omega)
          have hx0 : 0 < x := by omega
          go_wp2_with fail
          go_roundw
          case rel => exact ⟨k + 1, s + x, by omega, by go_num, rfl, HT1, by omega, by omega, Lib.hid (HB1.out _)⟩
          case measure => simp [intOf]; omega
    · obtain rfl : k = L.length := by omega
      have HV : Hid (s = totV L) := Lib.hid (by
        have := HT.out
        rw [List.take_length] at this
        rw [this, totV_all (by omega)])
      go_wp2_with fail
      go_ret
      exact ⟨ret_int HV.out, HB.out⟩
end Go.Proofs.Ytglpnpjjjihghaa
