/-
  What audit.Wrong comes to, over this seat's translation, out of what each event's step comes to: a contract for callers.
-/
import Derived.Test.YtikcodnmlenpeaaDoorAudit4
import Derived.Test.YtikcodnmlenpeaaDoorAudit3
import Derived.Laws.MakeOwn
namespace Go.Proofs.YtikcodnmlenpeaaDoor
open Go.RowKit

/-- What lies behind the steps up to k. -/
structure Steps34 (l : List Ev) (ms : Int) (ss : Nat) (B : Nat) (upto : Nat) (why : Nat → Int) (Inv : Nat → World → Prop) : Prop where
  step : ∀ k (hk : k < l.length), k ≤ upto → ∀ W, Inv k W → Calls Tryd.prog 29 #[.pointer (some ⟨B + 1 + 1, 0, none⟩), .int .i64 ms, .int .i64 ss, l[k].val] W fun e w' =>
    e = .returned (.int .i64 (why k)) ∧ Below B W w' ∧ Hid (why k = 0 → Inv (k + 1) w')
  alloc : ∀ k W o, Inv k W → Inv k (W.alloc o)
  fine : ∀ k, k < upto → why k = 0
  bad : upto < l.length → why upto ≠ 0
  le : upto ≤ l.length
def whyAt (l : List Ev) (upto : Nat) (why : Nat → Int) : Int := if upto < l.length then why upto else 0

theorem ret2_int' {k : IntKind} {a b c d : Int} (h : a = c) (h' : b = d) :
    Ending.returned (.tuple #[.int k a, .int k b]) = .returned (.tuple #[.int k c, .int k d]) := by rw [h, h']

def zeroRow (n : Nat) : Array Value := ((List.replicate (n + 1) (0 : Int)).map (Value.int .i64)).toArray
theorem made_one (v : Value) (hv : v.cells = #[v]) (n : Nat) : madeCells v.cells n = (List.replicate n v).toArray := by
  rw [hv]
  apply Array.ext
  · simp [madeCells]
  · intro i h1 h2
    simp [madeCells, Nat.mod_one]
theorem zeroRow_eq (n : Nat) : madeCells (Value.int .i64 0).cells ((n + 1) * 1) = zeroRow n := by
  rw [made_one _ rfl, Nat.mul_one]
  simp [zeroRow]
theorem make9 (n : Nat) (hn : n ≤ 8) (W : World) : (Instr.makeSlice 33 (.int .i64 ((n : Int) + 1)) (.int .i64 ((n : Int) + 1))).run Tryd.prog W = .ok (.slice (some ⟨W.heap.size, 0, none⟩) (n + 1) (n + 1)) (W.alloc (.cells (zeroRow n) 2)) := by
  obtain ⟨i0, hi0, hz0, hz1, hz2⟩ := info_parts int64_info
  rw [run_make (P := Tryd.prog) W 33 2 i0 (.int .i64 0) Tryd.underlying33 hi0 hz0 .i64 .i64 _ _ (by omega) (by omega) (by rw [hz2]; omega) (by omega)]
  have e : ((n : Int) + 1).toNat = n + 1 := by omega
  rw [e, hz1, zeroRow_eq n]

set_option maxRecDepth 100000 in
set_option maxHeartbeats 1600000 in
theorem wrong_list (l : List Ev) (ms : Int) (ss : Nat) (hss : ss ≤ 8) (A : Option Addr) (c : Nat) (w : World) (hs : Seg w w.heap.size A (evRows l)) (hn : l.length ≤ 4611686018427387904)
    (upto : Nat) (why : Nat → Int) (Inv : Nat → World → Prop) (H : Steps34 l ms ss w.heap.size upto why Inv)
    (hinit : ∀ W, StAt W (w.heap.size + 1 + 1) w.heap.size (w.heap.size + 1) (List.replicate (ss + 1) 0) 0 → W.heap[w.heap.size + 1]? = some (.map #[] 0) → Below w.heap.size w W → Inv 0 W) :
    Calls Tryd.prog 12 #[.int .i64 ms, .int .i64 ss, .slice A l.length c] w fun e w' =>
      e = .returned (.tuple #[.int .i64 upto, .int .i64 (whyAt l upto why)]) ∧ Below w.heap.size w w' := by
  have HS := Lib.hid hs
  have HH := Lib.hid H
  have HI := Lib.hid hinit
  clear hs H hinit
  obtain ⟨i0, hi0, hz0, hz1, hz2⟩ := info_parts int64_info
  have hmm := @run_makeMap Tryd.prog
  have hmk := make9 ss hss
  clear hi0 hz0 hz1 hz2
  go_enter Tryd.func12, Tryd.ntmps12
  go_wp2
  go_loopw [28] (fun i wr => ∃ k : Nat, k ≤ l.length ∧ k ≤ upto ∧ i = .int .i64 k ∧ Hid (Below w.heap.size w wr) ∧ Hid (Inv k wr)) (fun i _ => l.length - (intOf i).toNat)
  case atStart =>
    refine ⟨0, Nat.zero_le _, Nat.zero_le _, rfl, ?_, ?_⟩
    · exact (((Below.refl _ _).alloc (Nat.le_refl _) _).alloc (by simp) _).alloc (by simp; omega) _
    · refine HI.out _ ⟨?_, ?_⟩ ?_ ?_
      · rw [List.length_replicate]; exact heap_alloc_new' _ _ (by simp)
      · rw [heap_alloc_old' _ _ (by simp; omega), heap_alloc_old' _ _ (by simp)]; exact heap_alloc_new' _ _ rfl
      · rw [heap_alloc_old' _ _ (by simp)]; exact heap_alloc_new' _ _ (by simp)
      · exact (((Below.refl _ _).alloc (Nat.le_refl _) _).alloc (by simp) _).alloc (by simp; omega) _
  case round =>
    obtain ⟨k, hk, hku, rfl, HB, HV⟩ := hrel
    have hsz := HB.out.size
    clear hmk hmm
    by_cases hlt : k < l.length
    · obtain ⟨b, o, rfl, hb, c0, c1, c2, c3, c4⟩ := ev_at (HS.out.below HB.out) hlt
      by_cases hu : k < upto
      · have hy : why k = 0 := HH.out.fine k hu
        have HY := Lib.hid hy
        have hy' : (why k != 0) = false := by simp [hy]
        clear hy
        go_wp2_with (go_at_call 29; refine (HH.out.step k hlt hku _ (HH.out.alloc k _ _ HV.out)).mono ?_; rintro e w1 ⟨rfl, hb1, HN⟩; have HB1 := Lib.hid hb1; clear hb1)
        go_roundw
        case rel => exact ⟨k + 1, by omega, by omega, by go_num, (HB.out.alloc hsz _).trans HB1.out, HN.out HY.out⟩
        case measure => simp [intOf]; omega
      · obtain rfl : k = upto := by omega
        have hy' : (why k != 0) = true := by simpa using HH.out.bad hlt
        have hw : why k = whyAt l k why := by unfold whyAt; rw [if_pos hlt]
        have HW := Lib.hid hw
        clear hw
        go_wp2_with (go_at_call 29; refine (HH.out.step k hlt hku _ (HH.out.alloc k _ _ HV.out)).mono ?_; rintro e w1 ⟨rfl, hb1, HN⟩; have HB1 := Lib.hid hb1; clear hb1)
        go_ret2
        exact ⟨ret2_int' rfl HW.out, (HB.out.alloc hsz _).trans HB1.out⟩
    · have hul := HH.out.le
      have e1 : k = l.length := by omega
      have e2 : upto = l.length := by omega
      have hw : (0 : Int) = whyAt l upto why := by unfold whyAt; rw [if_neg (by omega)]
      have HW := Lib.hid hw
      clear hw
      subst e1
      have HU := Lib.hid e2
      clear e2
      go_wp2
      go_ret2
      exact ⟨ret2_int' (by rw [HU.out]) HW.out, HB.out⟩
end Go.Proofs.YtikcodnmlenpeaaDoor
