/-
  What phase.Next, audit.follows, complineref29.Next and complineref34.follows come to, over this seat's translation: contracts for callers.
-/
import Derived.Test.YtikcodnmlenpeaaDoorPhase2
import Derived.Test.YtikcodnmlenpeaaDoorAwake34
namespace Go.Proofs.YtikcodnmlenpeaaDoor
open Go.RowKit

theorem folF_dom {s l : Bool} {p : Int × Int} {n : Int} (h : folF s l p = some n) : 1 ≤ p.1 ∧ p.1 ≤ 4 := by
  unfold folF tgtF at h
  by_cases c : l = true ∧ p = (4, 5)
  · rw [c.2]; decide
  rw [if_neg c] at h
  by_cases c : s = true ∧ p = (2, 3)
  · rw [c.2]; decide
  rw [if_neg c] at h
  by_cases c : p = (1, 1)
  · rw [c]; decide
  rw [if_neg c] at h
  by_cases c : p = (2, 2)
  · rw [c]; decide
  rw [if_neg c] at h
  by_cases c : p = (2, 3)
  · rw [c]; decide
  rw [if_neg c] at h
  by_cases c : p = (3, 4)
  · rw [c]; decide
  rw [if_neg c] at h
  by_cases c : p = (4, 4)
  · rw [c]; decide
  rw [if_neg c] at h
  by_cases c : p = (4, 5)
  · rw [c]; decide
  rw [if_neg c] at h
  cases h
def nxtV (s l : Bool) (p : Int × Int) : Int := (folF s l p).getD 0
def nxtE (s l : Bool) (p : Int × Int) : Int := if (folF s l p).isSome then 0 else 11
set_option maxHeartbeats 800000 in
set_option maxRecDepth 100000 in
theorem next_any (ph tm : Int) (s l : Bool) (w : World) (hp : I64 ph) (ht : I64 tm) (hw : WordsAt w) (hw0 : 0 < w.heap.size) :
    Calls Tryd.prog 41 #[.int .i64 ph, .int .i64 tm, .bool s, .bool l] w fun e w' => e = .returned (.tuple #[.int .i64 (nxtV s l (ph, tm)), .int .i64 (nxtE s l (ph, tm))]) ∧ Below w.heap.size w w' := by
  have HC := Lib.hid (follow_any s l w)
  have HW := Lib.hid hw
  have HD : Hid (DomII (ph, tm)) := ⟨hp, ht⟩
  have hz : ∀ W, (zeroValue 3).run Tryd.prog W = .ok (.int .i64 0) W := fun W => by kernel_rfl
  have HZ := Lib.hid hz
  clear hp ht hw hz
  cases hf : folF s l (ph, tm) with
  | none =>
    have e1 : nxtV s l (ph, tm) = 0 := by unfold nxtV; rw [hf]; rfl
    have e2 : nxtE s l (ph, tm) = 11 := by unfold nxtE; rw [hf]; rfl
    rw [e1, e2]
    have HF := Lib.hid hf
    clear e1 e2 hf
    go_enter Tryd.func41, Tryd.ntmps41
    go_wp2_with fail
    refine HC.out.mono ?_
    rintro e w1 ⟨b, m, rfl, hM, hD, hG, hB⟩
    have hrun := hM.look true ev_enc Tryd.underlying75 (z := .int .i64 0) (HZ.out _) hD HD.out
    rw [hG, HF.out] at hrun
    simp only [Option.map_none, Option.getD_none, Option.isSome_none, if_true] at hrun
    unfold encII at hrun
    have HB := Lib.hid hB
    clear hM hD hG hB
    go_wp2_with fail
    go_ret2
    exact ⟨rfl, HB.out⟩
  | some n =>
    have e1 : nxtV s l (ph, tm) = n := by unfold nxtV; rw [hf]; rfl
    have e2 : nxtE s l (ph, tm) = 0 := by unfold nxtE; rw [hf]; rfl
    rw [e1, e2]
    obtain ⟨d1, d2⟩ := folF_dom hf
    have d1 : 1 ≤ ph := d1
    have d2 : ph ≤ 4 := d2
    obtain ⟨N, rfl⟩ := Int.eq_ofNat_of_zero_le (show 0 ≤ ph by omega)
    obtain ⟨sw, hsw, hsne⟩ := HW.out N (by omega)
    have hse : sw.toList.isEmpty = false := by simpa using hsne
    have hN6 : N < 6 := by omega
    have HSW := Lib.hid hsw
    have HF := Lib.hid hf
    clear e1 e2 hf hsw hsne
    go_enter Tryd.func41, Tryd.ntmps41
    go_wp2_with fail
    refine HC.out.mono ?_
    rintro e w1 ⟨b, m, rfl, hM, hD, hG, hB⟩
    have hrun := hM.look true ev_enc Tryd.underlying75 (z := .int .i64 0) (HZ.out _) hD HD.out
    rw [hG, HF.out] at hrun
    simp only [Option.map_some, Option.getD_some, Option.isSome_some, if_true] at hrun
    unfold encII at hrun
    have HB := Lib.hid hB
    have HW1 : Hid (w1.cell? ⟨0, N, none⟩ = some (.string sw)) := (hB.cell (p := ⟨_, N, none⟩) hw0).trans HSW.out
    clear hM hD hG hB
    go_wp2_with fail
    refine (word_at N sw _ HW1.out hN6).mono ?_
    rintro e w2 ⟨rfl, rfl⟩
    go_wp2_with fail
    go_ret2
    exact ⟨rfl, HB.out⟩

set_option maxHeartbeats 1600000 in
theorem next29_any (ph tm : Int) (s l : Bool) (w : World) :
    Calls Tryd.prog 42 #[.int .i64 ph, .int .i64 tm, .bool s, .bool l] w fun e w' => e = .returned (.int .i64 ((folF s l (ph, tm)).getD (-1))) ∧ w = w' := by
  have HF := Lib.hid (show folF s l (ph, tm) = if l = true ∧ (ph, tm) = (4, 5) then some 5 else if s = true ∧ (ph, tm) = (2, 3) then some 3 else tgtF (ph, tm) from rfl)
  go_enter Tryd.func42, Tryd.ntmps42
  go_wp2
  all_goals
    go_ret
    refine ⟨?_, rfl⟩
    rw [HF.out]
    unfold tgtF
    simp_all
end Go.Proofs.YtikcodnmlenpeaaDoor
