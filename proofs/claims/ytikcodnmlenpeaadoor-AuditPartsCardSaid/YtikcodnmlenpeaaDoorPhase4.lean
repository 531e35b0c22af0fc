/-
  What audit.follows and complineref34.follows come to, over this seat's translation: contracts for callers.
-/
import Derived.Test.YtikcodnmlenpeaaDoorPhase3
namespace Go.Proofs.YtikcodnmlenpeaaDoor
open Go.RowKit

def hitB (f to : Int) (t i : Nat) : Bool := folF (i % 2 == 1) (i / 2 == 1) (f, (t : Int) + 1) == some to
/-- May a phase follow another one? -/
def folB (f to : Int) : Bool := if f = 0 then to == 1 else (List.range 5).any fun t => (List.range 4).any fun i => hitB f to t i
theorem folB_yes {f to : Int} (hf : ¬ f = 0) {t i : Nat} (ht : t < 5) (hi : i < 4) (h : hitB f to t i = true) : folB f to = true := by
  unfold folB
  rw [if_neg hf, List.any_eq_true]
  exact ⟨t, List.mem_range.2 ht, List.any_eq_true.2 ⟨i, List.mem_range.2 hi, h⟩⟩
theorem folB_no {f to : Int} (hf : ¬ f = 0) (h : ∀ t, t < 5 → ∀ i, i < 4 → hitB f to t i = false) : folB f to = false := by
  unfold folB
  rw [if_neg hf, List.any_eq_false]
  intro t ht
  rw [Bool.not_eq_true, List.any_eq_false]
  intro i hi
  rw [h t (List.mem_range.1 ht) i (List.mem_range.1 hi)]
  decide
set_option maxHeartbeats 6400000 in
set_option maxRecDepth 100000 in
theorem follows_any (f to : Int) (w : World) (hp : I64 f) (hw : WordsAt w) (hw0 : 0 < w.heap.size) :
    Calls Tryd.prog 36 #[.int .i64 f, .int .i64 to] w fun e w' => e = .returned (.bool (folB f to)) ∧ Below w.heap.size w w' := by
  by_cases hf0 : f = 0
  · subst hf0
    refine (follows_shut to w).mono ?_
    rintro e w' ⟨rfl, rfl⟩
    exact ⟨rfl, Below.refl _ _⟩
  have hfb : (f == 0) = false := by simpa using hf0
  have HN : Hid (∀ (tm : Int) (s l : Bool) (W : World), Below w.heap.size w W → I64 tm → Calls Tryd.prog 41 #[.int .i64 f, .int .i64 tm, .bool s, .bool l] W fun e w' => e = .returned (.tuple #[.int .i64 (nxtV s l (f, tm)), .int .i64 (nxtE s l (f, tm))]) ∧ Below W.heap.size W w') := fun tm s l W hW htm => next_any f tm s l W hp htm (hw.below hw0 hW) (by have := hW.size; omega)
  clear hp hw
  have hcell : ∀ (W : World), Below (w.heap.size + 1) (w.alloc (.cells #[.int .i64 1, .int .i64 2, .int .i64 3, .int .i64 4, .int .i64 5] 3)) W → ∀ t, t < 5 → W.cell? ⟨w.heap.size, t, none⟩ = some (.int .i64 ((t : Int) + 1)) := fun W hW t ht => by
    rw [hW.cell (p := ⟨w.heap.size, t, none⟩) (show w.heap.size < w.heap.size + 1 by omega), cell_new _ _ _ _ rfl]
    have : t = 0 ∨ t = 1 ∨ t = 2 ∨ t = 3 ∨ t = 4 := by omega
    rcases this with rfl | rfl | rfl | rfl | rfl <;> rfl
  have HCELL := Lib.hid hcell
  have HF0 := Lib.hid hf0
  clear hcell
  go_enter Tryd.func36, Tryd.ntmps36
  go_wp2_with fail
  go_loopw [6, 7, 8, 9, 16, 20] (fun _ _ _ _ i _ wr => ∃ t : Nat, t ≤ 5 ∧ i = .int .i64 t ∧ Hid (∀ t', t' < t → ∀ i, i < 4 → hitB f to t' i = false) ∧ Hid (Below (w.heap.size + 1) (w.alloc (.cells #[.int .i64 1, .int .i64 2, .int .i64 3, .int .i64 4, .int .i64 5] 3)) wr)) (fun _ _ _ _ i _ _ => 5 - (intOf i).toNat)
  case atStart => exact ⟨0, by omega, by first | rfl | simp, fun t' h => by omega, Below.refl _ _⟩
  case round =>
    obtain ⟨t, ht, rfl, HT, HB⟩ := hrel
    have hsz := HB.out.size
    have hsz' : w.heap.size + 1 ≤ wr.heap.size := by simpa using hsz
    by_cases htl : t < 5
    · have hc := HCELL.out wr HB.out t htl
      have HB1 : Hid (Below w.heap.size w wr) := ((Below.refl _ _).alloc (Nat.le_refl _) _).trans (HB.out.mono (by omega))
      obtain ⟨tm, htm⟩ : ∃ tm : Int, tm = (t : Int) + 1 := ⟨_, rfl⟩
      rw [← htm] at hc
      have HTE := Lib.hid htm
      have HTM : Hid (I64 tm) := by show I64 tm; unfold I64; omega
      have ht0 : (0 : Int) ≤ (t : Int) := by omega
      have ht5 : (t : Int) < 5 := by omega
      clear htm
      obtain ⟨wo, rfl⟩ : ∃ wo : World, wo = wr := ⟨_, rfl⟩
      go_wp2_with fail
      go_loopw [7, 8, 9, 20] (fun _ _ _ i wr => ∃ j : Nat, j ≤ 4 ∧ i = .int .i64 j ∧ Hid (∀ i, i < j → hitB f to t i = false) ∧ Hid (Below (w.heap.size + 1) (w.alloc (.cells #[.int .i64 1, .int .i64 2, .int .i64 3, .int .i64 4, .int .i64 5] 3)) wr)) (fun _ _ _ i _ => 4 - (intOf i).toNat)
      case atStart => exact ⟨0, by omega, by first | rfl | simp, fun i h => by omega, HB.out⟩
      case round =>
       obtain ⟨j, hj, rfl, HJ, HBI⟩ := hrel
       clear hc
       have hszi : w.heap.size + 1 ≤ wr.heap.size := by have := HBI.out.size; simpa using this
       have HBW : Hid (Below w.heap.size w wr) := ((Below.refl _ _).alloc (Nat.le_refl _) _).trans (HBI.out.mono (by omega))
       have HB2 : Hid (Below (w.heap.size + 1) (w.alloc (.cells #[.int .i64 1, .int .i64 2, .int .i64 3, .int .i64 4, .int .i64 5] 3)) wr) := HBI
       by_cases hjl : j < 4
       · have hj4 : j = 0 ∨ j = 1 ∨ j = 2 ∨ j = 3 := by omega
         clear hj hjl
         rcases hj4 with rfl | rfl | rfl | rfl
         · cases hc : folF false false (f, tm) with
           | none =>
             have hno : hitB f to t 0 = false := by show (folF _ _ _ == _) = false; rw [← HTE.out]; show (folF false false (f, tm) == some to) = false; rw [hc]; rfl
             have hv : nxtV false false (f, tm) = 0 := by unfold nxtV; rw [hc]; rfl
             have he : nxtE false false (f, tm) = 11 := by unfold nxtE; rw [hc]; rfl
             clear hc
             have HP1 : Hid (∀ i, i < 0 + 1 → hitB f to t i = false) := by
               intro i hi
               by_cases e : i = 0
               · subst e; exact hno
               · exact HJ.out i (by omega)
             clear hno
             go_wp2_with fail
             refine (HN.out tm false false _ HBW.out HTM.out).mono ?_
             rintro e w3 ⟨rfl, hb3⟩
             have HB3 : Hid (Below (w.heap.size + 1) (w.alloc (.cells #[.int .i64 1, .int .i64 2, .int .i64 3, .int .i64 4, .int .i64 5] 3)) w3) := HB2.out.trans (hb3.mono (by omega))
             have HB4 : Hid (Below w.heap.size w w3) := HBW.out.trans (hb3.mono (by omega))
             clear hb3
             rw [hv, he]
             go_wp2_with fail
             go_roundw
             case rel => exact ⟨0 + 1, by omega, by go_num, HP1, HB3⟩
             case measure => simp [intOf]
           | some n =>
             have hv : nxtV false false (f, tm) = n := by unfold nxtV; rw [hc]; rfl
             have he : nxtE false false (f, tm) = 0 := by unfold nxtE; rw [hc]; rfl
             cases hn : (n == to)
             · have hno : hitB f to t 0 = false := by show (folF _ _ _ == _) = false; rw [← HTE.out]; show (folF false false (f, tm) == some to) = false; rw [hc]; simpa using hn
               clear hc
               have HP1 : Hid (∀ i, i < 0 + 1 → hitB f to t i = false) := by
                 intro i hi
                 by_cases e : i = 0
                 · subst e; exact hno
                 · exact HJ.out i (by omega)
               clear hno
               go_wp2_with fail
               refine (HN.out tm false false _ HBW.out HTM.out).mono ?_
               rintro e w3 ⟨rfl, hb3⟩
               have HB3 : Hid (Below (w.heap.size + 1) (w.alloc (.cells #[.int .i64 1, .int .i64 2, .int .i64 3, .int .i64 4, .int .i64 5] 3)) w3) := HB2.out.trans (hb3.mono (by omega))
               have HB4 : Hid (Below w.heap.size w w3) := HBW.out.trans (hb3.mono (by omega))
               clear hb3
               rw [hv, he]
               go_wp2_with fail
               go_roundw
               case rel => exact ⟨0 + 1, by omega, by go_num, HP1, HB3⟩
               case measure => simp [intOf]
             · have hyes : folB f to = true := folB_yes hf0 (show t < 5 from htl) (i := 0) (by omega) (by show (folF _ _ _ == _) = true; rw [← HTE.out]; show (folF false false (f, tm) == some to) = true; rw [hc]; simpa using hn)
               have HY := Lib.hid hyes
               clear hc hyes
               go_wp2_with fail
               refine (HN.out tm false false _ HBW.out HTM.out).mono ?_
               rintro e w3 ⟨rfl, hb3⟩
               have HB3 : Hid (Below (w.heap.size + 1) (w.alloc (.cells #[.int .i64 1, .int .i64 2, .int .i64 3, .int .i64 4, .int .i64 5] 3)) w3) := HB2.out.trans (hb3.mono (by omega))
               have HB4 : Hid (Below w.heap.size w w3) := HBW.out.trans (hb3.mono (by omega))
               clear hb3
               rw [hv, he]
               go_wp2_with fail
               go_ret
               exact ⟨(by rw [HY.out]; first | done | rfl), HB4.out⟩
         · cases hc : folF true false (f, tm) with
           | none =>
             have hno : hitB f to t 1 = false := by show (folF _ _ _ == _) = false; rw [← HTE.out]; show (folF true false (f, tm) == some to) = false; rw [hc]; rfl
             have hv : nxtV true false (f, tm) = 0 := by unfold nxtV; rw [hc]; rfl
             have he : nxtE true false (f, tm) = 11 := by unfold nxtE; rw [hc]; rfl
             clear hc
             have HP1 : Hid (∀ i, i < 1 + 1 → hitB f to t i = false) := by
               intro i hi
               by_cases e : i = 1
               · subst e; exact hno
               · exact HJ.out i (by omega)
             clear hno
             go_wp2_with fail
             refine (HN.out tm true false _ HBW.out HTM.out).mono ?_
             rintro e w3 ⟨rfl, hb3⟩
             have HB3 : Hid (Below (w.heap.size + 1) (w.alloc (.cells #[.int .i64 1, .int .i64 2, .int .i64 3, .int .i64 4, .int .i64 5] 3)) w3) := HB2.out.trans (hb3.mono (by omega))
             have HB4 : Hid (Below w.heap.size w w3) := HBW.out.trans (hb3.mono (by omega))
             clear hb3
             rw [hv, he]
             go_wp2_with fail
             go_roundw
             case rel => exact ⟨1 + 1, by omega, by go_num, HP1, HB3⟩
             case measure => simp [intOf]
           | some n =>
             have hv : nxtV true false (f, tm) = n := by unfold nxtV; rw [hc]; rfl
             have he : nxtE true false (f, tm) = 0 := by unfold nxtE; rw [hc]; rfl
             cases hn : (n == to)
             · have hno : hitB f to t 1 = false := by show (folF _ _ _ == _) = false; rw [← HTE.out]; show (folF true false (f, tm) == some to) = false; rw [hc]; simpa using hn
               clear hc
               have HP1 : Hid (∀ i, i < 1 + 1 → hitB f to t i = false) := by
                 intro i hi
                 by_cases e : i = 1
                 · subst e; exact hno
                 · exact HJ.out i (by omega)
               clear hno
               go_wp2_with fail
               refine (HN.out tm true false _ HBW.out HTM.out).mono ?_
               rintro e w3 ⟨rfl, hb3⟩
               have HB3 : Hid (Below (w.heap.size + 1) (w.alloc (.cells #[.int .i64 1, .int .i64 2, .int .i64 3, .int .i64 4, .int .i64 5] 3)) w3) := HB2.out.trans (hb3.mono (by omega))
               have HB4 : Hid (Below w.heap.size w w3) := HBW.out.trans (hb3.mono (by omega))
               clear hb3
               rw [hv, he]
               go_wp2_with fail
               go_roundw
               case rel => exact ⟨1 + 1, by omega, by go_num, HP1, HB3⟩
               case measure => simp [intOf]
             · have hyes : folB f to = true := folB_yes hf0 (show t < 5 from htl) (i := 1) (by omega) (by show (folF _ _ _ == _) = true; rw [← HTE.out]; show (folF true false (f, tm) == some to) = true; rw [hc]; simpa using hn)
               have HY := Lib.hid hyes
               clear hc hyes
               go_wp2_with fail
               refine (HN.out tm true false _ HBW.out HTM.out).mono ?_
               rintro e w3 ⟨rfl, hb3⟩
               have HB3 : Hid (Below (w.heap.size + 1) (w.alloc (.cells #[.int .i64 1, .int .i64 2, .int .i64 3, .int .i64 4, .int .i64 5] 3)) w3) := HB2.out.trans (hb3.mono (by omega))
               have HB4 : Hid (Below w.heap.size w w3) := HBW.out.trans (hb3.mono (by omega))
               clear hb3
               rw [hv, he]
               go_wp2_with fail
               go_ret
               exact ⟨(by rw [HY.out]; first | done | rfl), HB4.out⟩
         · cases hc : folF false true (f, tm) with
           | none =>
             have hno : hitB f to t 2 = false := by show (folF _ _ _ == _) = false; rw [← HTE.out]; show (folF false true (f, tm) == some to) = false; rw [hc]; rfl
             have hv : nxtV false true (f, tm) = 0 := by unfold nxtV; rw [hc]; rfl
             have he : nxtE false true (f, tm) = 11 := by unfold nxtE; rw [hc]; rfl
             clear hc
             have HP1 : Hid (∀ i, i < 2 + 1 → hitB f to t i = false) := by
               intro i hi
               by_cases e : i = 2
               · subst e; exact hno
               · exact HJ.out i (by omega)
             clear hno
             go_wp2_with fail
             refine (HN.out tm false true _ HBW.out HTM.out).mono ?_
             rintro e w3 ⟨rfl, hb3⟩
             have HB3 : Hid (Below (w.heap.size + 1) (w.alloc (.cells #[.int .i64 1, .int .i64 2, .int .i64 3, .int .i64 4, .int .i64 5] 3)) w3) := HB2.out.trans (hb3.mono (by omega))
             have HB4 : Hid (Below w.heap.size w w3) := HBW.out.trans (hb3.mono (by omega))
             clear hb3
             rw [hv, he]
             go_wp2_with fail
             go_roundw
             case rel => exact ⟨2 + 1, by omega, by go_num, HP1, HB3⟩
             case measure => simp [intOf]
           | some n =>
             have hv : nxtV false true (f, tm) = n := by unfold nxtV; rw [hc]; rfl
             have he : nxtE false true (f, tm) = 0 := by unfold nxtE; rw [hc]; rfl
             cases hn : (n == to)
             · have hno : hitB f to t 2 = false := by show (folF _ _ _ == _) = false; rw [← HTE.out]; show (folF false true (f, tm) == some to) = false; rw [hc]; simpa using hn
               clear hc
               have HP1 : Hid (∀ i, i < 2 + 1 → hitB f to t i = false) := by
                 intro i hi
                 by_cases e : i = 2
                 · subst e; exact hno
                 · exact HJ.out i (by omega)
               clear hno
               go_wp2_with fail
               refine (HN.out tm false true _ HBW.out HTM.out).mono ?_
               rintro e w3 ⟨rfl, hb3⟩
               have HB3 : Hid (Below (w.heap.size + 1) (w.alloc (.cells #[.int .i64 1, .int .i64 2, .int .i64 3, .int .i64 4, .int .i64 5] 3)) w3) := HB2.out.trans (hb3.mono (by omega))
               have HB4 : Hid (Below w.heap.size w w3) := HBW.out.trans (hb3.mono (by omega))
               clear hb3
               rw [hv, he]
               go_wp2_with fail
               go_roundw
               case rel => exact ⟨2 + 1, by omega, by go_num, HP1, HB3⟩
               case measure => simp [intOf]
             · have hyes : folB f to = true := folB_yes hf0 (show t < 5 from htl) (i := 2) (by omega) (by show (folF _ _ _ == _) = true; rw [← HTE.out]; show (folF false true (f, tm) == some to) = true; rw [hc]; simpa using hn)
               have HY := Lib.hid hyes
               clear hc hyes
               go_wp2_with fail
               refine (HN.out tm false true _ HBW.out HTM.out).mono ?_
               rintro e w3 ⟨rfl, hb3⟩
               have HB3 : Hid (Below (w.heap.size + 1) (w.alloc (.cells #[.int .i64 1, .int .i64 2, .int .i64 3, .int .i64 4, .int .i64 5] 3)) w3) := HB2.out.trans (hb3.mono (by omega))
               have HB4 : Hid (Below w.heap.size w w3) := HBW.out.trans (hb3.mono (by omega))
               clear hb3
               rw [hv, he]
               go_wp2_with fail
               go_ret
               exact ⟨(by rw [HY.out]; first | done | rfl), HB4.out⟩
         · cases hc : folF true true (f, tm) with
           | none =>
             have hno : hitB f to t 3 = false := by show (folF _ _ _ == _) = false; rw [← HTE.out]; show (folF true true (f, tm) == some to) = false; rw [hc]; rfl
             have hv : nxtV true true (f, tm) = 0 := by unfold nxtV; rw [hc]; rfl
             have he : nxtE true true (f, tm) = 11 := by unfold nxtE; rw [hc]; rfl
             clear hc
             have HP1 : Hid (∀ i, i < 3 + 1 → hitB f to t i = false) := by
               intro i hi
               by_cases e : i = 3
               · subst e; exact hno
               · exact HJ.out i (by omega)
             clear hno
             go_wp2_with fail
             refine (HN.out tm true true _ HBW.out HTM.out).mono ?_
             rintro e w3 ⟨rfl, hb3⟩
             have HB3 : Hid (Below (w.heap.size + 1) (w.alloc (.cells #[.int .i64 1, .int .i64 2, .int .i64 3, .int .i64 4, .int .i64 5] 3)) w3) := HB2.out.trans (hb3.mono (by omega))
             have HB4 : Hid (Below w.heap.size w w3) := HBW.out.trans (hb3.mono (by omega))
             clear hb3
             rw [hv, he]
             go_wp2_with fail
             go_roundw
             case rel => exact ⟨3 + 1, by omega, by go_num, HP1, HB3⟩
             case measure => simp [intOf]
           | some n =>
             have hv : nxtV true true (f, tm) = n := by unfold nxtV; rw [hc]; rfl
             have he : nxtE true true (f, tm) = 0 := by unfold nxtE; rw [hc]; rfl
             cases hn : (n == to)
             · have hno : hitB f to t 3 = false := by show (folF _ _ _ == _) = false; rw [← HTE.out]; show (folF true true (f, tm) == some to) = false; rw [hc]; simpa using hn
               clear hc
               have HP1 : Hid (∀ i, i < 3 + 1 → hitB f to t i = false) := by
                 intro i hi
                 by_cases e : i = 3
                 · subst e; exact hno
                 · exact HJ.out i (by omega)
               clear hno
               go_wp2_with fail
               refine (HN.out tm true true _ HBW.out HTM.out).mono ?_
               rintro e w3 ⟨rfl, hb3⟩
               have HB3 : Hid (Below (w.heap.size + 1) (w.alloc (.cells #[.int .i64 1, .int .i64 2, .int .i64 3, .int .i64 4, .int .i64 5] 3)) w3) := HB2.out.trans (hb3.mono (by omega))
               have HB4 : Hid (Below w.heap.size w w3) := HBW.out.trans (hb3.mono (by omega))
               clear hb3
               rw [hv, he]
               go_wp2_with fail
               go_roundw
               case rel => exact ⟨3 + 1, by omega, by go_num, HP1, HB3⟩
               case measure => simp [intOf]
             · have hyes : folB f to = true := folB_yes hf0 (show t < 5 from htl) (i := 3) (by omega) (by show (folF _ _ _ == _) = true; rw [← HTE.out]; show (folF true true (f, tm) == some to) = true; rw [hc]; simpa using hn)
               have HY := Lib.hid hyes
               clear hc hyes
               go_wp2_with fail
               refine (HN.out tm true true _ HBW.out HTM.out).mono ?_
               rintro e w3 ⟨rfl, hb3⟩
               have HB3 : Hid (Below (w.heap.size + 1) (w.alloc (.cells #[.int .i64 1, .int .i64 2, .int .i64 3, .int .i64 4, .int .i64 5] 3)) w3) := HB2.out.trans (hb3.mono (by omega))
               have HB4 : Hid (Below w.heap.size w w3) := HBW.out.trans (hb3.mono (by omega))
               clear hb3
               rw [hv, he]
               go_wp2_with fail
               go_ret
               exact ⟨(by rw [HY.out]; first | done | rfl), HB4.out⟩
       · obtain rfl : j = 4 := by omega
         have HT1 : Hid (∀ t', t' < t + 1 → ∀ i, i < 4 → hitB f to t' i = false) := by
           intro t' h' i hi
           by_cases e : t' = t
           · subst e; exact HJ.out i hi
           · exact HT.out t' (by omega) i hi
         go_wp2_with fail
         go_roundw
         case rel => exact ⟨t + 1, by omega, by go_num, HT1, HBI⟩
         case measure => simp [intOf]; omega
    · obtain rfl : t = 5 := by omega
      have HY := Lib.hid (folB_no HF0.out HT.out)
      have HB1 : Hid (Below w.heap.size w wr) := ((Below.refl _ _).alloc (Nat.le_refl _) _).trans (HB.out.mono (by omega))
      go_wp2_with fail
      go_ret
      exact ⟨(by rw [HY.out]; first | done | rfl), HB1.out⟩
theorem getD_hit {o : Option Int} {to : Int} (h : 0 ≤ to) : (o.getD (-1) == to) = (o == some to) := by
  cases o with
  | none => simp; omega
  | some n => simp
theorem hit3 {f to : Int} {t : Nat} (h : hitB f to t 3 = true) : hitB f to t 0 = true ∨ hitB f to t 1 = true ∨ hitB f to t 2 = true := by
  have e3 : hitB f to t 3 = (folF true true (f, (t : Int) + 1) == some to) := rfl
  have e0 : hitB f to t 0 = (folF false false (f, (t : Int) + 1) == some to) := rfl
  have e1 : hitB f to t 1 = (folF true false (f, (t : Int) + 1) == some to) := rfl
  have e2 : hitB f to t 2 = (folF false true (f, (t : Int) + 1) == some to) := rfl
  rw [e3] at h
  rw [e0, e1, e2]
  generalize (f, (t : Int) + 1) = p at *
  unfold folF at *
  by_cases c1 : p = (4, 5)
  · right; right; simpa [c1] using h
  · by_cases c2 : p = (2, 3)
    · right; left; simpa [c2] using h
    · left; simpa [c1, c2] using h
set_option maxHeartbeats 3200000 in
set_option maxRecDepth 100000 in
theorem rfollows_any (f to : Int) (w : World) (hto : 0 ≤ to) :
    Calls Tryd.prog 38 #[.int .i64 f, .int .i64 to] w fun e w' => e = .returned (.bool (folB f to)) ∧ w = w' := by
  by_cases hf0 : f = 0
  · subst hf0
    go_enter Tryd.func38, Tryd.ntmps38
    go_wp2
    go_ret
    exact ⟨rfl, rfl⟩
  have hfb : (f == 0) = false := by simpa using hf0
  have HF0 := Lib.hid hf0
  have HN : Hid (∀ (t : Nat) (s l : Bool) (W : World), Calls Tryd.prog 42 #[.int .i64 f, .int .i64 ((t : Int) + 1), .bool s, .bool l] W fun e w' => e = .returned (.int .i64 ((folF s l (f, (t : Int) + 1)).getD (-1))) ∧ W = w') := fun t s l W => next29_any f _ s l W
  clear hf0
  go_enter Tryd.func38, Tryd.ntmps38
  go_wp2_with fail
  go_loop [5] (fun i => ∃ t : Nat, t ≤ 5 ∧ i = .int .i64 ((t : Int) + 1) ∧ Hid (∀ t', t' < t → ∀ i, i < 4 → hitB f to t' i = false)) (fun i => 6 - (intOf i).toNat)
  case atStart => exact ⟨0, by omega, by first | rfl | simp, fun t' h => by omega⟩
  case round =>
    obtain ⟨t, ht, rfl, HT⟩ := hrel
    by_cases htl : t < 5
    · have hg0 : ((folF false false (f, (t : Int) + 1)).getD (-1) == to) = hitB f to t 0 := getD_hit hto
      have hg1 : ((folF true false (f, (t : Int) + 1)).getD (-1) == to) = hitB f to t 1 := getD_hit hto
      have hg2 : ((folF false true (f, (t : Int) + 1)).getD (-1) == to) = hitB f to t 2 := getD_hit hto
      have H3 := Lib.hid (hit3 (f := f) (to := to) (t := t))
      have hle : (t : Int) + 1 ≤ 5 := by omega
      have hge : (0 : Int) ≤ (t : Int) := by omega
      have HN0 := fun W => Lib.hid (HN.out t false false W)
      have HN1 := fun W => Lib.hid (HN.out t true false W)
      have HN2 := fun W => Lib.hid (HN.out t false true W)
      generalize (folF false false (f, (t : Int) + 1)).getD (-1) = v0 at *
      generalize (folF true false (f, (t : Int) + 1)).getD (-1) = v1 at *
      generalize (folF false true (f, (t : Int) + 1)).getD (-1) = v2 at *
      cases hb0 : hitB f to t 0
      · rw [hb0] at hg0
        cases hb1 : hitB f to t 1
        · rw [hb1] at hg1
          cases hb2 : hitB f to t 2
          · rw [hb2] at hg2
            have HT1 : Hid (∀ t', t' < t + 1 → ∀ i, i < 4 → hitB f to t' i = false) := by
              intro t' h' i hi
              by_cases e : t' = t
              · subst e
                have : i = 0 ∨ i = 1 ∨ i = 2 ∨ i = 3 := by omega
                rcases this with rfl | rfl | rfl | rfl
                · exact hb0
                · exact hb1
                · exact hb2
                · cases h3 : hitB f to t' 3
                  · rfl
                  · rcases H3.out h3 with h | h | h
                    · rw [hb0] at h; cases h
                    · rw [hb1] at h; cases h
                    · rw [hb2] at h; cases h
              · exact HT.out t' (by omega) i hi
            clear hb0 hb1 hb2
            go_wp2_with fail
            refine (HN0 _).out.mono ?_
            rintro e w1 ⟨rfl, rfl⟩
            go_wp2_with fail
            refine (HN1 _).out.mono ?_
            rintro e w1 ⟨rfl, rfl⟩
            go_wp2_with fail
            refine (HN2 _).out.mono ?_
            rintro e w1 ⟨rfl, rfl⟩
            go_wp2_with fail
            go_round
            case rel => exact ⟨t + 1, by omega, by go_num, HT1⟩
            case measure => simp [intOf]; omega
          · rw [hb2] at hg2
            have HY := Lib.hid (folB_yes HF0.out (show t < 5 from htl) (i := 2) (by omega) hb2)
            clear hb0 hb1 hb2
            go_wp2_with fail
            refine (HN0 _).out.mono ?_
            rintro e w1 ⟨rfl, rfl⟩
            go_wp2_with fail
            refine (HN1 _).out.mono ?_
            rintro e w1 ⟨rfl, rfl⟩
            go_wp2_with fail
            refine (HN2 _).out.mono ?_
            rintro e w1 ⟨rfl, rfl⟩
            go_wp2_with fail
            go_ret
            exact ⟨(by rw [HY.out]; first | done | rfl), rfl⟩
        · rw [hb1] at hg1
          have HY := Lib.hid (folB_yes HF0.out (show t < 5 from htl) (i := 1) (by omega) hb1)
          clear hb0 hb1
          go_wp2_with fail
          refine (HN0 _).out.mono ?_
          rintro e w1 ⟨rfl, rfl⟩
          go_wp2_with fail
          refine (HN1 _).out.mono ?_
          rintro e w1 ⟨rfl, rfl⟩
          go_wp2_with fail
          go_ret
          exact ⟨(by rw [HY.out]; first | done | rfl), rfl⟩
      · rw [hb0] at hg0
        have HY := Lib.hid (folB_yes HF0.out (show t < 5 from htl) (i := 0) (by omega) hb0)
        clear hb0
        go_wp2_with fail
        refine (HN0 _).out.mono ?_
        rintro e w1 ⟨rfl, rfl⟩
        go_wp2_with fail
        go_ret
        exact ⟨(by rw [HY.out]; first | done | rfl), rfl⟩
    · obtain rfl : t = 5 := by omega
      have HY := Lib.hid (folB_no HF0.out HT.out)
      go_wp2_with fail
      go_ret
      exact ⟨(by rw [HY.out]; first | done | rfl), rfl⟩
end Go.Proofs.YtikcodnmlenpeaaDoor
