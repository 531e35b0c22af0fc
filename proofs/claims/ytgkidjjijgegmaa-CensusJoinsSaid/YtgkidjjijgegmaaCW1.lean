/-
  What census.place, less and none come to, over this seat's translation: contracts for callers.
-/
import Derived.Test.YtgkidjjijgegmaaCKey
import Derived.Test.YtgkidjjijgegmaaMoneyNegD
import Derived.Test.YtgkidjjijgegmaaAudPlain
import Derived.Deep.QuietTactic
import Derived.BigQuiet
namespace Go.Proofs.Ytgkidjjijgegmaa
open Go.RowKit

/-- The column in which an event of a kind counts. -/
def plJ (k : Int) : Option Nat := if k = 5 ∨ k = 6 then some 0 else if k = 13 ∨ k = 19 then some 1 else if k = 12 then some 2 else if k = 14 then some 3 else if k = 15 then some 4 else none
def plI (k : Int) : Int := ((plJ k).getD 0 : Nat)
def plN (x : Ev) : Int := if (plJ x.k).isSome then x.n else 0
theorem plJ_lt {k : Int} {j : Nat} (h : plJ k = some j) : j < 5 := by
  unfold plJ at h
  repeat' split at h
  all_goals simp at h
  all_goals omega
theorem ret_place {k : IntKind} {a b c d : Int} {p q : Bool} (h : a = c) (h' : b = d) (h2 : p = q) :
    Ending.returned (.tuple #[.int k a, .int k b, .bool p]) = .returned (.tuple #[.int k c, .int k d, .bool q]) := by rw [h, h', h2]
set_option maxHeartbeats 1600000 in
theorem place_any (x : Ev) (w : World) :
    Calls Try.prog 21 #[x.val] w fun e w' =>
      e = .returned (.tuple #[.int .i64 (plI x.k), .int .i64 (plN x), .bool (plJ x.k).isSome]) ∧ Below w.heap.size w w' := by
  obtain ⟨k, m, a, n, o⟩ := x
  unfold Ev.val plN
  simp only
  have HB : Hid (Below w.heap.size w (w.alloc (.cells #[.int .i64 k, .int .i64 m, .int .i64 a, .int .i64 n, .int .i64 o] 34))) := Lib.hid ((Below.refl _ _).alloc (Nat.le_refl _) _)
  have HX := Lib.hid fun j => cell_new w #[.int .i64 k, .int .i64 m, .int .i64 a, .int .i64 n, .int .i64 o] 34 (b := w.heap.size) j rfl
  obtain ⟨ri, HRI⟩ : ∃ r, Hid (r = plI k) := ⟨_, Lib.hid rfl⟩
  obtain ⟨rn, HRN⟩ : ∃ r, Hid (r = (if (plJ k).isSome then n else 0)) := ⟨_, Lib.hid rfl⟩
  obtain ⟨rb, HRB⟩ : ∃ r, Hid (r = (plJ k).isSome) := ⟨_, Lib.hid rfl⟩
  rw [← HRI.out, ← HRN.out, ← HRB.out]
  by_cases h5 : k = 5
  · have b5 : (k == 5) = true := by simpa using h5
    have HR : Hid (plJ k = some 0) := Lib.hid (by subst h5; rfl)
    have HG : Hid (ri = 0 ∧ rn = n ∧ rb = true) := Lib.hid ⟨by rw [HRI.out]; unfold plI; rw [HR.out]; rfl, by rw [HRN.out, HR.out]; rfl, by rw [HRB.out, HR.out]; rfl⟩
    clear HRI HRN HRB h5
    go_enter Try.func21, Try.ntmps21
    go_wp2_with fail
    generalize w.alloc (.cells #[.int .i64 k, .int .i64 m, .int .i64 a, .int .i64 n, .int .i64 o] 34) = w0 at *
    have c0 : w0.cell? ⟨w.heap.size, 0, none⟩ = some (.int .i64 k) := HX.out 0
    have c3 : w0.cell? ⟨w.heap.size, 3, none⟩ = some (.int .i64 n) := HX.out 3
    go_wp2_with fail
    go_quiet (fail)
    go_wp2_with fail
    go_ret3
    exact ⟨ret_place HG.out.1.symm HG.out.2.1.symm HG.out.2.2.symm, below_drewN HB.out _⟩
  have b5 : (k == 5) = false := by simpa using h5
  by_cases h6 : k = 6
  · have b6 : (k == 6) = true := by simpa using h6
    have HR : Hid (plJ k = some 0) := Lib.hid (by subst h6; rfl)
    have HG : Hid (ri = 0 ∧ rn = n ∧ rb = true) := Lib.hid ⟨by rw [HRI.out]; unfold plI; rw [HR.out]; rfl, by rw [HRN.out, HR.out]; rfl, by rw [HRB.out, HR.out]; rfl⟩
    clear HRI HRN HRB h6
    go_enter Try.func21, Try.ntmps21
    go_wp2_with fail
    generalize w.alloc (.cells #[.int .i64 k, .int .i64 m, .int .i64 a, .int .i64 n, .int .i64 o] 34) = w0 at *
    have c0 : w0.cell? ⟨w.heap.size, 0, none⟩ = some (.int .i64 k) := HX.out 0
    have c3 : w0.cell? ⟨w.heap.size, 3, none⟩ = some (.int .i64 n) := HX.out 3
    go_wp2_with fail
    go_quiet (fail)
    go_wp2_with fail
    go_ret3
    exact ⟨ret_place HG.out.1.symm HG.out.2.1.symm HG.out.2.2.symm, below_drewN HB.out _⟩
  have b6 : (k == 6) = false := by simpa using h6
  by_cases h13 : k = 13
  · have b13 : (k == 13) = true := by simpa using h13
    have HR : Hid (plJ k = some 1) := Lib.hid (by subst h13; rfl)
    have HG : Hid (ri = 1 ∧ rn = n ∧ rb = true) := Lib.hid ⟨by rw [HRI.out]; unfold plI; rw [HR.out]; rfl, by rw [HRN.out, HR.out]; rfl, by rw [HRB.out, HR.out]; rfl⟩
    clear HRI HRN HRB h13
    go_enter Try.func21, Try.ntmps21
    go_wp2_with fail
    generalize w.alloc (.cells #[.int .i64 k, .int .i64 m, .int .i64 a, .int .i64 n, .int .i64 o] 34) = w0 at *
    have c0 : w0.cell? ⟨w.heap.size, 0, none⟩ = some (.int .i64 k) := HX.out 0
    have c3 : w0.cell? ⟨w.heap.size, 3, none⟩ = some (.int .i64 n) := HX.out 3
    go_wp2_with fail
    go_quiet (fail)
    go_wp2_with fail
    go_ret3
    exact ⟨ret_place HG.out.1.symm HG.out.2.1.symm HG.out.2.2.symm, below_drewN HB.out _⟩
  have b13 : (k == 13) = false := by simpa using h13
  by_cases h19 : k = 19
  · have b19 : (k == 19) = true := by simpa using h19
    have HR : Hid (plJ k = some 1) := Lib.hid (by subst h19; rfl)
    have HG : Hid (ri = 1 ∧ rn = n ∧ rb = true) := Lib.hid ⟨by rw [HRI.out]; unfold plI; rw [HR.out]; rfl, by rw [HRN.out, HR.out]; rfl, by rw [HRB.out, HR.out]; rfl⟩
    clear HRI HRN HRB h19
    go_enter Try.func21, Try.ntmps21
    go_wp2_with fail
    generalize w.alloc (.cells #[.int .i64 k, .int .i64 m, .int .i64 a, .int .i64 n, .int .i64 o] 34) = w0 at *
    have c0 : w0.cell? ⟨w.heap.size, 0, none⟩ = some (.int .i64 k) := HX.out 0
    have c3 : w0.cell? ⟨w.heap.size, 3, none⟩ = some (.int .i64 n) := HX.out 3
    go_wp2_with fail
    go_quiet (fail)
    go_wp2_with fail
    go_ret3
    exact ⟨ret_place HG.out.1.symm HG.out.2.1.symm HG.out.2.2.symm, below_drewN HB.out _⟩
  have b19 : (k == 19) = false := by simpa using h19
  by_cases h12 : k = 12
  · have b12 : (k == 12) = true := by simpa using h12
    have HR : Hid (plJ k = some 2) := Lib.hid (by subst h12; rfl)
    have HG : Hid (ri = 2 ∧ rn = n ∧ rb = true) := Lib.hid ⟨by rw [HRI.out]; unfold plI; rw [HR.out]; rfl, by rw [HRN.out, HR.out]; rfl, by rw [HRB.out, HR.out]; rfl⟩
    clear HRI HRN HRB h12
    go_enter Try.func21, Try.ntmps21
    go_wp2_with fail
    generalize w.alloc (.cells #[.int .i64 k, .int .i64 m, .int .i64 a, .int .i64 n, .int .i64 o] 34) = w0 at *
    have c0 : w0.cell? ⟨w.heap.size, 0, none⟩ = some (.int .i64 k) := HX.out 0
    have c3 : w0.cell? ⟨w.heap.size, 3, none⟩ = some (.int .i64 n) := HX.out 3
    go_wp2_with fail
    go_quiet (fail)
    go_wp2_with fail
    go_ret3
    exact ⟨ret_place HG.out.1.symm HG.out.2.1.symm HG.out.2.2.symm, below_drewN HB.out _⟩
  have b12 : (k == 12) = false := by simpa using h12
  by_cases h14 : k = 14
  · have b14 : (k == 14) = true := by simpa using h14
    have HR : Hid (plJ k = some 3) := Lib.hid (by subst h14; rfl)
    have HG : Hid (ri = 3 ∧ rn = n ∧ rb = true) := Lib.hid ⟨by rw [HRI.out]; unfold plI; rw [HR.out]; rfl, by rw [HRN.out, HR.out]; rfl, by rw [HRB.out, HR.out]; rfl⟩
    clear HRI HRN HRB h14
    go_enter Try.func21, Try.ntmps21
    go_wp2_with fail
    generalize w.alloc (.cells #[.int .i64 k, .int .i64 m, .int .i64 a, .int .i64 n, .int .i64 o] 34) = w0 at *
    have c0 : w0.cell? ⟨w.heap.size, 0, none⟩ = some (.int .i64 k) := HX.out 0
    have c3 : w0.cell? ⟨w.heap.size, 3, none⟩ = some (.int .i64 n) := HX.out 3
    go_wp2_with fail
    go_quiet (fail)
    go_wp2_with fail
    go_ret3
    exact ⟨ret_place HG.out.1.symm HG.out.2.1.symm HG.out.2.2.symm, below_drewN HB.out _⟩
  have b14 : (k == 14) = false := by simpa using h14
  by_cases h15 : k = 15
  · have b15 : (k == 15) = true := by simpa using h15
    have HR : Hid (plJ k = some 4) := Lib.hid (by subst h15; rfl)
    have HG : Hid (ri = 4 ∧ rn = n ∧ rb = true) := Lib.hid ⟨by rw [HRI.out]; unfold plI; rw [HR.out]; rfl, by rw [HRN.out, HR.out]; rfl, by rw [HRB.out, HR.out]; rfl⟩
    clear HRI HRN HRB h15
    go_enter Try.func21, Try.ntmps21
    go_wp2_with fail
    generalize w.alloc (.cells #[.int .i64 k, .int .i64 m, .int .i64 a, .int .i64 n, .int .i64 o] 34) = w0 at *
    have c0 : w0.cell? ⟨w.heap.size, 0, none⟩ = some (.int .i64 k) := HX.out 0
    have c3 : w0.cell? ⟨w.heap.size, 3, none⟩ = some (.int .i64 n) := HX.out 3
    go_wp2_with fail
    go_quiet (fail)
    go_wp2_with fail
    go_ret3
    exact ⟨ret_place HG.out.1.symm HG.out.2.1.symm HG.out.2.2.symm, below_drewN HB.out _⟩
  have b15 : (k == 15) = false := by simpa using h15
  have HN : Hid (plJ k = none) := Lib.hid (by simp [plJ, h5, h6, h12, h13, h14, h15, h19])
  have HG : Hid (ri = 0 ∧ rn = 0 ∧ rb = false) := Lib.hid ⟨by rw [HRI.out]; unfold plI; rw [HN.out]; rfl, by rw [HRN.out, HN.out]; rfl, by rw [HRB.out, HN.out]; rfl⟩
  clear HRI HRN HRB h5 h6 h12 h13 h14 h15 h19
  go_enter Try.func21, Try.ntmps21
  go_wp2_with fail
  generalize w.alloc (.cells #[.int .i64 k, .int .i64 m, .int .i64 a, .int .i64 n, .int .i64 o] 34) = w0 at *
  have c0 : w0.cell? ⟨w.heap.size, 0, none⟩ = some (.int .i64 k) := HX.out 0
  have c3 : w0.cell? ⟨w.heap.size, 3, none⟩ = some (.int .i64 n) := HX.out 3
  go_wp2_with fail
  go_ret3
  exact ⟨ret_place HG.out.1.symm HG.out.2.1.symm HG.out.2.2.symm, HB.out⟩
/-- An amount the other way round, in parts. -/
def lsL (n : Int) : List Int := if I64 (-n) then [-n] else [9223372036854775807, 1]
theorem lsL_I64 {n : Int} (_h : I64 n) : ∀ x ∈ lsL n, I64 x := by
  intro x hx
  unfold lsL at hx
  split at hx
  · simp at hx; subst hx; assumption
  · simp at hx
    rcases hx with rfl | rfl <;> (unfold I64; omega)
theorem lsL_len (n : Int) : (lsL n).length ≤ 2 := by unfold lsL; split <;> simp
theorem lsL_pos (n : Int) : 0 < (lsL n).length := by unfold lsL; split <;> simp
theorem lsL_sum {n : Int} (h : I64 n) : sumI (lsL n) = -n := by
  unfold lsL
  split
  · simp [sumI]
  · rename_i hn
    unfold I64 at h hn
    simp only [sumI]
    omega
/-- Parts have come back. -/
def GotP (n : Int) (w : World) (e : Ending) (w' : World) : Prop := ∃ c, e = .returned (.slice (some ⟨w.heap.size, 0, none⟩) (lsL n).length c) ∧ w'.ownsRow w.heap.size 2 1 (.slice (some ⟨w.heap.size, 0, none⟩) (lsL n).length c) (lsL n).length ((lsL n).map (Value.int .i64)) ∧ Below w.heap.size w w'
theorem own_made1 (w : World) (t : TypeId) (cs : Array Value) (hm : cs.size ≤ maxLen) : (w.alloc (.cells cs t)).ownsRow w.heap.size t 1 (.slice (some ⟨w.heap.size, 0, none⟩) cs.size cs.size) cs.size cs.toList :=
  ⟨by simp, Or.inr ⟨w.heap.size, cs.size, cs, rfl, Nat.le_refl _, heap_alloc_new w _, Nat.le_refl _, hm, by simp, by simp [List.take_of_length_le]⟩⟩
set_option maxHeartbeats 400000 in
theorem less_any (n : Int) (w : World) (h : I64 n) :
    Calls Try.prog 22 #[.int .i64 n] w (GotP n w) := by
  have HN := Lib.hid h
  clear h
  go_enter Try.func22, Try.ntmps22
  by_cases hi : I64 (-n)
  · obtain ⟨hV, hE⟩ := amt_in hi
    have HL : Hid (lsL n = [-n]) := Lib.hid (by unfold lsL; rw [if_pos hi])
    clear hi
    go_wp2_with (go_at_call 29; refine (neg_any n _ HN.out).mono ?_; rintro e w' ⟨rfl, rfl⟩; rw [hV, hE])
    go_ret
    unfold GotP
    rw [HL.out]
    exact ⟨1, rfl, own_made1 w _ #[.int .i64 (-n)] (by simp [maxLen]), (Below.refl _ _).alloc (Nat.le_refl _) _⟩
  · obtain ⟨hV, hE⟩ := amt_out hi
    have HL : Hid (lsL n = [9223372036854775807, 1]) := Lib.hid (by unfold lsL; rw [if_neg hi])
    clear hi
    go_wp2_with (go_at_call 29; refine (neg_any n _ HN.out).mono ?_; rintro e w' ⟨rfl, rfl⟩; rw [hV, hE])
    go_ret
    unfold GotP
    rw [HL.out]
    exact ⟨2, rfl, own_made1 w _ #[.int .i64 9223372036854775807, .int .i64 1] (by simp [maxLen]), (Below.refl _ _).alloc (Nat.le_refl _) _⟩
/-- A tally: its side, and its five amounts. -/
structure Tl where
  q : Int × Int
  a : Int
  b : Int
  c : Int
  d : Int
  e : Int
deriving DecidableEq
def Tl.cells (t : Tl) : List Value := [.int .i64 t.q.1, .int .i64 t.q.2, .int .i64 t.a, .int .i64 t.b, .int .i64 t.c, .int .i64 t.d, .int .i64 t.e]
def Tl.val (t : Tl) : Value := .agg #[.int .i64 t.q.1, .int .i64 t.q.2, .int .i64 t.a, .int .i64 t.b, .int .i64 t.c, .int .i64 t.d, .int .i64 t.e]
def Tl.row (t : Tl) : List Int := [t.a, t.b, t.c, t.d, t.e]
def tlNone (t : Tl) : Bool := t.a == 0 && t.b == 0 && t.c == 0 && t.d == 0 && t.e == 0
def tlRows (l : List Tl) : List Value := l.flatMap Tl.cells
end Go.Proofs.Ytgkidjjijgegmaa
