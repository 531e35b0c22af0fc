/-
  What codec.has and codec.values come to, over this seat's translation: contracts for callers.
-/
import Derived.Test.YtmplokdbbhlomaaDoorSc5
namespace Go.Proofs.YtmplokdbbhlomaaDoor
open Go.RowKit

/-- What a kind has, as bits. -/
def bitsOf (k : Int) : Int := if k = 2 then 63 else if k = 3 then 1 else if k = 4 then 18 else if k = 5 then 26 else if k = 6 then 26 else if k = 7 then 58 else if k = 8 then 18 else if k = 9 then 18 else 0
theorem not_k {k : Int} (h : isK k = false) : k ≠ 1 ∧ k ≠ 2 ∧ k ≠ 3 ∧ k ≠ 4 ∧ k ≠ 5 ∧ k ≠ 6 ∧ k ≠ 7 ∧ k ≠ 8 ∧ k ≠ 9 ∧ k ≠ 10 := by
  simp [isK] at h
  omega
set_option maxRecDepth 100000 in
set_option maxHeartbeats 3200000 in
theorem has_any (k : Int) (w : World) : Calls Tryd.prog 43 #[.int .i64 k] w fun e w' => e = .returned (.tuple #[.int .i64 (bitsOf k), .bool (isK k)]) ∧ w' = w := by
  have o1 : bits .or .i64 0 5 = 5 := by decide
  have o2 : bits .or .i64 5 32 = 37 := by decide
  have o3 : bits .or .i64 37 8 = 45 := by decide
  have o4 : bits .or .i64 45 18 = 63 := by decide
  have o5 : bits .or .i64 0 32 = 32 := by decide
  have o6 : bits .or .i64 32 8 = 40 := by decide
  have o7 : bits .or .i64 40 18 = 58 := by decide
  have o8 : bits .or .i64 0 8 = 8 := by decide
  have o9 : bits .or .i64 8 18 = 26 := by decide
  have o10 : bits .or .i64 0 18 = 18 := by decide
  cases hk : isK k with
  | true =>
    rcases isK_cases hk with rfl | rfl | rfl | rfl | rfl | rfl | rfl | rfl | rfl | rfl
    all_goals
      clear hk
      go_enter Tryd.func43, Tryd.ntmps43
      go_wp2_with fail
      go_ret2
      exact ⟨rfl, rfl⟩
  | false =>
    obtain ⟨n1, n2, n3, n4, n5, n6, n7, n8, n9, n10⟩ := not_k hk
    have b1 : (k == 1) = false := by simpa using n1
    have b2 : (k == 2) = false := by simpa using n2
    have b3 : (k == 3) = false := by simpa using n3
    have b4 : (k == 4) = false := by simpa using n4
    have b5 : (k == 5) = false := by simpa using n5
    have b6 : (k == 6) = false := by simpa using n6
    have b7 : (k == 7) = false := by simpa using n7
    have b8 : (k == 8) = false := by simpa using n8
    have b9 : (k == 9) = false := by simpa using n9
    have b10 : (k == 10) = false := by simpa using n10
    have HBO : Hid (bitsOf k = 0) := Lib.hid (by unfold bitsOf; simp [n2, n3, n4, n5, n6, n7, n8, n9])
    clear n1 n2 n3 n4 n5 n6 n7 n8 n9 n10 hk
    go_enter Tryd.func43, Tryd.ntmps43
    go_wp2_with fail
    go_ret2
    exact ⟨by rw [HBO.out]; rfl, rfl⟩
theorem heap_new2 (w : World) (o1 o2 : Obj) : ((w.alloc o1).alloc o2).heap[w.heap.size + 1]? = some o2 := by
  have h := heap_alloc_new (w.alloc o1) o2
  rw [show (w.alloc o1).heap.size = w.heap.size + 1 by simp] at h
  exact h
/-- A command as a value. -/
def cmV (c : Cm) : Value := .agg #[.int .i64 c.k, .int .i64 c.i, .int .i64 c.m, .int .i64 c.o, .int .i64 c.s, .int .i64 c.q, .int .i64 c.p]
def fnOf (j : Nat) : Nat := if j = 0 then 59 else if j = 1 then 60 else if j = 2 then 61 else if j = 3 then 62 else if j = 4 then 63 else 64
def vfn (j : Nat) : Value := .func (.func (fnOf j)) #[] #[]
def vCells (c : Cm) : Array Value := #[.int .i64 1, .int .i64 c.i, vfn 0, .int .i64 2, .int .i64 c.m, vfn 1, .int .i64 4, .int .i64 c.o, vfn 2, .int .i64 8, .int .i64 c.s, vfn 3, .int .i64 16, .int .i64 c.q, vfn 4, .int .i64 32, .int .i64 c.p, vfn 5]
abbrev TV : TypeId := 86
set_option maxRecDepth 100000 in
set_option maxHeartbeats 1600000 in
theorem values_any (c : Cm) (w : World) : Calls Tryd.prog 44 #[cmV c] w fun e w' => ∃ g, w.heap.size ≤ g ∧ e = .returned (.slice (some ⟨g, 0, none⟩) 6 6) ∧ w'.heap[g]? = some (.cells (vCells c) TV (0, 0)) ∧ Below w.heap.size w w' := by
  obtain ⟨k, i, m, o, s, q, p⟩ := c
  unfold cmV
  go_enter Tryd.func44, Tryd.ntmps44
  go_wp2_with fail
  go_ret
  refine ⟨w.heap.size + 1, by omega, rfl, ?_, ((Below.refl _ _).alloc (Nat.le_refl _) _).alloc (by simp) _⟩
  exact heap_new2 w _ _
end Go.Proofs.YtmplokdbbhlomaaDoor
