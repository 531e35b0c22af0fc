/-
  The document's table of letters, in plain Lean: what it comes to is what the bits come to.
-/
import Derived.Test.YtmplokdbbhlomaaDoorSr3
namespace Go.Proofs.YtmplokdbbhlomaaDoor
open Go.RowKit

def lett (j : Nat) : Nat := if j = 0 then 105 else if j = 1 then 109 else if j = 2 then 111 else if j = 3 then 115 else if j = 4 then 113 else 112
/-- What a kind has, in order. -/
def jsOf (k : Int) : List Nat := six.filter (hasB k)
def lettersOf (k : Int) : List UInt8 := if isK k then (jsOf k).map (fun j => (lett j).toUInt8) else [63]
theorem jsOf_lt {k : Int} {j : Nat} (h : j ∈ jsOf k) : j < 6 := by
  have h6 : j ∈ six := (List.mem_filter.1 h).1
  simp [six] at h6
  omega
theorem jsOf_len (k : Int) : (jsOf k).length ≤ 6 := List.length_filter_le _ _
theorem lett_toNat (j : Nat) : (lett j).toUInt8.toNat = lett j := toUInt8_nat (by
  unfold lett
  repeat' split
  all_goals decide)
theorem letters_len {k : Int} (h : isK k = true) : (lettersOf k).length = (jsOf k).length := by
  unfold lettersOf
  rw [if_pos h, List.length_map]
theorem letters_at {k : Int} (h : isK k = true) {i : Nat} (hi : i < (jsOf k).length) : ∃ c, (bs (lettersOf k))[i]'(by rw [bs_size, letters_len h]; exact hi) = c ∧ c.toNat = lett ((jsOf k)[i]) := by
  refine ⟨_, rfl, ?_⟩
  have e : lettersOf k = (jsOf k).map (fun j => (lett j).toUInt8) := by unfold lettersOf; rw [if_pos h]
  have e2 : (bs (lettersOf k))[i]'(by rw [bs_size, letters_len h]; exact hi) = (lettersOf k)[i]'(by rw [letters_len h]; exact hi) := rfl
  rw [e2]
  simp only [e, List.getElem_map]
  exact lett_toNat _
/-- The table's word for no kind. -/
theorem letters_none {k : Int} : (bs (lettersOf k) == bs [63]) = !isK k := by
  by_cases h : isK k = true
  · rw [h]
    rcases isK_cases h with rfl | rfl | rfl | rfl | rfl | rfl | rfl | rfl | rfl | rfl
    all_goals decide
  · have h2 : isK k = false := by simpa using h
    unfold lettersOf
    rw [h2, if_neg (by decide)]
    decide
/-- What is left of a command, without what its kind has. -/
def restOf (c : Cm) : Cm := (jsOf c.k).foldl (fun d j => d.set j 0) { c with k := 0 }
theorem rest_right {c : Cm} (h : isK c.k = true) : decide (restOf c = zeroC) = rightC c := by
  obtain ⟨k, i, m, o, s, q, p⟩ := c
  unfold rightC
  simp only at h
  rw [show isK (Cm.mk k i m o s q p).k = true from h]
  have hd : ∀ a b c d e f g : Int, decide (Cm.mk a b c d e f g = zeroC) = (a == 0 && (b == 0 && (c == 0 && (d == 0 && (e == 0 && (f == 0 && g == 0)))))) := by
    intro a b c d e f g
    unfold zeroC
    simp only [Cm.mk.injEq, Bool.decide_and]
    rfl
  rcases isK_cases h with rfl | rfl | rfl | rfl | rfl | rfl | rfl | rfl | rfl | rfl
  all_goals (simp [restOf, jsOf, six, hasB, Cm.set, hd, List.range_succ, Cm.get] <;> try rfl)
theorem rest_step (c0 : Cm) (js : List Nat) {i : Nat} (hi : i < js.length) : (js.take (i + 1)).foldl (fun d j => Cm.set d j 0) c0 = ((js.take i).foldl (fun d j => Cm.set d j 0) c0).set js[i] 0 := by
  rw [List.take_succ_eq_append_getElem hi, List.foldl_append]
  rfl
/-- The bytes of what a kind has. -/
def putJ (c : Cm) (js : List Nat) : List UInt8 := js.flatMap fun j => putN (c.get j)
theorem putJ_step (c : Cm) (js : List Nat) {i : Nat} (hi : i < js.length) : putJ c (js.take (i + 1)) = putJ c (js.take i) ++ putN (c.get js[i]) := by
  unfold putJ
  rw [List.take_succ_eq_append_getElem hi, List.flatMap_append]
  simp
theorem putJ_all (c : Cm) : putN c.k ++ putJ c (jsOf c.k) = putC c := by
  unfold putC putJ putF jsOf
  congr 1
  generalize six = l
  induction l with
  | nil => rfl
  | cons j l ih =>
    rw [List.flatMap_cons, ← ih]
    by_cases h : hasB c.k j = true
    · rw [List.filter_cons_of_pos h, List.flatMap_cons, if_pos h]
    · rw [List.filter_cons_of_neg h, if_neg h]
      rfl
theorem putJ_len {c : Cm} (hc : CmOk c) : ∀ js : List Nat, (putJ c js).length ≤ 10 * js.length
  | [] => by simp [putJ]
  | j :: js => by
    have h1 := putJ_len hc js
    have h2 := putN_len (get_ok hc j)
    unfold putJ at h1 ⊢
    rw [List.flatMap_cons, List.length_append, List.length_cons]
    omega
/-- Values read in order. -/
def rdJ : List Nat → Cm → Rd → Cm × Rd
  | [], c, r => (c, r)
  | j :: js, c, r => rdJ js (c.set j (rNum r).1) (rNum r).2
theorem rdJ_all (k : Int) : ∀ (l : List Nat) (c : Cm) (r : Rd), c.k = k → rdJ (l.filter (hasB k)) c r = rdF l c r
  | [], _, _, _ => rfl
  | j :: l, c, r, h => by
    unfold rdF
    rw [h]
    by_cases hb : hasB k j = true
    · rw [List.filter_cons_of_pos hb, if_pos hb]
      exact rdJ_all k l _ _ (by rw [set_k]; exact h)
    · rw [List.filter_cons_of_neg hb, if_neg hb]
      exact rdJ_all k l _ _ h
theorem rdJ_snoc : ∀ (js : List Nat) (c : Cm) (r : Rd) (j : Nat), rdJ (js ++ [j]) c r = ((rdJ js c r).1.set j (rNum (rdJ js c r).2).1, (rNum (rdJ js c r).2).2)
  | [], _, _, _ => rfl
  | i :: js, c, r, j => by
    show rdJ (js ++ [j]) _ _ = _
    rw [rdJ_snoc js]
    rfl
theorem rdJ_step (c : Cm) (r : Rd) (js : List Nat) {i : Nat} (hi : i < js.length) : rdJ (js.take (i + 1)) c r = ((rdJ (js.take i) c r).1.set js[i] (rNum (rdJ (js.take i) c r).2).1, (rNum (rdJ (js.take i) c r).2).2) := by
  rw [List.take_succ_eq_append_getElem hi]
  exact rdJ_snoc _ _ _ _
end Go.Proofs.YtmplokdbbhlomaaDoor
