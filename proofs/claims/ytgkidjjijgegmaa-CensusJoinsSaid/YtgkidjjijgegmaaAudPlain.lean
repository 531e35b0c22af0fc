/-
  Events, and what has its form, in plain Lean: no program.
-/
import Derived.Test.YtgkidjjijgegmaaMem
namespace Go.Proofs.Ytgkidjjijgegmaa
open Go.RowKit

/-- An event: its five numbers. -/
structure Ev where
  k : Int
  m : Int
  a : Int
  n : Int
  o : Int

def Ev.val (x : Ev) : Value := .agg #[.int .i64 x.k, .int .i64 x.m, .int .i64 x.a, .int .i64 x.n, .int .i64 x.o]
def Ev.cells (x : Ev) : List Value := [.int .i64 x.k, .int .i64 x.m, .int .i64 x.a, .int .i64 x.n, .int .i64 x.o]

def hasM (k : Int) : Bool := decide (4 ≤ k ∧ k ≤ 15) || decide (17 ≤ k ∧ k ≤ 19)
def hasA (k : Int) : Bool := decide (4 ≤ k ∧ k ≤ 6) || decide (k = 9) || decide (11 ≤ k ∧ k ≤ 14) || decide (k = 16)
def hasN (k : Int) : Bool := decide (1 ≤ k ∧ k ≤ 6) || decide (9 ≤ k ∧ k ≤ 19)
def hasO (k : Int) : Bool := decide (k = 1) || decide (k = 7) || decide (10 ≤ k ∧ k ≤ 12) || decide (k = 19)
def hasI (k : Int) : Bool := decide (1 ≤ k ∧ k ≤ 19)
def hasB (k : Int) : Int := (if hasM k then 1 else 0) + (if hasA k then 2 else 0) + (if hasN k then 4 else 0) + (if hasO k then 8 else 0)

def memB (ms : Int) (x : Ev) : Bool := if x.k = 10 ∧ (x.o = 3 ∨ x.o = 4) then decide (x.m = 0) else decide (1 ≤ x.m ∧ x.m ≤ ms)
def amtB (x : Ev) : Bool := if x.k = 1 then decide (0 ≤ x.n ∧ x.n ≤ 5) else if x.k = 2 ∨ x.k = 3 then true else if x.k = 4 then decide (x.n ≠ 0) else decide (0 < x.n)
def othB (x : Ev) : Bool := if x.k = 7 then decide (x.o = 1 ∨ x.o = 2) else if x.k = 10 then decide (x.o = 8 ∨ x.o = 9 ∨ x.o = 3 ∨ x.o = 4) else decide (0 ≤ x.o)
def assB (ss : Int) (x : Ev) : Bool := decide (0 ≤ x.a ∧ x.a ≤ ss)
/-- One part of the form: it may be, where the kind has it; else it is 0. -/
def partB (has may zero : Bool) : Bool := if has then may else zero
/-- An event has its form. -/
def rightB (ms ss : Int) (x : Ev) : Bool :=
  hasI x.k && partB (hasM x.k) (memB ms x) (decide (x.m = 0)) && partB (hasA x.k) (assB ss x) (decide (x.a = 0)) && partB (hasN x.k) (amtB x) (decide (x.n = 0)) && partB (hasO x.k) (othB x) (decide (x.o = 0))
end Go.Proofs.Ytgkidjjijgegmaa
