/-
  Scripts as lines, in plain Lean.
-/
import Derived.Lib.ItoaNum
import Derived.Test.YtmplokdbbhlomaaGreatDoorSrA
namespace Go.Proofs.YtmplokdbbhlomaaGreatDoor

def wordL (n : Nat) : List UInt8 :=
  if n = 1 then [111, 112, 101, 110] else if n = 2 then [116, 114, 97, 100, 101] else if n = 3 then [99, 97, 110, 99, 101, 108] else if n = 4 then [112, 97, 121] else if n = 5 then [100, 101, 108, 105, 118, 101, 114]
  else if n = 6 then [114, 101, 99, 97, 108, 108] else if n = 7 then [98, 105, 100] else if n = 8 then [116, 111, 112] else if n = 9 then [100, 114, 97, 119] else if n = 10 then [116, 105, 99, 107] else []
theorem wordL_len (n : Nat) : (wordL n).length ≤ 7 := by
  unfold wordL
  repeat' split
  all_goals decide
def fuseW : List UInt8 := [102, 117, 115, 101]
def crashW : List UInt8 := [99, 114, 97, 115, 104]
/-- The word and the numbers of a step's line. -/
def wordS (x : St) : List UInt8 := if x.k = 2 then fuseW else if x.k = 3 then crashW else wordL x.c.k.toNat
def numsS (x : St) : List Int := if x.k = 2 then [x.n] else if x.k = 3 then [x.n] else (jsOf x.c.k).map x.c.get
def numL (n : Int) : List UInt8 := 32 :: Lib.itoa n
/-- A step's line. -/
def lineS (x : St) : List UInt8 := wordS x ++ (numsS x).flatMap numL
def printL (l : List St) : List UInt8 := l.flatMap fun x => lineS x ++ [10]
theorem numsS_len (x : St) : (numsS x).length ≤ 6 := by
  unfold numsS
  repeat' split
  all_goals first | (rw [List.length_map]; exact jsOf_len _) | simp
theorem numsS_in {x : St} (h : StOk x) : ∀ n ∈ numsS x, I64 n := by
  intro n hn
  unfold numsS at hn
  split at hn
  · simp at hn; subst hn; exact h.2.2
  · split at hn
    · simp at hn; subst hn; exact h.2.2
    · obtain ⟨j, _, rfl⟩ := List.mem_map.1 hn
      exact get_ok h.2.1 j
theorem decDigits_len : ∀ (d u : Nat), u < 10 ^ (d + 1) → (Lib.decDigits u).length ≤ d + 1
  | 0, u, h => by
    unfold Lib.decDigits
    rw [dif_pos (by simpa using h)]
    simp
  | d + 1, u, h => by
    unfold Lib.decDigits
    split
    · simp
    · rw [List.length_append]
      have := decDigits_len d (u / 10) (by
        have e : (10 : Nat) ^ (d + 1 + 1) = 10 ^ (d + 1) * 10 := Nat.pow_succ ..
        omega)
      simp
      omega
theorem itoa_len {n : Int} (h : I64 n) : (Lib.itoa n).length ≤ 20 := by
  unfold I64 at h
  have e : (10 : Nat) ^ (18 + 1) = 10000000000000000000 := by decide
  unfold Lib.itoa
  split
  · have := decDigits_len 18 n.natAbs (by omega)
    simp
    omega
  · have := decDigits_len 18 n.toNat (by omega)
    omega
theorem numL_len {n : Int} (h : I64 n) : (numL n).length ≤ 21 := by
  have := itoa_len h
  unfold numL
  simp
  omega
theorem nums_flat_len : ∀ (l : List Int), (∀ n ∈ l, I64 n) → (l.flatMap numL).length ≤ 21 * l.length
  | [], _ => by simp
  | n :: l, h => by
    have h1 := nums_flat_len l fun m hm => h m (List.mem_cons_of_mem _ hm)
    have h2 := numL_len (h n (List.mem_cons_self ..))
    rw [List.flatMap_cons, List.length_append, List.length_cons]
    omega
theorem wordS_len (x : St) : (wordS x).length ≤ 7 := by
  unfold wordS
  repeat' split
  · decide
  · decide
  · exact wordL_len _
theorem lineS_len {x : St} (h : StOk x) : (lineS x).length ≤ 133 := by
  have h1 := wordS_len x
  have h2 := nums_flat_len (numsS x) (numsS_in h)
  have h3 := numsS_len x
  unfold lineS
  rw [List.length_append]
  omega
theorem printL_len : ∀ (l : List St), (∀ x ∈ l, StOk x) → (printL l).length ≤ 134 * l.length
  | [], _ => by simp [printL]
  | x :: l, h => by
    have h1 := printL_len l fun y hy => h y (List.mem_cons_of_mem _ hy)
    have h2 := lineS_len (h x (List.mem_cons_self ..))
    unfold printL at *
    rw [List.flatMap_cons, List.length_append, List.length_append, List.length_cons]
    simp only [List.length_cons, List.length_nil]
    omega
end Go.Proofs.YtmplokdbbhlomaaGreatDoor
