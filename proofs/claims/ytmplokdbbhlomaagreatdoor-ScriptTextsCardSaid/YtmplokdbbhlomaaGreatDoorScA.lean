/-
  Several texts in one: ScN, ScR, ScS.
-/
import Derived.Lib.Varint
import Derived.Test.YtmplokdbbhlomaaGreatDoorMoneyDef
/-
  Numbers as bytes, in plain Lean: what is put is got, and what is got was put.
-/
namespace Go.Proofs.YtmplokdbbhlomaaGreatDoor

def unzig (z : Nat) : Int := if z % 2 = 0 then ((z / 2 : Nat) : Int) else -((z / 2 : Nat) : Int) - 1
theorem unzig_zigzag (n : Int) : unzig (Lib.zigzag n) = n := by
  unfold unzig Lib.zigzag
  split <;> split <;> omega
theorem zigzag_unzig (z : Nat) : Lib.zigzag (unzig z) = z := by
  unfold unzig Lib.zigzag
  split <;> split <;> omega

theorem zig_lt {n : Int} (h : I64 n) : Lib.zigzag n < 18446744073709551616 := by
  unfold Lib.zigzag
  unfold I64 at h
  split <;> omega
theorem unzig_in {z : Nat} (h : z < 18446744073709551616) : I64 (unzig z) := by
  unfold unzig I64
  split <;> omega
/-- A number's bytes. -/
def putN (n : Int) : List UInt8 := Lib.uvarint (Lib.zigzag n)
theorem putN_len {n : Int} (h : I64 n) : (putN n).length ≤ 10 := Lib.uvarint_length64 (zig_lt h)
theorem putN_pos (n : Int) : 1 ≤ (putN n).length := Lib.uvarint_pos _
/-- i bytes have been read, z is what they spell: the number, the rest, the error. -/
def getFrom : List UInt8 → Nat → Nat → Int × List UInt8 × Int
  | [], i, _ => if 10 ≤ i then (0, [], 3) else (0, [], 4)
  | c :: s, i, z => if 10 ≤ i then (0, [], 3) else if i = 9 ∧ 1 < c.toNat then (0, [], 3) else
    if c.toNat < 128 then (if c.toNat = 0 ∧ 0 < i then (0, [], 3) else (unzig (z + c.toNat * 2 ^ (7 * i)), s, 0)) else getFrom s (i + 1) (z + c.toNat % 128 * 2 ^ (7 * i))
def getB (s : List UInt8) : Int × List UInt8 × Int := getFrom s 0 0
theorem pow_step (i : Nat) : 2 ^ (7 * (i + 1)) = 128 * 2 ^ (7 * i) := by
  rw [show 7 * (i + 1) = 7 + 7 * i by omega, Nat.pow_add]
theorem top_step {i : Nat} (h : i ≤ 8) : 2 ^ (64 - 7 * i) = 128 * 2 ^ (64 - 7 * (i + 1)) := by
  rw [show 64 - 7 * i = 7 + (64 - 7 * (i + 1)) by omega, Nat.pow_add]
theorem toUInt8_nat {n : Nat} (h : n < 256) : (n.toUInt8).toNat = n := by
  show (UInt8.ofNat n).toNat = n
  rw [UInt8.toNat_ofNat']
  omega
theorem getFrom_put (r : List UInt8) : ∀ (n y i z : Nat), y ≤ n → i ≤ 9 → y < 2 ^ (64 - 7 * i) → (0 < i → 0 < y) → getFrom (Lib.uvarint y ++ r) i z = (unzig (z + y * 2 ^ (7 * i)), r, 0) := by
  intro n
  induction n with
  | zero =>
    intro y i z hy hi hlt hp
    obtain rfl : y = 0 := by omega
    rw [Lib.uvarint_small (by omega)]
    have h0 : ¬ 0 < i := fun h => by have := hp h; omega
    obtain rfl : i = 0 := by omega
    simp [getFrom]
  | succ n ih =>
    intro y i z hy hi hlt hp
    by_cases h128 : y < 128
    · rw [Lib.uvarint_small h128]
      have hc : (y.toUInt8).toNat = y := toUInt8_nat (by omega)
      rw [List.cons_append, List.nil_append]
      unfold getFrom
      rw [hc, if_neg (by omega), if_neg, if_pos h128, if_neg]
      · rintro ⟨h1, h2⟩
        have := hp h2
        omega
      · rintro ⟨rfl, h2⟩
        have : (2 : Nat) ^ (64 - 7 * 9) = 2 := by decide
        omega
    · rw [Lib.uvarint_big (by omega)]
      have hc : ((y % 128 + 128).toUInt8).toNat = y % 128 + 128 := toUInt8_nat (by omega)
      rw [List.cons_append]
      have hi8 : i ≤ 8 := by
        apply Classical.byContradiction
        intro h
        obtain rfl : i = 9 := by omega
        have : (2 : Nat) ^ (64 - 7 * 9) = 2 := by decide
        omega
      unfold getFrom
      rw [hc, if_neg (by omega), if_neg (by omega), if_neg (by omega)]
      have ht := top_step hi8
      rw [ih (y / 128) (i + 1) _ (by omega) (by omega) (by rw [ht] at hlt; omega) (by omega), pow_step]
      congr 2
      have e : (y % 128 + 128) % 128 = y % 128 := by omega
      rw [e, Nat.add_assoc]
      congr 1
      have h2 : y = 128 * (y / 128) + y % 128 := (Nat.div_add_mod y 128).symm
      generalize 2 ^ (7 * i) = p
      generalize y / 128 = a at *
      generalize y % 128 = b at *
      subst h2
      rw [Nat.add_mul, Nat.mul_comm 128 a, Nat.mul_assoc, Nat.add_comm]
theorem get_put {n : Int} (h : I64 n) (r : List UInt8) : getB (putN n ++ r) = (n, r, 0) := by
  unfold getB putN
  rw [getFrom_put r _ _ 0 0 (Nat.le_refl _) (by omega) (by have := zig_lt h; simpa using this) (by omega)]
  simp [unzig_zigzag]
theorem getFrom_got (r : List UInt8) (n : Int) : ∀ (s : List UInt8) (i z : Nat), i ≤ 9 → getFrom s i z = (n, r, 0) → ∃ y, n = unzig (z + y * 2 ^ (7 * i)) ∧ s = Lib.uvarint y ++ r ∧ y < 2 ^ (64 - 7 * i) ∧ (0 < i → 0 < y) := by
  intro s
  induction s with
  | nil =>
    intro i z hi h
    unfold getFrom at h
    rw [if_neg (by omega)] at h
    injection h with _ h
    injection h with _ h
    cases h
  | cons c s ih =>
    intro i z hi h
    unfold getFrom at h
    rw [if_neg (by omega)] at h
    split at h
    · injection h with _ h
      injection h with _ h
      cases h
    rename_i h9
    split at h
    · rename_i h128
      split at h
      · injection h with _ h
        injection h with _ h
        cases h
      · rename_i h0
        injection h with h1 h2
        injection h2 with h2 _
        refine ⟨c.toNat, h1.symm, ?_, ?_, fun hi0 => ?_⟩
        · rw [Lib.uvarint_small h128, ← h2]
          congr 1
          simp
        · by_cases e : i = 9
          · subst e
            have : (2 : Nat) ^ (64 - 7 * 9) = 2 := by decide
            rw [this]
            have : ¬ 1 < c.toNat := fun hh => h9 ⟨rfl, hh⟩
            omega
          · have h7 : (2 : Nat) ^ 7 ≤ 2 ^ (64 - 7 * i) := Nat.pow_le_pow_right (by decide) (by omega)
            omega
        · apply Classical.byContradiction
          intro hc
          exact h0 ⟨by omega, hi0⟩
    · rename_i h128
      have hc := c.toNat_lt
      have hi8 : i ≤ 8 := by
        apply Classical.byContradiction
        intro hh
        obtain rfl : i = 9 := by omega
        exact h9 ⟨rfl, by omega⟩
      obtain ⟨y, h1, h2, h3, h4⟩ := ih (i + 1) _ (by omega) h
      have hy := h4 (by omega)
      refine ⟨c.toNat % 128 + 128 * y, ?_, ?_, ?_, fun _ => by omega⟩
      · rw [h1, pow_step]
        congr 1
        generalize 2 ^ (7 * i) = p
        rw [Nat.add_mul, Nat.add_assoc]
        congr 2
        rw [Nat.mul_comm 128 y, Nat.mul_assoc]
      · rw [Lib.uvarint_big (by omega), h2]
        have e1 : (c.toNat % 128 + 128 * y) % 128 + 128 = c.toNat := by omega
        have e2 : (c.toNat % 128 + 128 * y) / 128 = y := by omega
        rw [e1, e2]
        simp
      · rw [top_step hi8]
        omega
theorem get_got {s r : List UInt8} {n : Int} (h : getB s = (n, r, 0)) : s = putN n ++ r ∧ I64 n := by
  obtain ⟨y, h1, h2, h3, _⟩ := getFrom_got r n s 0 0 (by omega) h
  have e : n = unzig y := by simpa using h1
  have h4 : y < 18446744073709551616 := by simpa using h3
  refine ⟨?_, by rw [e]; exact unzig_in h4⟩
  unfold putN
  rw [e, zigzag_unzig]
  exact h2
end Go.Proofs.YtmplokdbbhlomaaGreatDoor

/-
  A reader of bytes, in plain Lean; commands as bytes: what is put is got, and what is got was put.
-/
namespace Go.Proofs.YtmplokdbbhlomaaGreatDoor

/-- What is left to be read, and the first error. -/
structure Rd where
  s : List UInt8
  e : Int
def rTake (may : Int → Bool) (r : Rd) : Int × Bool × Rd :=
  if r.e = 0 then
    (if (getB r.s).2.2 = 0 then (if may (getB r.s).1 then ((getB r.s).1, true, ⟨(getB r.s).2.1, 0⟩) else (0, false, ⟨r.s, 3⟩)) else (0, false, ⟨r.s, (getB r.s).2.2⟩))
  else (0, false, r)
def uptoB (most : Int) (n : Int) : Bool := decide (0 ≤ n) && decide (n ≤ most)
def rNum (r : Rd) : Int × Rd := ((rTake (fun _ => true) r).1, (rTake (fun _ => true) r).2.2)
def rUpto (most : Int) (r : Rd) : Int × Rd := ((rTake (uptoB most) r).1, (rTake (uptoB most) r).2.2)
def rText (most : Int) (r : Rd) : List UInt8 × Rd :=
  if (rTake (uptoB most) r).2.1 then
    (if ((rTake (uptoB most) r).2.2.s.length : Int) < (rTake (uptoB most) r).1 then ([], ⟨r.s, 4⟩)
      else ((rTake (uptoB most) r).2.2.s.take (rTake (uptoB most) r).1.toNat, ⟨(rTake (uptoB most) r).2.2.s.drop (rTake (uptoB most) r).1.toNat, (rTake (uptoB most) r).2.2.e⟩))
  else ([], (rTake (uptoB most) r).2.2)
def rEnd (r : Rd) : Int := if r.e = 0 ∧ r.s ≠ [] then 3 else r.e
theorem rTake_bad {may : Int → Bool} {r : Rd} (h : r.e ≠ 0) : rTake may r = (0, false, r) := by unfold rTake; rw [if_neg h]
theorem rTake_put {may : Int → Bool} {n : Int} (h : I64 n) (hm : may n = true) (s : List UInt8) : rTake may ⟨putN n ++ s, 0⟩ = (n, true, ⟨s, 0⟩) := by
  unfold rTake
  simp only [get_put h]
  simp [hm]
theorem rTake_got {may : Int → Bool} {r r' : Rd} {n : Int} {b : Bool} (h : rTake may r = (n, b, r')) (he : r'.e = 0) : r.e = 0 ∧ b = true ∧ r.s = putN n ++ r'.s ∧ I64 n ∧ may n = true := by
  unfold rTake at h
  by_cases h0 : r.e = 0
  · rw [if_pos h0] at h
    by_cases h1 : (getB r.s).2.2 = 0
    · rw [if_pos h1] at h
      by_cases h2 : may (getB r.s).1 = true
      · rw [if_pos h2] at h
        injection h with h3 h
        injection h with h4 h5
        have hg := get_got (s := r.s) (r := (getB r.s).2.1) (n := (getB r.s).1) (by rw [← h1])
        subst h3 h4 h5
        exact ⟨h0, rfl, hg.1, hg.2, h2⟩
      · rw [if_neg h2] at h
        injection h with _ h
        injection h with _ h
        rw [← h] at he
        cases he
    · rw [if_neg h1] at h
      injection h with _ h
      injection h with _ h
      rw [← h] at he
      exact absurd he h1
  · rw [if_neg h0] at h
    injection h with _ h
    injection h with _ h
    rw [← h] at he
    exact absurd he h0
theorem rNum_bad {r : Rd} (h : r.e ≠ 0) : rNum r = (0, r) := by unfold rNum; rw [rTake_bad h]
theorem rNum_put {n : Int} (h : I64 n) (s : List UInt8) : rNum ⟨putN n ++ s, 0⟩ = (n, ⟨s, 0⟩) := by unfold rNum; rw [rTake_put h rfl]
theorem rNum_got {r : Rd} (he : (rNum r).2.e = 0) : r.e = 0 ∧ r.s = putN (rNum r).1 ++ (rNum r).2.s ∧ I64 (rNum r).1 := by
  have h := rTake_got (may := fun _ => true) (r := r) (n := (rNum r).1) (b := (rTake (fun _ => true) r).2.1) (r' := (rNum r).2) rfl he
  exact ⟨h.1, h.2.2.1, h.2.2.2.1⟩
theorem rUpto_put {most n : Int} (h : I64 n) (h0 : 0 ≤ n) (h1 : n ≤ most) (s : List UInt8) : rUpto most ⟨putN n ++ s, 0⟩ = (n, ⟨s, 0⟩) := by unfold rUpto; rw [rTake_put h (by simp [uptoB, h0, h1])]
theorem rUpto_got {most : Int} {r : Rd} (he : (rUpto most r).2.e = 0) : r.e = 0 ∧ r.s = putN (rUpto most r).1 ++ (rUpto most r).2.s ∧ I64 (rUpto most r).1 ∧ 0 ≤ (rUpto most r).1 ∧ (rUpto most r).1 ≤ most := by
  have h := rTake_got (may := uptoB most) (r := r) (n := (rUpto most r).1) (b := (rTake (uptoB most) r).2.1) (r' := (rUpto most r).2) rfl he
  have h5 := h.2.2.2.2
  simp [uptoB] at h5
  exact ⟨h.1, h.2.2.1, h.2.2.2.1, h5.1, h5.2⟩
/-- A text's bytes. -/
def putT (t : List UInt8) : List UInt8 := putN (t.length : Int) ++ t
theorem rText_put {most : Int} {t : List UInt8} (h : (t.length : Int) ≤ most) (hm : most ≤ 1000000) (s : List UInt8) : rText most ⟨putT t ++ s, 0⟩ = (t, ⟨s, 0⟩) := by
  have e : rTake (uptoB most) ⟨putT t ++ s, 0⟩ = ((t.length : Int), true, ⟨t ++ s, 0⟩) := by
    unfold putT
    rw [List.append_assoc]
    exact rTake_put (by unfold I64; omega) (by simp [uptoB, h]) _
  unfold rText
  rw [e]
  simp only [if_true]
  rw [if_neg (by rw [List.length_append]; omega)]
  simp
theorem rText_bad {most : Int} {r : Rd} (h : r.e ≠ 0) : rText most r = ([], r) := by
  unfold rText
  rw [rTake_bad h]
  rfl
theorem rText_got {most : Int} {r : Rd} (he : (rText most r).2.e = 0) : r.e = 0 ∧ r.s = putT (rText most r).1 ++ (rText most r).2.s ∧ ((rText most r).1.length : Int) ≤ most := by
  unfold rText at he ⊢
  generalize hT : rTake (uptoB most) r = T at *
  obtain ⟨n, b, r'⟩ := T
  simp only at he ⊢
  cases b with
  | false =>
    simp only [Bool.false_eq_true, if_false] at he ⊢
    have := rTake_got hT he
    exact absurd this.2.1 (by simp)
  | true =>
    simp only [if_true] at he ⊢
    split at he
    · simp at he
    · rename_i hn
      rw [if_neg hn]
      simp only at he
      obtain ⟨h0, _, h1, h2, h3⟩ := rTake_got hT he
      simp [uptoB] at h3
      refine ⟨h0, ?_, ?_⟩
      · show r.s = putT (r'.s.take n.toNat) ++ r'.s.drop n.toNat
        have hl : ((r'.s.take n.toNat).length : Int) = n := by rw [List.length_take]; omega
        unfold putT
        rw [hl, List.append_assoc, List.take_append_drop]
        exact h1
      · show ((r'.s.take n.toNat).length : Int) ≤ most
        rw [List.length_take]
        omega
/-- A command. -/
structure Cm where
  k : Int
  i : Int
  m : Int
  o : Int
  s : Int
  q : Int
  p : Int
def zeroC : Cm := ⟨0, 0, 0, 0, 0, 0, 0⟩
def Cm.get (c : Cm) (j : Nat) : Int := if j = 0 then c.i else if j = 1 then c.m else if j = 2 then c.o else if j = 3 then c.s else if j = 4 then c.q else c.p
def Cm.set (c : Cm) (j : Nat) (n : Int) : Cm := if j = 0 then { c with i := n } else if j = 1 then { c with m := n } else if j = 2 then { c with o := n } else if j = 3 then { c with s := n } else if j = 4 then { c with q := n } else { c with p := n }
def CmOk (c : Cm) : Prop := I64 c.k ∧ I64 c.i ∧ I64 c.m ∧ I64 c.o ∧ I64 c.s ∧ I64 c.q ∧ I64 c.p
/-- Has a kind this value? -/
def hasB (k : Int) (j : Nat) : Bool :=
  if j = 0 then k == 2 || k == 3 else if j = 1 then k == 2 || decide (4 ≤ k) && decide (k ≤ 9) else if j = 2 then k == 2 else if j = 3 then k == 2 || k == 5 || k == 6 || k == 7
  else if j = 4 then k == 2 || decide (4 ≤ k) && decide (k ≤ 9) else k == 2 || k == 7
def isK (k : Int) : Bool := decide (1 ≤ k) && decide (k ≤ 10)
/-- Has a command its form? -/
def rightC (c : Cm) : Bool := isK c.k && (List.range 6).all fun j => hasB c.k j || c.get j == 0
def putF (c : Cm) (js : List Nat) : List UInt8 := js.flatMap fun j => if hasB c.k j then putN (c.get j) else []
def six : List Nat := [0, 1, 2, 3, 4, 5]
def putC (c : Cm) : List UInt8 := putN c.k ++ putF c six
def rdF : List Nat → Cm → Rd → Cm × Rd
  | [], c, r => (c, r)
  | j :: js, c, r => if hasB c.k j then rdF js (c.set j (rNum r).1) (rNum r).2 else rdF js c r
def readC (r : Rd) : Cm × Int × Rd :=
  if (rNum r).2.e = 0 then
    (if isK (rNum r).1 then
      (if (rdF six ⟨(rNum r).1, 0, 0, 0, 0, 0, 0⟩ (rNum r).2).2.e = 0 then ((rdF six ⟨(rNum r).1, 0, 0, 0, 0, 0, 0⟩ (rNum r).2).1, 0, (rdF six ⟨(rNum r).1, 0, 0, 0, 0, 0, 0⟩ (rNum r).2).2) else (zeroC, (rdF six ⟨(rNum r).1, 0, 0, 0, 0, 0, 0⟩ (rNum r).2).2.e, (rdF six ⟨(rNum r).1, 0, 0, 0, 0, 0, 0⟩ (rNum r).2).2))
    else (zeroC, 3, (rNum r).2))
  else (zeroC, (rNum r).2.e, (rNum r).2)
def getC (s : List UInt8) : Cm × Int :=
  if (readC ⟨s, 0⟩).2.1 = 0 then (if rEnd (readC ⟨s, 0⟩).2.2 = 0 then ((readC ⟨s, 0⟩).1, 0) else (zeroC, rEnd (readC ⟨s, 0⟩).2.2)) else (zeroC, (readC ⟨s, 0⟩).2.1)
theorem set_k (c : Cm) (j : Nat) (n : Int) : (c.set j n).k = c.k := by
  unfold Cm.set
  repeat' split
  all_goals rfl
theorem rdF_bad : ∀ (js : List Nat) (c : Cm) (r : Rd), r.e ≠ 0 → (rdF js c r).2 = r
  | [], _, _, _ => rfl
  | j :: js, c, r, h => by
    unfold rdF
    split
    · rw [rNum_bad h]
      exact rdF_bad js _ r h
    · exact rdF_bad js _ r h
theorem isK_cases {k : Int} (h : isK k = true) : k = 1 ∨ k = 2 ∨ k = 3 ∨ k = 4 ∨ k = 5 ∨ k = 6 ∨ k = 7 ∨ k = 8 ∨ k = 9 ∨ k = 10 := by
  simp [isK] at h
  omega
theorem get_ok {c : Cm} (h : CmOk c) (j : Nat) : I64 (c.get j) := by
  obtain ⟨_, h1, h2, h3, h4, h5, h6⟩ := h
  unfold Cm.get
  repeat' split
  all_goals assumption
/-- Fields read back. -/
theorem rdF_put {c : Cm} (hc : CmOk c) (s : List UInt8) : ∀ (js : List Nat) (d : Cm), d.k = c.k → rdF js d ⟨putF c js ++ s, 0⟩ = (js.foldl (fun d j => if hasB c.k j then d.set j (c.get j) else d) d, ⟨s, 0⟩)
  | [], d, _ => by simp [rdF, putF]
  | j :: js, d, h => by
    unfold rdF
    rw [h]
    by_cases hb : hasB c.k j = true
    · have e : putF c (j :: js) ++ s = putN (c.get j) ++ (putF c js ++ s) := by simp [putF, hb]
      rw [if_pos hb, e, rNum_put (get_ok hc j)]
      rw [rdF_put hc s js _ (by rw [set_k]; exact h)]
      simp [hb]
    · have e : putF c (j :: js) ++ s = putF c js ++ s := by simp [putF, hb]
      rw [if_neg hb, e, rdF_put hc s js _ h]
      simp [hb]
theorem fold_right {c : Cm} (h : rightC c = true) : six.foldl (fun d j => if hasB c.k j then d.set j (c.get j) else d) ⟨c.k, 0, 0, 0, 0, 0, 0⟩ = c := by
  obtain ⟨k, i, m, o, s, q, p⟩ := c
  unfold rightC at h
  rw [Bool.and_eq_true] at h
  obtain ⟨h1, h2⟩ := h
  simp only at h1
  simp [List.range, List.range.loop, Cm.get] at h2
  obtain ⟨a0, a1, a2, a3, a4, a5⟩ := h2
  rcases isK_cases h1 with rfl | rfl | rfl | rfl | rfl | rfl | rfl | rfl | rfl | rfl
  all_goals (simp [hasB] at a0 a1 a2 a3 a4 a5; simp [six, hasB, Cm.set, Cm.get, *])
theorem readC_put {c : Cm} (hc : CmOk c) (h : rightC c = true) (s : List UInt8) : readC ⟨putC c ++ s, 0⟩ = (c, 0, ⟨s, 0⟩) := by
  have hk : isK c.k = true := by
    unfold rightC at h
    rw [Bool.and_eq_true] at h
    exact h.1
  have e : rNum ⟨putC c ++ s, 0⟩ = (c.k, ⟨putF c six ++ s, 0⟩) := by
    unfold putC
    rw [List.append_assoc]
    exact rNum_put hc.1 _
  unfold readC
  rw [e]
  simp only [if_true, hk]
  have e2 := rdF_put hc s six ⟨c.k, 0, 0, 0, 0, 0, 0⟩ rfl
  rw [fold_right h] at e2
  rw [e2]
  rfl
theorem getC_put {c : Cm} (hc : CmOk c) (h : rightC c = true) : getC (putC c) = (c, 0) := by
  have e := readC_put hc h []
  rw [List.append_nil] at e
  unfold getC
  rw [e]
  simp [rEnd]
theorem set_ok {c : Cm} (h : CmOk c) (j : Nat) {n : Int} (hn : I64 n) : CmOk (c.set j n) := by
  obtain ⟨d0, d1, d2, d3, d4, d5, d6⟩ := h
  unfold Cm.set
  repeat' split
  all_goals exact ⟨by assumption, by assumption, by assumption, by assumption, by assumption, by assumption, by assumption⟩
theorem get_set (c : Cm) {j j' : Nat} (hj : j < 6) (hj' : j' < 6) (n : Int) : (c.set j n).get j' = if j' = j then n else c.get j' := by
  unfold Cm.set Cm.get
  obtain rfl | rfl | rfl | rfl | rfl | rfl : j = 0 ∨ j = 1 ∨ j = 2 ∨ j = 3 ∨ j = 4 ∨ j = 5 := by omega
  all_goals (obtain rfl | rfl | rfl | rfl | rfl | rfl : j' = 0 ∨ j' = 1 ∨ j' = 2 ∨ j' = 3 ∨ j' = 4 ∨ j' = 5 := by omega)
  all_goals simp
/-- Fields that were read had been put. -/
theorem rdF_got (k : Int) : ∀ (js : List Nat) (d : Cm) (r : Rd), (∀ j ∈ js, j < 6) → d.k = k → js.Nodup → (rdF js d r).2.e = 0 → CmOk d →
    r.e = 0 ∧ r.s = putF (rdF js d r).1 js ++ (rdF js d r).2.s ∧ (rdF js d r).1.k = k ∧ CmOk (rdF js d r).1 ∧ ∀ j, j < 6 → (j ∉ js ∨ hasB k j = false) → (rdF js d r).1.get j = d.get j
  | [], d, r, _, h, _, he, hd => ⟨he, by simp [rdF, putF], h, hd, fun _ _ _ => rfl⟩
  | j :: js, d, r, h6, h, hn, he, hd => by
    obtain ⟨hn1, hn2⟩ := List.nodup_cons.1 hn
    have hj6 := h6 j (List.mem_cons_self ..)
    have h6' := fun j hj => h6 j (List.mem_cons_of_mem _ hj)
    by_cases hb : hasB k j = true
    · have hr : rdF (j :: js) d r = rdF js (d.set j (rNum r).1) (rNum r).2 := by
        rw [rdF, h, if_pos hb]
      rw [hr] at he ⊢
      by_cases h0 : (rNum r).2.e = 0
      case neg =>
        rw [rdF_bad js _ _ h0] at he
        exact absurd he h0
      obtain ⟨g1, g2, g3⟩ := rNum_got h0
      obtain ⟨i1, i2, i3, i4, i5⟩ := rdF_got k js (d.set j (rNum r).1) (rNum r).2 h6' (by rw [set_k]; exact h) hn2 he (set_ok hd j g3)
      have hg : (rdF js (d.set j (rNum r).1) (rNum r).2).1.get j = (rNum r).1 := by
        rw [i5 j hj6 (.inl hn1), get_set _ hj6 hj6, if_pos rfl]
      refine ⟨g1, ?_, i3, i4, fun j' hj' hor => ?_⟩
      · have e : putF (rdF js (d.set j (rNum r).1) (rNum r).2).1 (j :: js) = putN (rNum r).1 ++ putF (rdF js (d.set j (rNum r).1) (rNum r).2).1 js := by
          unfold putF
          rw [List.flatMap_cons, i3, hb, if_pos rfl, hg]
        rw [e, List.append_assoc, ← i2]
        exact g2
      · have hne : j' ≠ j := by
          rintro rfl
          rcases hor with h1 | h1
          · exact h1 (List.mem_cons_self ..)
          · rw [h1] at hb; cases hb
        rw [i5 j' hj' (hor.imp (fun h1 h2 => h1 (List.mem_cons_of_mem _ h2)) id), get_set _ hj6 hj', if_neg hne]
    · have hbf : hasB k j = false := by simpa using hb
      have hr : rdF (j :: js) d r = rdF js d r := by
        rw [rdF, h, if_neg hb]
      rw [hr] at he ⊢
      obtain ⟨i1, i2, i3, i4, i5⟩ := rdF_got k js d r h6' h hn2 he hd
      refine ⟨i1, ?_, i3, i4, fun j' hj' hor => ?_⟩
      · have e : putF (rdF js d r).1 (j :: js) = putF (rdF js d r).1 js := by
          unfold putF
          rw [List.flatMap_cons, i3, hbf]
          rfl
        rw [e]
        exact i2
      · by_cases hne : j' = j
        · subst hne
          exact i5 j' hj' (.inr hbf)
        · refine i5 j' hj' (hor.imp (fun h1 h2 => h1 (List.mem_cons_of_mem _ h2)) id)
theorem readC_got {r : Rd} (he : (readC r).2.1 = 0) : r.e = 0 ∧ r.s = putC (readC r).1 ++ (readC r).2.2.s ∧ (readC r).2.2.e = 0 ∧ rightC (readC r).1 = true ∧ CmOk (readC r).1 := by
  have h0 : (rNum r).2.e = 0 := by
    apply Classical.byContradiction
    intro h
    unfold readC at he
    rw [if_neg h] at he
    exact h he
  have h1 : isK (rNum r).1 = true := by
    apply Classical.byContradiction
    intro h
    unfold readC at he
    rw [if_pos h0, if_neg h] at he
    simp at he
  generalize hD : rdF six ⟨(rNum r).1, 0, 0, 0, 0, 0, 0⟩ (rNum r).2 = D
  have h2 : D.2.e = 0 := by
    apply Classical.byContradiction
    intro h
    unfold readC at he
    rw [if_pos h0, if_pos h1, hD, if_neg h] at he
    exact h he
  have hR : readC r = (D.1, 0, D.2) := by
    unfold readC
    rw [if_pos h0, if_pos h1, hD, if_pos h2]
  obtain ⟨g1, g2, g3⟩ := rNum_got h0
  obtain ⟨i1, i2, i3, i4, i5⟩ := rdF_got (rNum r).1 six ⟨(rNum r).1, 0, 0, 0, 0, 0, 0⟩ (rNum r).2 (by decide) rfl (by decide) (by rw [hD]; exact h2) (by unfold CmOk I64; refine ⟨g3, ?_, ?_, ?_, ?_, ?_, ?_⟩ <;> simp)
  rw [hD] at i2 i3 i4 i5
  rw [hR]
  refine ⟨g1, ?_, h2, ?_, i4⟩
  · show r.s = putC D.1 ++ D.2.s
    unfold putC
    rw [i3, List.append_assoc, ← i2]
    exact g2
  · show rightC D.1 = true
    unfold rightC
    rw [i3, h1, Bool.true_and, List.all_eq_true]
    intro j hj
    have hj6 := List.mem_range.1 hj
    cases hb : hasB (rNum r).1 j with
    | true => rfl
    | false =>
      rw [i5 j hj6 (.inr hb)]
      obtain rfl | rfl | rfl | rfl | rfl | rfl : j = 0 ∨ j = 1 ∨ j = 2 ∨ j = 3 ∨ j = 4 ∨ j = 5 := by omega
      all_goals rfl
theorem rEnd_zero {r : Rd} (h : rEnd r = 0) : r.e = 0 ∧ r.s = [] := by
  unfold rEnd at h
  split at h
  · cases h
  · rename_i h1
    refine ⟨h, ?_⟩
    apply Classical.byContradiction
    intro h2
    exact h1 ⟨h, h2⟩
theorem getC_got {s : List UInt8} (he : (getC s).2 = 0) : s = putC (getC s).1 ∧ rightC (getC s).1 = true ∧ CmOk (getC s).1 := by
  unfold getC at he ⊢
  by_cases h0 : (readC ⟨s, 0⟩).2.1 = 0
  · rw [if_pos h0] at he ⊢
    by_cases h1 : rEnd (readC ⟨s, 0⟩).2.2 = 0
    · rw [if_pos h1]
      obtain ⟨g1, g2, g3, g4, g5⟩ := readC_got h0
      obtain ⟨_, h2⟩ := rEnd_zero h1
      rw [h2, List.append_nil] at g2
      exact ⟨g2, g4, g5⟩
    · rw [if_neg h1] at he
      exact absurd he h1
  · rw [if_neg h0] at he
    exact absurd he h0
theorem putF_len {c : Cm} (hc : CmOk c) : ∀ js : List Nat, (putF c js).length ≤ 10 * js.length
  | [] => by simp [putF]
  | j :: js => by
    have := putF_len hc js
    have h1 := putN_len (get_ok hc j)
    unfold putF at *
    rw [List.flatMap_cons, List.length_append, List.length_cons]
    split
    · omega
    · rw [List.length_nil]
      omega
theorem putC_len {c : Cm} (hc : CmOk c) : (putC c).length ≤ 70 := by
  have h1 := putN_len hc.1
  have h2 := putF_len hc six
  unfold putC
  rw [List.length_append]
  have : six.length = 6 := rfl
  omega
end Go.Proofs.YtmplokdbbhlomaaGreatDoor

/-
  Scripts as bytes, in plain Lean: what is put is got, and what is got was put.
-/
namespace Go.Proofs.YtmplokdbbhlomaaGreatDoor

/-- A step. -/
structure St where
  k : Int
  c : Cm
  n : Int
def zeroS : St := ⟨0, zeroC, 0⟩
instance : DecidableEq Cm := fun a b => by
  cases a; cases b
  simp only [Cm.mk.injEq]
  exact inferInstance
def rightS (x : St) : Bool := if x.k = 1 then decide (x.n = 0) && rightC x.c else decide (x.c = zeroC) && (decide (x.k = 2) && decide (-1 ≤ x.n) || decide (x.k = 3) && decide (0 ≤ x.n))
def StOk (x : St) : Prop := I64 x.k ∧ CmOk x.c ∧ I64 x.n
def putS (x : St) : List UInt8 := if x.k = 1 then putN 0 ++ putT (putC x.c) else putN (x.k - 1) ++ putN x.n
def putL (l : List St) : List UInt8 := putN (l.length : Int) ++ l.flatMap putS
/-- The step that a reader's kind t, its text or number, tell; the error. -/
def stOf (r : Rd) : St × Int × Rd :=
  if (rUpto 2 r).2.e = 0 then
    (if (rUpto 2 r).1 = 0 then
      (if (rText 1024 (rUpto 2 r).2).2.e = 0 then
        (if (getC (rText 1024 (rUpto 2 r).2).1).2 = 0 then (⟨1, (getC (rText 1024 (rUpto 2 r).2).1).1, 0⟩, 0, (rText 1024 (rUpto 2 r).2).2) else (zeroS, 3, (rText 1024 (rUpto 2 r).2).2))
      else (zeroS, (rText 1024 (rUpto 2 r).2).2.e, (rText 1024 (rUpto 2 r).2).2))
    else
      (if (rNum (rUpto 2 r).2).2.e = 0 then (⟨1 + (rUpto 2 r).1, zeroC, (rNum (rUpto 2 r).2).1⟩, 0, (rNum (rUpto 2 r).2).2) else (zeroS, (rNum (rUpto 2 r).2).2.e, (rNum (rUpto 2 r).2).2)))
  else (zeroS, (rUpto 2 r).2.e, (rUpto 2 r).2)
def readS (r : Rd) : St × Int × Rd := if (stOf r).2.1 = 0 then (if rightS (stOf r).1 then stOf r else (zeroS, 3, (stOf r).2.2)) else stOf r
def readL : Nat → Rd → List St × Int × Rd
  | 0, r => ([], 0, r)
  | n + 1, r => if (readS r).2.1 = 0 then (if (readL n (readS r).2.2).2.1 = 0 then ((readS r).1 :: (readL n (readS r).2.2).1, 0, (readL n (readS r).2.2).2.2) else ([], (readL n (readS r).2.2).2.1, (readL n (readS r).2.2).2.2)) else ([], (readS r).2.1, (readS r).2.2)
def getL (s : List UInt8) : List St × Int :=
  if (rUpto 1024 ⟨s, 0⟩).2.e = 0 then
    (if (readL (rUpto 1024 ⟨s, 0⟩).1.toNat (rUpto 1024 ⟨s, 0⟩).2).2.1 = 0 then
      (if rEnd (readL (rUpto 1024 ⟨s, 0⟩).1.toNat (rUpto 1024 ⟨s, 0⟩).2).2.2 = 0 then ((readL (rUpto 1024 ⟨s, 0⟩).1.toNat (rUpto 1024 ⟨s, 0⟩).2).1, 0) else ([], rEnd (readL (rUpto 1024 ⟨s, 0⟩).1.toNat (rUpto 1024 ⟨s, 0⟩).2).2.2))
    else ([], (readL (rUpto 1024 ⟨s, 0⟩).1.toNat (rUpto 1024 ⟨s, 0⟩).2).2.1))
  else ([], (rUpto 1024 ⟨s, 0⟩).2.e)
/-- What is wrong with steps. -/
def wrongL (l : List St) : Int := if 1024 < l.length then 6 else if l.all rightS then 0 else 3
theorem I64_small {n : Int} (h0 : -1000000 ≤ n) (h1 : n ≤ 1000000) : I64 n := by unfold I64; omega
theorem right_kind {x : St} (h : rightS x = true) : x.k = 1 ∨ x.k = 2 ∨ x.k = 3 := by
  unfold rightS at h
  split at h
  · exact .inl (by assumption)
  · simp at h
    omega
theorem stOf_put {x : St} (hx : StOk x) (h : rightS x = true) (s : List UInt8) : stOf ⟨putS x ++ s, 0⟩ = (x, 0, ⟨s, 0⟩) := by
  obtain ⟨k, c, n⟩ := x
  obtain ⟨h1, h2, h3⟩ := hx
  simp only at h1 h2 h3
  have hk := right_kind h
  simp only at hk
  by_cases hk1 : k = 1
  · subst hk1
    unfold rightS at h
    simp at h
    obtain ⟨rfl, hc⟩ := h
    have e1 : rUpto 2 ⟨putS ⟨1, c, 0⟩ ++ s, 0⟩ = (0, ⟨putT (putC c) ++ s, 0⟩) := by
      unfold putS
      rw [if_pos rfl, List.append_assoc]
      exact rUpto_put (I64_small (by omega) (by omega)) (by omega) (by omega) _
    have e2 := rText_put (most := 1024) (t := putC c) (by have := putC_len h2; omega) (by omega) s
    unfold stOf
    rw [e1]
    simp only [if_true]
    rw [e2, getC_put h2 hc]
    rfl
  · have hc : c = zeroC := by
      unfold rightS at h
      rw [if_neg hk1] at h
      simp at h
      exact h.1
    subst hc
    have e1 : rUpto 2 ⟨putS ⟨k, zeroC, n⟩ ++ s, 0⟩ = (k - 1, ⟨putN n ++ s, 0⟩) := by
      unfold putS
      rw [if_neg hk1, List.append_assoc]
      exact rUpto_put (n := k - 1) (I64_small (by omega) (by omega)) (by omega) (by omega) _
    have e2 := rNum_put h3 s
    unfold stOf
    rw [e1]
    simp only [if_true]
    rw [if_neg (by omega), e2]
    simp only [if_true]
    congr 2
    omega
theorem readS_put {x : St} (hx : StOk x) (h : rightS x = true) (s : List UInt8) : readS ⟨putS x ++ s, 0⟩ = (x, 0, ⟨s, 0⟩) := by
  unfold readS
  rw [stOf_put hx h]
  simp [h]
theorem readL_put : ∀ (l : List St) (s : List UInt8), (∀ x ∈ l, StOk x ∧ rightS x = true) → readL l.length ⟨l.flatMap putS ++ s, 0⟩ = (l, 0, ⟨s, 0⟩)
  | [], s, _ => rfl
  | x :: l, s, h => by
    have hx := h x (List.mem_cons_self ..)
    have ih := readL_put l s fun y hy => h y (List.mem_cons_of_mem _ hy)
    rw [List.length_cons, List.flatMap_cons, List.append_assoc]
    unfold readL
    rw [readS_put hx.1 hx.2]
    simp only [if_true]
    rw [ih]
    rfl
theorem getL_put {l : List St} (h : ∀ x ∈ l, StOk x ∧ rightS x = true) (hl : l.length ≤ 1024) : getL (putL l) = (l, 0) := by
  have e1 : rUpto 1024 ⟨putL l, 0⟩ = ((l.length : Int), ⟨l.flatMap putS, 0⟩) := by
    unfold putL
    exact rUpto_put (I64_small (by omega) (by omega)) (by omega) (by omega) _
  have e2 := readL_put l [] h
  rw [List.append_nil] at e2
  unfold getL
  rw [e1]
  simp only [if_true, Int.toNat_natCast]
  rw [e2]
  rfl
theorem zeroC_ok : CmOk zeroC := by unfold CmOk zeroC I64; simp
theorem stOf_got {r : Rd} (he : (stOf r).2.1 = 0) : r.e = 0 ∧ r.s = putS (stOf r).1 ++ (stOf r).2.2.s ∧ (stOf r).2.2.e = 0 ∧ StOk (stOf r).1 := by
  by_cases h0 : (rUpto 2 r).2.e = 0
  case neg =>
    unfold stOf at he
    rw [if_neg h0] at he
    exact absurd he h0
  obtain ⟨g1, g2, g3, g4, g5⟩ := rUpto_got h0
  by_cases ht : (rUpto 2 r).1 = 0
  · by_cases h1 : (rText 1024 (rUpto 2 r).2).2.e = 0
    case neg =>
      unfold stOf at he
      rw [if_pos h0, if_pos ht, if_neg h1] at he
      exact absurd he h1
    by_cases h2 : (getC (rText 1024 (rUpto 2 r).2).1).2 = 0
    case neg =>
      unfold stOf at he
      rw [if_pos h0, if_pos ht, if_pos h1, if_neg h2] at he
      simp at he
    have hR : stOf r = (⟨1, (getC (rText 1024 (rUpto 2 r).2).1).1, 0⟩, 0, (rText 1024 (rUpto 2 r).2).2) := by
      unfold stOf
      rw [if_pos h0, if_pos ht, if_pos h1, if_pos h2]
    obtain ⟨_, t2, t3⟩ := rText_got h1
    obtain ⟨c1, c2, c3⟩ := getC_got h2
    rw [hR]
    refine ⟨g1, ?_, h1, ⟨I64_small (by show (-1000000 : Int) ≤ 1; omega) (by show (1 : Int) ≤ 1000000; omega), c3, I64_small (by show (-1000000 : Int) ≤ 0; omega) (by show (0 : Int) ≤ 1000000; omega)⟩⟩
    show r.s = putS ⟨1, _, 0⟩ ++ _
    unfold putS
    rw [if_pos rfl]
    show r.s = (putN 0 ++ putT (putC (getC (rText 1024 (rUpto 2 r).2).1).1)) ++ _
    rw [← c1, List.append_assoc, ← t2, ← ht]
    exact g2
  · by_cases h1 : (rNum (rUpto 2 r).2).2.e = 0
    case neg =>
      unfold stOf at he
      rw [if_pos h0, if_neg ht, if_neg h1] at he
      exact absurd he h1
    have hR : stOf r = (⟨1 + (rUpto 2 r).1, zeroC, (rNum (rUpto 2 r).2).1⟩, 0, (rNum (rUpto 2 r).2).2) := by
      unfold stOf
      rw [if_pos h0, if_neg ht, if_pos h1]
    obtain ⟨_, t2, t3⟩ := rNum_got h1
    rw [hR]
    refine ⟨g1, ?_, h1, ⟨I64_small (by show (-1000000 : Int) ≤ 1 + _; omega) (by show 1 + _ ≤ (1000000 : Int); omega), zeroC_ok, t3⟩⟩
    show r.s = putS ⟨1 + (rUpto 2 r).1, zeroC, (rNum (rUpto 2 r).2).1⟩ ++ _
    unfold putS
    rw [if_neg (by show ¬ (1 + (rUpto 2 r).1 = 1); omega)]
    show r.s = (putN (1 + (rUpto 2 r).1 - 1) ++ putN (rNum (rUpto 2 r).2).1) ++ _
    rw [List.append_assoc, ← t2, show 1 + (rUpto 2 r).1 - 1 = (rUpto 2 r).1 by omega]
    exact g2
theorem readS_got {r : Rd} (he : (readS r).2.1 = 0) : r.e = 0 ∧ r.s = putS (readS r).1 ++ (readS r).2.2.s ∧ (readS r).2.2.e = 0 ∧ StOk (readS r).1 ∧ rightS (readS r).1 = true := by
  by_cases h0 : (stOf r).2.1 = 0
  case neg =>
    unfold readS at he
    rw [if_neg h0] at he
    exact absurd he h0
  by_cases h1 : rightS (stOf r).1 = true
  case neg =>
    unfold readS at he
    rw [if_pos h0, if_neg h1] at he
    simp at he
  have hR : readS r = stOf r := by
    unfold readS
    rw [if_pos h0, if_pos h1]
  rw [hR]
  obtain ⟨g1, g2, g3, g4⟩ := stOf_got h0
  exact ⟨g1, g2, g3, g4, h1⟩
theorem readL_got : ∀ (n : Nat) (r : Rd), r.e = 0 → (readL n r).2.1 = 0 → r.s = (readL n r).1.flatMap putS ++ (readL n r).2.2.s ∧ (readL n r).2.2.e = 0 ∧ (readL n r).1.length = n ∧ ∀ x ∈ (readL n r).1, StOk x ∧ rightS x = true
  | 0, r, h, _ => ⟨rfl, h, rfl, fun x hx => by cases hx⟩
  | n + 1, r, _, he => by
    by_cases h0 : (readS r).2.1 = 0
    case neg =>
      unfold readL at he
      rw [if_neg h0] at he
      exact absurd he h0
    by_cases h1 : (readL n (readS r).2.2).2.1 = 0
    case neg =>
      unfold readL at he
      rw [if_pos h0, if_neg h1] at he
      exact absurd he h1
    have hR : readL (n + 1) r = ((readS r).1 :: (readL n (readS r).2.2).1, 0, (readL n (readS r).2.2).2.2) := by
      rw [readL, if_pos h0, if_pos h1]
    obtain ⟨g1, g2, g3, g4, g5⟩ := readS_got h0
    obtain ⟨i1, i2, i3, i4⟩ := readL_got n (readS r).2.2 g3 h1
    rw [hR]
    refine ⟨?_, i2, ?_, fun x hx => ?_⟩
    · show r.s = ((readS r).1 :: (readL n (readS r).2.2).1).flatMap putS ++ _
      rw [List.flatMap_cons, List.append_assoc, ← i1]
      exact g2
    · show ((readS r).1 :: (readL n (readS r).2.2).1).length = n + 1
      rw [List.length_cons, i3]
    · rcases List.mem_cons.1 hx with rfl | hx
      · exact ⟨g4, g5⟩
      · exact i4 x hx
theorem getL_got {s : List UInt8} (he : (getL s).2 = 0) : s = putL (getL s).1 ∧ (getL s).1.length ≤ 1024 ∧ ∀ x ∈ (getL s).1, StOk x ∧ rightS x = true := by
  by_cases h0 : (rUpto 1024 ⟨s, 0⟩).2.e = 0
  case neg =>
    unfold getL at he
    rw [if_neg h0] at he
    exact absurd he h0
  generalize hL : readL (rUpto 1024 ⟨s, 0⟩).1.toNat (rUpto 1024 ⟨s, 0⟩).2 = L
  by_cases h1 : L.2.1 = 0
  case neg =>
    unfold getL at he
    rw [if_pos h0, hL, if_neg h1] at he
    exact absurd he h1
  by_cases h2 : rEnd L.2.2 = 0
  case neg =>
    unfold getL at he
    rw [if_pos h0, hL, if_pos h1, if_neg h2] at he
    exact absurd he h2
  have hR : getL s = (L.1, 0) := by
    unfold getL
    rw [if_pos h0, hL, if_pos h1, if_pos h2]
  obtain ⟨_, g2, g3, g4, g5⟩ := rUpto_got h0
  have hi := readL_got _ (rUpto 1024 ⟨s, 0⟩).2 h0 (by rw [hL]; exact h1)
  rw [hL] at hi
  obtain ⟨i1, i2, i3, i4⟩ := hi
  obtain ⟨_, e2⟩ := rEnd_zero h2
  rw [e2, List.append_nil] at i1
  rw [hR]
  refine ⟨?_, by show L.1.length ≤ 1024; omega, i4⟩
  show s = putL L.1
  unfold putL
  have hn : (L.1.length : Int) = (rUpto 1024 ⟨s, 0⟩).1 := by omega
  rw [hn, ← i1]
  exact g2
end Go.Proofs.YtmplokdbbhlomaaGreatDoor
