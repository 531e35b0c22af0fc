/-
  Scripts as bytes, in plain Lean: what is put is got, and what is got was put.
-/
import Derived.Test.YtmplokdbbhlomaaDoorScR
namespace Go.Proofs.YtmplokdbbhlomaaDoor

/-- A step. -/
structure St where
  k : Int
  c : Cm
  n : Int
def zeroS : St := ⟨0, zeroC, 0⟩
instance : DecidableEq Cm := fun a b => by
  cases a; cases b
  simp only [Cm.mk.injEq]
  exact inferInstance
def rightS (x : St) : Bool := if x.k = 1 then decide (x.n = 0) && rightC x.c else decide (x.c = zeroC) && (decide (x.k = 2) && decide (-1 ≤ x.n) || decide (x.k = 3) && decide (0 ≤ x.n))
def StOk (x : St) : Prop := I64 x.k ∧ CmOk x.c ∧ I64 x.n
def putS (x : St) : List UInt8 := if x.k = 1 then putN 0 ++ putT (putC x.c) else putN (x.k - 1) ++ putN x.n
def putL (l : List St) : List UInt8 := putN (l.length : Int) ++ l.flatMap putS
/-- The step that a reader's kind t, its text or number, tell; the error. -/
def stOf (r : Rd) : St × Int × Rd :=
  if (rUpto 2 r).2.e = 0 then
    (if (rUpto 2 r).1 = 0 then
      (if (rText 1024 (rUpto 2 r).2).2.e = 0 then
        (if (getC (rText 1024 (rUpto 2 r).2).1).2 = 0 then (⟨1, (getC (rText 1024 (rUpto 2 r).2).1).1, 0⟩, 0, (rText 1024 (rUpto 2 r).2).2) else (zeroS, 3, (rText 1024 (rUpto 2 r).2).2))
      else (zeroS, (rText 1024 (rUpto 2 r).2).2.e, (rText 1024 (rUpto 2 r).2).2))
    else
      (if (rNum (rUpto 2 r).2).2.e = 0 then (⟨1 + (rUpto 2 r).1, zeroC, (rNum (rUpto 2 r).2).1⟩, 0, (rNum (rUpto 2 r).2).2) else (zeroS, (rNum (rUpto 2 r).2).2.e, (rNum (rUpto 2 r).2).2)))
  else (zeroS, (rUpto 2 r).2.e, (rUpto 2 r).2)
def readS (r : Rd) : St × Int × Rd := if (stOf r).2.1 = 0 then (if rightS (stOf r).1 then stOf r else (zeroS, 3, (stOf r).2.2)) else stOf r
def readL : Nat → Rd → List St × Int × Rd
  | 0, r => ([], 0, r)
  | n + 1, r => if (readS r).2.1 = 0 then (if (readL n (readS r).2.2).2.1 = 0 then ((readS r).1 :: (readL n (readS r).2.2).1, 0, (readL n (readS r).2.2).2.2) else ([], (readL n (readS r).2.2).2.1, (readL n (readS r).2.2).2.2)) else ([], (readS r).2.1, (readS r).2.2)
def getL (s : List UInt8) : List St × Int :=
  if (rUpto 1024 ⟨s, 0⟩).2.e = 0 then
    (if (readL (rUpto 1024 ⟨s, 0⟩).1.toNat (rUpto 1024 ⟨s, 0⟩).2).2.1 = 0 then
      (if rEnd (readL (rUpto 1024 ⟨s, 0⟩).1.toNat (rUpto 1024 ⟨s, 0⟩).2).2.2 = 0 then ((readL (rUpto 1024 ⟨s, 0⟩).1.toNat (rUpto 1024 ⟨s, 0⟩).2).1, 0) else ([], rEnd (readL (rUpto 1024 ⟨s, 0⟩).1.toNat (rUpto 1024 ⟨s, 0⟩).2).2.2))
    else ([], (readL (rUpto 1024 ⟨s, 0⟩).1.toNat (rUpto 1024 ⟨s, 0⟩).2).2.1))
  else ([], (rUpto 1024 ⟨s, 0⟩).2.e)
/-- What is wrong with steps. -/
def wrongL (l : List St) : Int := if 1024 < l.length then 6 else if l.all rightS then 0 else 3
theorem I64_small {n : Int} (h0 : -1000000 ≤ n) (h1 : n ≤ 1000000) : I64 n := by unfold I64; omega
theorem right_kind {x : St} (h : rightS x = true) : x.k = 1 ∨ x.k = 2 ∨ x.k = 3 := by
  unfold rightS at h
  split at h
  · exact .inl (by assumption)
  · simp at h
    omega
theorem stOf_put {x : St} (hx : StOk x) (h : rightS x = true) (s : List UInt8) : stOf ⟨putS x ++ s, 0⟩ = (x, 0, ⟨s, 0⟩) := by
  obtain ⟨k, c, n⟩ := x
  obtain ⟨h1, h2, h3⟩ := hx
  simp only at h1 h2 h3
  have hk := right_kind h
  simp only at hk
  by_cases hk1 : k = 1
  · subst hk1
    unfold rightS at h
    simp at h
    obtain ⟨rfl, hc⟩ := h
    have e1 : rUpto 2 ⟨putS ⟨1, c, 0⟩ ++ s, 0⟩ = (0, ⟨putT (putC c) ++ s, 0⟩) := by
      unfold putS
      rw [if_pos rfl, List.append_assoc]
      exact rUpto_put (I64_small (by omega) (by omega)) (by omega) (by omega) _
    have e2 := rText_put (most := 1024) (t := putC c) (by have := putC_len h2; omega) (by omega) s
    unfold stOf
    rw [e1]
    simp only [if_true]
    rw [e2, getC_put h2 hc]
    rfl
  · have hc : c = zeroC := by
      unfold rightS at h
      rw [if_neg hk1] at h
      simp at h
      exact h.1
    subst hc
    have e1 : rUpto 2 ⟨putS ⟨k, zeroC, n⟩ ++ s, 0⟩ = (k - 1, ⟨putN n ++ s, 0⟩) := by
      unfold putS
      rw [if_neg hk1, List.append_assoc]
      exact rUpto_put (n := k - 1) (I64_small (by omega) (by omega)) (by omega) (by omega) _
    have e2 := rNum_put h3 s
    unfold stOf
    rw [e1]
    simp only [if_true]
    rw [if_neg (by omega), e2]
    simp only [if_true]
    congr 2
    omega
theorem readS_put {x : St} (hx : StOk x) (h : rightS x = true) (s : List UInt8) : readS ⟨putS x ++ s, 0⟩ = (x, 0, ⟨s, 0⟩) := by
  unfold readS
  rw [stOf_put hx h]
  simp [h]
theorem readL_put : ∀ (l : List St) (s : List UInt8), (∀ x ∈ l, StOk x ∧ rightS x = true) → readL l.length ⟨l.flatMap putS ++ s, 0⟩ = (l, 0, ⟨s, 0⟩)
  | [], s, _ => rfl
  | x :: l, s, h => by
    have hx := h x (List.mem_cons_self ..)
    have ih := readL_put l s fun y hy => h y (List.mem_cons_of_mem _ hy)
    rw [List.length_cons, List.flatMap_cons, List.append_assoc]
    unfold readL
    rw [readS_put hx.1 hx.2]
    simp only [if_true]
    rw [ih]
    rfl
theorem getL_put {l : List St} (h : ∀ x ∈ l, StOk x ∧ rightS x = true) (hl : l.length ≤ 1024) : getL (putL l) = (l, 0) := by
  have e1 : rUpto 1024 ⟨putL l, 0⟩ = ((l.length : Int), ⟨l.flatMap putS, 0⟩) := by
    unfold putL
    exact rUpto_put (I64_small (by omega) (by omega)) (by omega) (by omega) _
  have e2 := readL_put l [] h
  rw [List.append_nil] at e2
  unfold getL
  rw [e1]
  simp only [if_true, Int.toNat_natCast]
  rw [e2]
  rfl
theorem zeroC_ok : CmOk zeroC := by unfold CmOk zeroC I64; simp
theorem stOf_got {r : Rd} (he : (stOf r).2.1 = 0) : r.e = 0 ∧ r.s = putS (stOf r).1 ++ (stOf r).2.2.s ∧ (stOf r).2.2.e = 0 ∧ StOk (stOf r).1 := by
  by_cases h0 : (rUpto 2 r).2.e = 0
  case neg =>
    unfold stOf at he
    rw [if_neg h0] at he
    exact absurd he h0
  obtain ⟨g1, g2, g3, g4, g5⟩ := rUpto_got h0
  by_cases ht : (rUpto 2 r).1 = 0
  · by_cases h1 : (rText 1024 (rUpto 2 r).2).2.e = 0
    case neg =>
      unfold stOf at he
      rw [if_pos h0, if_pos ht, if_neg h1] at he
      exact absurd he h1
    by_cases h2 : (getC (rText 1024 (rUpto 2 r).2).1).2 = 0
    case neg =>
      unfold stOf at he
      rw [if_pos h0, if_pos ht, if_pos h1, if_neg h2] at he
      simp at he
    have hR : stOf r = (⟨1, (getC (rText 1024 (rUpto 2 r).2).1).1, 0⟩, 0, (rText 1024 (rUpto 2 r).2).2) := by
      unfold stOf
      rw [if_pos h0, if_pos ht, if_pos h1, if_pos h2]
    obtain ⟨_, t2, t3⟩ := rText_got h1
    obtain ⟨c1, c2, c3⟩ := getC_got h2
    rw [hR]
    refine ⟨g1, ?_, h1, ⟨I64_small (by show (-1000000 : Int) ≤ 1; omega) (by show (1 : Int) ≤ 1000000; omega), c3, I64_small (by show (-1000000 : Int) ≤ 0; omega) (by show (0 : Int) ≤ 1000000; omega)⟩⟩
    show r.s = putS ⟨1, _, 0⟩ ++ _
    unfold putS
    rw [if_pos rfl]
    show r.s = (putN 0 ++ putT (putC (getC (rText 1024 (rUpto 2 r).2).1).1)) ++ _
    rw [← c1, List.append_assoc, ← t2, ← ht]
    exact g2
  · by_cases h1 : (rNum (rUpto 2 r).2).2.e = 0
    case neg =>
      unfold stOf at he
      rw [if_pos h0, if_neg ht, if_neg h1] at he
      exact absurd he h1
    have hR : stOf r = (⟨1 + (rUpto 2 r).1, zeroC, (rNum (rUpto 2 r).2).1⟩, 0, (rNum (rUpto 2 r).2).2) := by
      unfold stOf
      rw [if_pos h0, if_neg ht, if_pos h1]
    obtain ⟨_, t2, t3⟩ := rNum_got h1
    rw [hR]
    refine ⟨g1, ?_, h1, ⟨I64_small (by show (-1000000 : Int) ≤ 1 + _; omega) (by show 1 + _ ≤ (1000000 : Int); omega), zeroC_ok, t3⟩⟩
    show r.s = putS ⟨1 + (rUpto 2 r).1, zeroC, (rNum (rUpto 2 r).2).1⟩ ++ _
    unfold putS
    rw [if_neg (by show ¬ (1 + (rUpto 2 r).1 = 1); omega)]
    show r.s = (putN (1 + (rUpto 2 r).1 - 1) ++ putN (rNum (rUpto 2 r).2).1) ++ _
    rw [List.append_assoc, ← t2, show 1 + (rUpto 2 r).1 - 1 = (rUpto 2 r).1 by omega]
    exact g2
theorem readS_got {r : Rd} (he : (readS r).2.1 = 0) : r.e = 0 ∧ r.s = putS (readS r).1 ++ (readS r).2.2.s ∧ (readS r).2.2.e = 0 ∧ StOk (readS r).1 ∧ rightS (readS r).1 = true := by
  by_cases h0 : (stOf r).2.1 = 0
  case neg =>
    unfold readS at he
    rw [if_neg h0] at he
    exact absurd he h0
  by_cases h1 : rightS (stOf r).1 = true
  case neg =>
    unfold readS at he
    rw [if_pos h0, if_neg h1] at he
    simp at he
  have hR : readS r = stOf r := by
    unfold readS
    rw [if_pos h0, if_pos h1]
  rw [hR]
  obtain ⟨g1, g2, g3, g4⟩ := stOf_got h0
  exact ⟨g1, g2, g3, g4, h1⟩
theorem readL_got : ∀ (n : Nat) (r : Rd), r.e = 0 → (readL n r).2.1 = 0 → r.s = (readL n r).1.flatMap putS ++ (readL n r).2.2.s ∧ (readL n r).2.2.e = 0 ∧ (readL n r).1.length = n ∧ ∀ x ∈ (readL n r).1, StOk x ∧ rightS x = true
  | 0, r, h, _ => ⟨rfl, h, rfl, fun x hx => by cases hx⟩
  | n + 1, r, _, he => by
    by_cases h0 : (readS r).2.1 = 0
    case neg =>
      unfold readL at he
      rw [if_neg h0] at he
      exact absurd he h0
    by_cases h1 : (readL n (readS r).2.2).2.1 = 0
    case neg =>
      unfold readL at he
      rw [if_pos h0, if_neg h1] at he
      exact absurd he h1
    have hR : readL (n + 1) r = ((readS r).1 :: (readL n (readS r).2.2).1, 0, (readL n (readS r).2.2).2.2) := by
      rw [readL, if_pos h0, if_pos h1]
    obtain ⟨g1, g2, g3, g4, g5⟩ := readS_got h0
    obtain ⟨i1, i2, i3, i4⟩ := readL_got n (readS r).2.2 g3 h1
    rw [hR]
    refine ⟨?_, i2, ?_, fun x hx => ?_⟩
    · show r.s = ((readS r).1 :: (readL n (readS r).2.2).1).flatMap putS ++ _
      rw [List.flatMap_cons, List.append_assoc, ← i1]
      exact g2
    · show ((readS r).1 :: (readL n (readS r).2.2).1).length = n + 1
      rw [List.length_cons, i3]
    · rcases List.mem_cons.1 hx with rfl | hx
      · exact ⟨g4, g5⟩
      · exact i4 x hx
theorem getL_got {s : List UInt8} (he : (getL s).2 = 0) : s = putL (getL s).1 ∧ (getL s).1.length ≤ 1024 ∧ ∀ x ∈ (getL s).1, StOk x ∧ rightS x = true := by
  by_cases h0 : (rUpto 1024 ⟨s, 0⟩).2.e = 0
  case neg =>
    unfold getL at he
    rw [if_neg h0] at he
    exact absurd he h0
  generalize hL : readL (rUpto 1024 ⟨s, 0⟩).1.toNat (rUpto 1024 ⟨s, 0⟩).2 = L
  by_cases h1 : L.2.1 = 0
  case neg =>
    unfold getL at he
    rw [if_pos h0, hL, if_neg h1] at he
    exact absurd he h1
  by_cases h2 : rEnd L.2.2 = 0
  case neg =>
    unfold getL at he
    rw [if_pos h0, hL, if_pos h1, if_neg h2] at he
    exact absurd he h2
  have hR : getL s = (L.1, 0) := by
    unfold getL
    rw [if_pos h0, hL, if_pos h1, if_pos h2]
  obtain ⟨_, g2, g3, g4, g5⟩ := rUpto_got h0
  have hi := readL_got _ (rUpto 1024 ⟨s, 0⟩).2 h0 (by rw [hL]; exact h1)
  rw [hL] at hi
  obtain ⟨i1, i2, i3, i4⟩ := hi
  obtain ⟨_, e2⟩ := rEnd_zero h2
  rw [e2, List.append_nil] at i1
  rw [hR]
  refine ⟨?_, by show L.1.length ≤ 1024; omega, i4⟩
  show s = putL L.1
  unfold putL
  have hn : (L.1.length : Int) = (rUpto 1024 ⟨s, 0⟩).1 := by omega
  rw [hn, ← i1]
  exact g2
end Go.Proofs.YtmplokdbbhlomaaDoor
