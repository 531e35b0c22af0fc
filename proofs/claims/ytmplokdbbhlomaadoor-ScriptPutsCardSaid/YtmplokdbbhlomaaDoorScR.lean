/-
  A reader of bytes, in plain Lean; commands as bytes: what is put is got, and what is got was put.
-/
import Derived.Test.YtmplokdbbhlomaaDoorScN
namespace Go.Proofs.YtmplokdbbhlomaaDoor

/-- What is left to be read, and the first error. -/
structure Rd where
  s : List UInt8
  e : Int
def rTake (may : Int → Bool) (r : Rd) : Int × Bool × Rd :=
  if r.e = 0 then
    (if (getB r.s).2.2 = 0 then (if may (getB r.s).1 then ((getB r.s).1, true, ⟨(getB r.s).2.1, 0⟩) else (0, false, ⟨r.s, 3⟩)) else (0, false, ⟨r.s, (getB r.s).2.2⟩))
  else (0, false, r)
def uptoB (most : Int) (n : Int) : Bool := decide (0 ≤ n) && decide (n ≤ most)
def rNum (r : Rd) : Int × Rd := ((rTake (fun _ => true) r).1, (rTake (fun _ => true) r).2.2)
def rUpto (most : Int) (r : Rd) : Int × Rd := ((rTake (uptoB most) r).1, (rTake (uptoB most) r).2.2)
def rText (most : Int) (r : Rd) : List UInt8 × Rd :=
  if (rTake (uptoB most) r).2.1 then
    (if ((rTake (uptoB most) r).2.2.s.length : Int) < (rTake (uptoB most) r).1 then ([], ⟨r.s, 4⟩)
      else ((rTake (uptoB most) r).2.2.s.take (rTake (uptoB most) r).1.toNat, ⟨(rTake (uptoB most) r).2.2.s.drop (rTake (uptoB most) r).1.toNat, (rTake (uptoB most) r).2.2.e⟩))
  else ([], (rTake (uptoB most) r).2.2)
def rEnd (r : Rd) : Int := if r.e = 0 ∧ r.s ≠ [] then 3 else r.e
theorem rTake_bad {may : Int → Bool} {r : Rd} (h : r.e ≠ 0) : rTake may r = (0, false, r) := by unfold rTake; rw [if_neg h]
theorem rTake_put {may : Int → Bool} {n : Int} (h : I64 n) (hm : may n = true) (s : List UInt8) : rTake may ⟨putN n ++ s, 0⟩ = (n, true, ⟨s, 0⟩) := by
  unfold rTake
  simp only [get_put h]
  simp [hm]
theorem rTake_got {may : Int → Bool} {r r' : Rd} {n : Int} {b : Bool} (h : rTake may r = (n, b, r')) (he : r'.e = 0) : r.e = 0 ∧ b = true ∧ r.s = putN n ++ r'.s ∧ I64 n ∧ may n = true := by
  unfold rTake at h
  by_cases h0 : r.e = 0
  · rw [if_pos h0] at h
    by_cases h1 : (getB r.s).2.2 = 0
    · rw [if_pos h1] at h
      by_cases h2 : may (getB r.s).1 = true
      · rw [if_pos h2] at h
        injection h with h3 h
        injection h with h4 h5
        have hg := get_got (s := r.s) (r := (getB r.s).2.1) (n := (getB r.s).1) (by rw [← h1])
        subst h3 h4 h5
        exact ⟨h0, rfl, hg.1, hg.2, h2⟩
      · rw [if_neg h2] at h
        injection h with _ h
        injection h with _ h
        rw [← h] at he
        cases he
    · rw [if_neg h1] at h
      injection h with _ h
      injection h with _ h
      rw [← h] at he
      exact absurd he h1
  · rw [if_neg h0] at h
    injection h with _ h
    injection h with _ h
    rw [← h] at he
    exact absurd he h0
theorem rNum_bad {r : Rd} (h : r.e ≠ 0) : rNum r = (0, r) := by unfold rNum; rw [rTake_bad h]
theorem rNum_put {n : Int} (h : I64 n) (s : List UInt8) : rNum ⟨putN n ++ s, 0⟩ = (n, ⟨s, 0⟩) := by unfold rNum; rw [rTake_put h rfl]
theorem rNum_got {r : Rd} (he : (rNum r).2.e = 0) : r.e = 0 ∧ r.s = putN (rNum r).1 ++ (rNum r).2.s ∧ I64 (rNum r).1 := by
  have h := rTake_got (may := fun _ => true) (r := r) (n := (rNum r).1) (b := (rTake (fun _ => true) r).2.1) (r' := (rNum r).2) rfl he
  exact ⟨h.1, h.2.2.1, h.2.2.2.1⟩
theorem rUpto_put {most n : Int} (h : I64 n) (h0 : 0 ≤ n) (h1 : n ≤ most) (s : List UInt8) : rUpto most ⟨putN n ++ s, 0⟩ = (n, ⟨s, 0⟩) := by unfold rUpto; rw [rTake_put h (by simp [uptoB, h0, h1])]
theorem rUpto_got {most : Int} {r : Rd} (he : (rUpto most r).2.e = 0) : r.e = 0 ∧ r.s = putN (rUpto most r).1 ++ (rUpto most r).2.s ∧ I64 (rUpto most r).1 ∧ 0 ≤ (rUpto most r).1 ∧ (rUpto most r).1 ≤ most := by
  have h := rTake_got (may := uptoB most) (r := r) (n := (rUpto most r).1) (b := (rTake (uptoB most) r).2.1) (r' := (rUpto most r).2) rfl he
  have h5 := h.2.2.2.2
  simp [uptoB] at h5
  exact ⟨h.1, h.2.2.1, h.2.2.2.1, h5.1, h5.2⟩
/-- A text's bytes. -/
def putT (t : List UInt8) : List UInt8 := putN (t.length : Int) ++ t
theorem rText_put {most : Int} {t : List UInt8} (h : (t.length : Int) ≤ most) (hm : most ≤ 1000000) (s : List UInt8) : rText most ⟨putT t ++ s, 0⟩ = (t, ⟨s, 0⟩) := by
  have e : rTake (uptoB most) ⟨putT t ++ s, 0⟩ = ((t.length : Int), true, ⟨t ++ s, 0⟩) := by
    unfold putT
    rw [List.append_assoc]
    exact rTake_put (by unfold I64; omega) (by simp [uptoB, h]) _
  unfold rText
  rw [e]
  simp only [if_true]
  rw [if_neg (by rw [List.length_append]; omega)]
  simp
theorem rText_bad {most : Int} {r : Rd} (h : r.e ≠ 0) : rText most r = ([], r) := by
  unfold rText
  rw [rTake_bad h]
  rfl
theorem rText_got {most : Int} {r : Rd} (he : (rText most r).2.e = 0) : r.e = 0 ∧ r.s = putT (rText most r).1 ++ (rText most r).2.s ∧ ((rText most r).1.length : Int) ≤ most := by
  unfold rText at he ⊢
  generalize hT : rTake (uptoB most) r = T at *
  obtain ⟨n, b, r'⟩ := T
  simp only at he ⊢
  cases b with
  | false =>
    simp only [Bool.false_eq_true, if_false] at he ⊢
    have := rTake_got hT he
    exact absurd this.2.1 (by simp)
  | true =>
    simp only [if_true] at he ⊢
    split at he
    · simp at he
    · rename_i hn
      rw [if_neg hn]
      simp only at he
      obtain ⟨h0, _, h1, h2, h3⟩ := rTake_got hT he
      simp [uptoB] at h3
      refine ⟨h0, ?_, ?_⟩
      · show r.s = putT (r'.s.take n.toNat) ++ r'.s.drop n.toNat
        have hl : ((r'.s.take n.toNat).length : Int) = n := by rw [List.length_take]; omega
        unfold putT
        rw [hl, List.append_assoc, List.take_append_drop]
        exact h1
      · show ((r'.s.take n.toNat).length : Int) ≤ most
        rw [List.length_take]
        omega
/-- A command. -/
structure Cm where
  k : Int
  i : Int
  m : Int
  o : Int
  s : Int
  q : Int
  p : Int
def zeroC : Cm := ⟨0, 0, 0, 0, 0, 0, 0⟩
def Cm.get (c : Cm) (j : Nat) : Int := if j = 0 then c.i else if j = 1 then c.m else if j = 2 then c.o else if j = 3 then c.s else if j = 4 then c.q else c.p
def Cm.set (c : Cm) (j : Nat) (n : Int) : Cm := if j = 0 then { c with i := n } else if j = 1 then { c with m := n } else if j = 2 then { c with o := n } else if j = 3 then { c with s := n } else if j = 4 then { c with q := n } else { c with p := n }
def CmOk (c : Cm) : Prop := I64 c.k ∧ I64 c.i ∧ I64 c.m ∧ I64 c.o ∧ I64 c.s ∧ I64 c.q ∧ I64 c.p
/-- Has a kind this value? -/
def hasB (k : Int) (j : Nat) : Bool :=
  if j = 0 then k == 2 || k == 3 else if j = 1 then k == 2 || decide (4 ≤ k) && decide (k ≤ 9) else if j = 2 then k == 2 else if j = 3 then k == 2 || k == 5 || k == 6 || k == 7
  else if j = 4 then k == 2 || decide (4 ≤ k) && decide (k ≤ 9) else k == 2 || k == 7
def isK (k : Int) : Bool := decide (1 ≤ k) && decide (k ≤ 10)
/-- Has a command its form? -/
def rightC (c : Cm) : Bool := isK c.k && (List.range 6).all fun j => hasB c.k j || c.get j == 0
def putF (c : Cm) (js : List Nat) : List UInt8 := js.flatMap fun j => if hasB c.k j then putN (c.get j) else []
def six : List Nat := [0, 1, 2, 3, 4, 5]
def putC (c : Cm) : List UInt8 := putN c.k ++ putF c six
def rdF : List Nat → Cm → Rd → Cm × Rd
  | [], c, r => (c, r)
  | j :: js, c, r => if hasB c.k j then rdF js (c.set j (rNum r).1) (rNum r).2 else rdF js c r
def readC (r : Rd) : Cm × Int × Rd :=
  if (rNum r).2.e = 0 then
    (if isK (rNum r).1 then
      (if (rdF six ⟨(rNum r).1, 0, 0, 0, 0, 0, 0⟩ (rNum r).2).2.e = 0 then ((rdF six ⟨(rNum r).1, 0, 0, 0, 0, 0, 0⟩ (rNum r).2).1, 0, (rdF six ⟨(rNum r).1, 0, 0, 0, 0, 0, 0⟩ (rNum r).2).2) else (zeroC, (rdF six ⟨(rNum r).1, 0, 0, 0, 0, 0, 0⟩ (rNum r).2).2.e, (rdF six ⟨(rNum r).1, 0, 0, 0, 0, 0, 0⟩ (rNum r).2).2))
    else (zeroC, 3, (rNum r).2))
  else (zeroC, (rNum r).2.e, (rNum r).2)
def getC (s : List UInt8) : Cm × Int :=
  if (readC ⟨s, 0⟩).2.1 = 0 then (if rEnd (readC ⟨s, 0⟩).2.2 = 0 then ((readC ⟨s, 0⟩).1, 0) else (zeroC, rEnd (readC ⟨s, 0⟩).2.2)) else (zeroC, (readC ⟨s, 0⟩).2.1)
theorem set_k (c : Cm) (j : Nat) (n : Int) : (c.set j n).k = c.k := by
  unfold Cm.set
  repeat' split
  all_goals rfl
theorem rdF_bad : ∀ (js : List Nat) (c : Cm) (r : Rd), r.e ≠ 0 → (rdF js c r).2 = r
  | [], _, _, _ => rfl
  | j :: js, c, r, h => by
    unfold rdF
    split
    · rw [rNum_bad h]
      exact rdF_bad js _ r h
    · exact rdF_bad js _ r h
theorem isK_cases {k : Int} (h : isK k = true) : k = 1 ∨ k = 2 ∨ k = 3 ∨ k = 4 ∨ k = 5 ∨ k = 6 ∨ k = 7 ∨ k = 8 ∨ k = 9 ∨ k = 10 := by
  simp [isK] at h
  omega
theorem get_ok {c : Cm} (h : CmOk c) (j : Nat) : I64 (c.get j) := by
  obtain ⟨_, h1, h2, h3, h4, h5, h6⟩ := h
  unfold Cm.get
  repeat' split
  all_goals assumption
/-- Fields read back. -/
theorem rdF_put {c : Cm} (hc : CmOk c) (s : List UInt8) : ∀ (js : List Nat) (d : Cm), d.k = c.k → rdF js d ⟨putF c js ++ s, 0⟩ = (js.foldl (fun d j => if hasB c.k j then d.set j (c.get j) else d) d, ⟨s, 0⟩)
  | [], d, _ => by simp [rdF, putF]
  | j :: js, d, h => by
    unfold rdF
    rw [h]
    by_cases hb : hasB c.k j = true
    · have e : putF c (j :: js) ++ s = putN (c.get j) ++ (putF c js ++ s) := by simp [putF, hb]
      rw [if_pos hb, e, rNum_put (get_ok hc j)]
      rw [rdF_put hc s js _ (by rw [set_k]; exact h)]
      simp [hb]
    · have e : putF c (j :: js) ++ s = putF c js ++ s := by simp [putF, hb]
      rw [if_neg hb, e, rdF_put hc s js _ h]
      simp [hb]
theorem fold_right {c : Cm} (h : rightC c = true) : six.foldl (fun d j => if hasB c.k j then d.set j (c.get j) else d) ⟨c.k, 0, 0, 0, 0, 0, 0⟩ = c := by
  obtain ⟨k, i, m, o, s, q, p⟩ := c
  unfold rightC at h
  rw [Bool.and_eq_true] at h
  obtain ⟨h1, h2⟩ := h
  simp only at h1
  simp [List.range, List.range.loop, Cm.get] at h2
  obtain ⟨a0, a1, a2, a3, a4, a5⟩ := h2
  rcases isK_cases h1 with rfl | rfl | rfl | rfl | rfl | rfl | rfl | rfl | rfl | rfl
  all_goals (simp [hasB] at a0 a1 a2 a3 a4 a5; simp [six, hasB, Cm.set, Cm.get, *])
theorem readC_put {c : Cm} (hc : CmOk c) (h : rightC c = true) (s : List UInt8) : readC ⟨putC c ++ s, 0⟩ = (c, 0, ⟨s, 0⟩) := by
  have hk : isK c.k = true := by
    unfold rightC at h
    rw [Bool.and_eq_true] at h
    exact h.1
  have e : rNum ⟨putC c ++ s, 0⟩ = (c.k, ⟨putF c six ++ s, 0⟩) := by
    unfold putC
    rw [List.append_assoc]
    exact rNum_put hc.1 _
  unfold readC
  rw [e]
  simp only [if_true, hk]
  have e2 := rdF_put hc s six ⟨c.k, 0, 0, 0, 0, 0, 0⟩ rfl
  rw [fold_right h] at e2
  rw [e2]
  rfl
theorem getC_put {c : Cm} (hc : CmOk c) (h : rightC c = true) : getC (putC c) = (c, 0) := by
  have e := readC_put hc h []
  rw [List.append_nil] at e
  unfold getC
  rw [e]
  simp [rEnd]
theorem set_ok {c : Cm} (h : CmOk c) (j : Nat) {n : Int} (hn : I64 n) : CmOk (c.set j n) := by
  obtain ⟨d0, d1, d2, d3, d4, d5, d6⟩ := h
  unfold Cm.set
  repeat' split
  all_goals exact ⟨by assumption, by assumption, by assumption, by assumption, by assumption, by assumption, by assumption⟩
theorem get_set (c : Cm) {j j' : Nat} (hj : j < 6) (hj' : j' < 6) (n : Int) : (c.set j n).get j' = if j' = j then n else c.get j' := by
  unfold Cm.set Cm.get
  obtain rfl | rfl | rfl | rfl | rfl | rfl : j = 0 ∨ j = 1 ∨ j = 2 ∨ j = 3 ∨ j = 4 ∨ j = 5 := by omega
  all_goals (obtain rfl | rfl | rfl | rfl | rfl | rfl : j' = 0 ∨ j' = 1 ∨ j' = 2 ∨ j' = 3 ∨ j' = 4 ∨ j' = 5 := by omega)
  all_goals simp
/-- Fields that were read had been put. -/
theorem rdF_got (k : Int) : ∀ (js : List Nat) (d : Cm) (r : Rd), (∀ j ∈ js, j < 6) → d.k = k → js.Nodup → (rdF js d r).2.e = 0 → CmOk d →
    r.e = 0 ∧ r.s = putF (rdF js d r).1 js ++ (rdF js d r).2.s ∧ (rdF js d r).1.k = k ∧ CmOk (rdF js d r).1 ∧ ∀ j, j < 6 → (j ∉ js ∨ hasB k j = false) → (rdF js d r).1.get j = d.get j
  | [], d, r, _, h, _, he, hd => ⟨he, by simp [rdF, putF], h, hd, fun _ _ _ => rfl⟩
  | j :: js, d, r, h6, h, hn, he, hd => by
    obtain ⟨hn1, hn2⟩ := List.nodup_cons.1 hn
    have hj6 := h6 j (List.mem_cons_self ..)
    have h6' := fun j hj => h6 j (List.mem_cons_of_mem _ hj)
    by_cases hb : hasB k j = true
    · have hr : rdF (j :: js) d r = rdF js (d.set j (rNum r).1) (rNum r).2 := by
        rw [rdF, h, if_pos hb]
      rw [hr] at he ⊢
      by_cases h0 : (rNum r).2.e = 0
      case neg =>
        rw [rdF_bad js _ _ h0] at he
        exact absurd he h0
      obtain ⟨g1, g2, g3⟩ := rNum_got h0
      obtain ⟨i1, i2, i3, i4, i5⟩ := rdF_got k js (d.set j (rNum r).1) (rNum r).2 h6' (by rw [set_k]; exact h) hn2 he (set_ok hd j g3)
      have hg : (rdF js (d.set j (rNum r).1) (rNum r).2).1.get j = (rNum r).1 := by
        rw [i5 j hj6 (.inl hn1), get_set _ hj6 hj6, if_pos rfl]
      refine ⟨g1, ?_, i3, i4, fun j' hj' hor => ?_⟩
      · have e : putF (rdF js (d.set j (rNum r).1) (rNum r).2).1 (j :: js) = putN (rNum r).1 ++ putF (rdF js (d.set j (rNum r).1) (rNum r).2).1 js := by
          unfold putF
          rw [List.flatMap_cons, i3, hb, if_pos rfl, hg]
        rw [e, List.append_assoc, ← i2]
        exact g2
      · have hne : j' ≠ j := by
          rintro rfl
          rcases hor with h1 | h1
          · exact h1 (List.mem_cons_self ..)
          · rw [h1] at hb; cases hb
        rw [i5 j' hj' (hor.imp (fun h1 h2 => h1 (List.mem_cons_of_mem _ h2)) id), get_set _ hj6 hj', if_neg hne]
    · have hbf : hasB k j = false := by simpa using hb
      have hr : rdF (j :: js) d r = rdF js d r := by
        rw [rdF, h, if_neg hb]
      rw [hr] at he ⊢
      obtain ⟨i1, i2, i3, i4, i5⟩ := rdF_got k js d r h6' h hn2 he hd
      refine ⟨i1, ?_, i3, i4, fun j' hj' hor => ?_⟩
      · have e : putF (rdF js d r).1 (j :: js) = putF (rdF js d r).1 js := by
          unfold putF
          rw [List.flatMap_cons, i3, hbf]
          rfl
        rw [e]
        exact i2
      · by_cases hne : j' = j
        · subst hne
          exact i5 j' hj' (.inr hbf)
        · refine i5 j' hj' (hor.imp (fun h1 h2 => h1 (List.mem_cons_of_mem _ h2)) id)
theorem readC_got {r : Rd} (he : (readC r).2.1 = 0) : r.e = 0 ∧ r.s = putC (readC r).1 ++ (readC r).2.2.s ∧ (readC r).2.2.e = 0 ∧ rightC (readC r).1 = true ∧ CmOk (readC r).1 := by
  have h0 : (rNum r).2.e = 0 := by
    apply Classical.byContradiction
    intro h
    unfold readC at he
    rw [if_neg h] at he
    exact h he
  have h1 : isK (rNum r).1 = true := by
    apply Classical.byContradiction
    intro h
    unfold readC at he
    rw [if_pos h0, if_neg h] at he
    simp at he
  generalize hD : rdF six ⟨(rNum r).1, 0, 0, 0, 0, 0, 0⟩ (rNum r).2 = D
  have h2 : D.2.e = 0 := by
    apply Classical.byContradiction
    intro h
    unfold readC at he
    rw [if_pos h0, if_pos h1, hD, if_neg h] at he
    exact h he
  have hR : readC r = (D.1, 0, D.2) := by
    unfold readC
    rw [if_pos h0, if_pos h1, hD, if_pos h2]
  obtain ⟨g1, g2, g3⟩ := rNum_got h0
  obtain ⟨i1, i2, i3, i4, i5⟩ := rdF_got (rNum r).1 six ⟨(rNum r).1, 0, 0, 0, 0, 0, 0⟩ (rNum r).2 (by decide) rfl (by decide) (by rw [hD]; exact h2) (by unfold CmOk I64; refine ⟨g3, ?_, ?_, ?_, ?_, ?_, ?_⟩ <;> simp)
  rw [hD] at i2 i3 i4 i5
  rw [hR]
  refine ⟨g1, ?_, h2, ?_, i4⟩
  · show r.s = putC D.1 ++ D.2.s
    unfold putC
    rw [i3, List.append_assoc, ← i2]
    exact g2
  · show rightC D.1 = true
    unfold rightC
    rw [i3, h1, Bool.true_and, List.all_eq_true]
    intro j hj
    have hj6 := List.mem_range.1 hj
    cases hb : hasB (rNum r).1 j with
    | true => rfl
    | false =>
      rw [i5 j hj6 (.inr hb)]
      obtain rfl | rfl | rfl | rfl | rfl | rfl : j = 0 ∨ j = 1 ∨ j = 2 ∨ j = 3 ∨ j = 4 ∨ j = 5 := by omega
      all_goals rfl
theorem rEnd_zero {r : Rd} (h : rEnd r = 0) : r.e = 0 ∧ r.s = [] := by
  unfold rEnd at h
  split at h
  · cases h
  · rename_i h1
    refine ⟨h, ?_⟩
    apply Classical.byContradiction
    intro h2
    exact h1 ⟨h, h2⟩
theorem getC_got {s : List UInt8} (he : (getC s).2 = 0) : s = putC (getC s).1 ∧ rightC (getC s).1 = true ∧ CmOk (getC s).1 := by
  unfold getC at he ⊢
  by_cases h0 : (readC ⟨s, 0⟩).2.1 = 0
  · rw [if_pos h0] at he ⊢
    by_cases h1 : rEnd (readC ⟨s, 0⟩).2.2 = 0
    · rw [if_pos h1]
      obtain ⟨g1, g2, g3, g4, g5⟩ := readC_got h0
      obtain ⟨_, h2⟩ := rEnd_zero h1
      rw [h2, List.append_nil] at g2
      exact ⟨g2, g4, g5⟩
    · rw [if_neg h1] at he
      exact absurd he h1
  · rw [if_neg h0] at he
    exact absurd he h0
theorem putF_len {c : Cm} (hc : CmOk c) : ∀ js : List Nat, (putF c js).length ≤ 10 * js.length
  | [] => by simp [putF]
  | j :: js => by
    have := putF_len hc js
    have h1 := putN_len (get_ok hc j)
    unfold putF at *
    rw [List.flatMap_cons, List.length_append, List.length_cons]
    split
    · omega
    · rw [List.length_nil]
      omega
theorem putC_len {c : Cm} (hc : CmOk c) : (putC c).length ≤ 70 := by
  have h1 := putN_len hc.1
  have h2 := putF_len hc six
  unfold putC
  rw [List.length_append]
  have : six.length = 6 := rfl
  omega
end Go.Proofs.YtmplokdbbhlomaaDoor
