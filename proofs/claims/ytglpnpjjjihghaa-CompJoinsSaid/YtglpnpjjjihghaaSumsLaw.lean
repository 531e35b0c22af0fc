/-
  Plain words for complineref27.Sums: the amounts of a member; the least member above the last one.
-/
import Derived.Test.YtglpnpjjjihghaaMoneyDef
namespace Go.Proofs.Ytglpnpjjjihghaa

/-- The amounts of a member. -/
def sumF (ms zs : List Int) (q : Int) : List Int := ((ms.zip zs).filter fun p => p.1 == q).map (·.2)
theorem zip_take2 : ∀ (n : Nat) (l m : List Int), (l.take n).zip (m.take n) = (l.zip m).take n
  | 0, _, _ => by simp
  | _ + 1, [], _ => by simp
  | _ + 1, _ :: _, [] => by simp
  | n + 1, x :: l, y :: m => by
    rw [List.take_succ_cons, List.take_succ_cons, List.zip_cons_cons, List.zip_cons_cons, List.take_succ_cons, zip_take2 n l m]
theorem sumF_snoc {ms zs : List Int} {k : Nat} (hk : k < ms.length) (hk' : k < zs.length) (q : Int) : sumF (ms.take (k + 1)) (zs.take (k + 1)) q = sumF (ms.take k) (zs.take k) q ++ if ms[k] = q then [zs[k]] else [] := by
  unfold sumF
  rw [zip_take2, zip_take2, List.take_succ_eq_append_getElem (by rw [List.length_zip]; omega), List.filter_append, List.map_append, List.getElem_zip]
  by_cases h : ms[k] = q
  · rw [if_pos h]; simp [h]
  · rw [if_neg h]; simp [h]
theorem sumF_len (ms zs : List Int) (q : Int) (k : Nat) : (sumF (ms.take k) (zs.take k) q).length ≤ k := by
  unfold sumF
  rw [List.length_map]
  refine Nat.le_trans (List.length_filter_le _ _) ?_
  rw [List.length_zip, List.length_take]
  omega
theorem sumF_mem {ms zs : List Int} {q z : Int} (h : z ∈ sumF ms zs q) : z ∈ zs := by
  unfold sumF at h
  obtain ⟨p, hp, rfl⟩ := List.mem_map.1 h
  exact (List.of_mem_zip (List.mem_filter.1 hp).1).2
/-- Is a member above the last one that was told? -/
def abvB (ks : List Int) (j : Nat) (x : Int) : Bool := decide (j = 0) || decide (ks.getD (j - 1) 0 < x)
theorem abvB_zero (ks : List Int) (x : Int) : abvB ks 0 x = true := rfl
theorem abvB_succ {ks : List Int} {j : Nat} (hj : 0 < j) (hl : j - 1 < ks.length) (x : Int) : abvB ks j x = decide (ks[j - 1] < x) := by
  unfold abvB
  rw [decide_eq_false (by omega : ¬ j = 0), Bool.false_or, List.getD_eq_getElem?_getD, List.getElem?_eq_getElem hl]
  rfl
theorem pw_lt {ks : List Int} (h : ks.Pairwise (· < ·)) {i j : Nat} (hi : i < ks.length) (hj : j < ks.length) (hij : i < j) : ks[i] < ks[j] := List.pairwise_iff_getElem.1 h i j hi hj hij
theorem abvB_iff {ks : List Int} (h : ks.Pairwise (· < ·)) {i j : Nat} (hi : i < ks.length) (hj : j ≤ ks.length) : abvB ks j ks[i] = true ↔ j ≤ i := by
  rcases Nat.eq_zero_or_pos j with h0 | h0
  · subst h0; simp [abvB_zero]
  · rw [abvB_succ h0 (by omega), decide_eq_true_iff]
    constructor
    · intro hlt
      rcases Nat.lt_or_ge i j with hc | hc
      · rcases Nat.lt_or_ge i (j - 1) with h1 | h1
        · have := pw_lt h hi (show j - 1 < ks.length by omega) h1; omega
        · have e : i = j - 1 := by omega
          subst e; omega
      · exact hc
    · intro hc
      exact pw_lt h (by omega) hi (by omega)
/-- The place of the least member above the last one, of the first k: -1: there is none. -/
def NX (ms ks : List Int) (j k : Nat) (p : Int) : Prop :=
  (p = -1 ∧ ∀ i (hi : i < ms.length), i < k → abvB ks j ms[i] = false) ∨ (∃ n : Nat, ∃ hn : n < ms.length, p = n ∧ n < k ∧ abvB ks j ms[n] = true ∧ ∀ i (hi : i < ms.length), i < k → abvB ks j ms[i] = true → ms[n] ≤ ms[i])
theorem NX.start (ms ks : List Int) (j : Nat) : NX ms ks j 0 (-1) := .inl ⟨rfl, fun _ _ h => absurd h (Nat.not_lt_zero _)⟩
theorem NX.skip {ms ks : List Int} {j k : Nat} {p : Int} (h : NX ms ks j k p) (hk : k < ms.length) (ha : abvB ks j ms[k] = false) : NX ms ks j (k + 1) p := by
  rcases h with ⟨e, h⟩ | ⟨n, hn, e, hk', ht, h⟩
  · refine .inl ⟨e, fun i hi hik => ?_⟩
    by_cases e : i = k
    · subst e; exact ha
    · exact h i hi (by omega)
  · refine .inr ⟨n, hn, e, by omega, ht, fun i hi hik hit => ?_⟩
    by_cases e : i = k
    · subst e; rw [ha] at hit; cases hit
    · exact h i hi (by omega) hit
theorem NX.first {ms ks : List Int} {j k : Nat} (h : NX ms ks j k (-1)) (hk : k < ms.length) (ha : abvB ks j ms[k] = true) : NX ms ks j (k + 1) k := by
  rcases h with ⟨_, h⟩ | ⟨n, hn, e, _⟩
  · refine .inr ⟨k, hk, rfl, by omega, ha, fun i hi hik hit => ?_⟩
    by_cases e : i = k
    · subst e; omega
    · rw [h i hi (by omega)] at hit; cases hit
  · omega
theorem NX.low {ms ks : List Int} {j k n : Nat} (h : NX ms ks j k n) (hk : k < ms.length) (hn : n < ms.length) (ha : abvB ks j ms[k] = true) (hlt : ms[k] < ms[n]) : NX ms ks j (k + 1) k := by
  rcases h with ⟨e, h⟩ | ⟨n', hn', e, hk', ht, h⟩
  · omega
  · obtain rfl : n = n' := by omega
    refine .inr ⟨k, hk, rfl, by omega, ha, fun i hi hik hit => ?_⟩
    by_cases e : i = k
    · subst e; omega
    · have := h i hi (by omega) hit; omega
theorem NX.high {ms ks : List Int} {j k n : Nat} (h : NX ms ks j k n) (hk : k < ms.length) (hn : n < ms.length) (hlt : ¬ ms[k] < ms[n]) : NX ms ks j (k + 1) n := by
  rcases h with ⟨e, h⟩ | ⟨n', hn', e, hk', ht, h⟩
  · omega
  · obtain rfl : n = n' := by omega
    refine .inr ⟨n, hn, rfl, by omega, ht, fun i hi hik hit => ?_⟩
    by_cases e : i = k
    · subst e; omega
    · exact h i hi (by omega) hit
theorem NX.form {ms ks : List Int} {j k : Nat} {p : Int} (h : NX ms ks j k p) : p = -1 ∨ ∃ n : Nat, n < ms.length ∧ p = n := by
  rcases h with ⟨e, h⟩ | ⟨n, hn, e, _⟩
  · exact .inl e
  · exact .inr ⟨n, hn, e⟩
/-- The sorted members. -/
structure Keys (ms ks : List Int) : Prop where
  up : ks.Pairwise (· < ·)
  mem : ∀ q, q ∈ ks ↔ q ∈ ms
theorem len_sub : ∀ {ks ms : List Int}, ks.Pairwise (· < ·) → (∀ q ∈ ks, q ∈ ms) → ks.length ≤ ms.length
  | [], _, _, _ => Nat.zero_le _
  | x :: ks, ms, h, hm => by
    have hx := hm x (by simp)
    have h1 := len_sub (ks := ks) (ms := ms.erase x) (List.pairwise_cons.1 h).2 fun q hq => (List.mem_erase_of_ne (by have := (List.pairwise_cons.1 h).1 q hq; omega)).2 (hm q (by simp [hq]))
    rw [List.length_erase_of_mem hx] at h1
    have : 0 < ms.length := List.length_pos_of_mem hx
    simp; omega
theorem Keys.len {ms ks : List Int} (h : Keys ms ks) : ks.length ≤ ms.length := len_sub h.up fun q hq => (h.mem q).1 hq
theorem NX.none {ms ks : List Int} {j : Nat} (h : NX ms ks j ms.length (-1)) (hK : Keys ms ks) (hj : j ≤ ks.length) : j = ks.length := by
  rcases h with ⟨_, h⟩ | ⟨n, hn, e, _⟩
  · rcases Nat.lt_or_ge j ks.length with hl | hl
    · have h1 := (hK.mem ks[j]).1 (List.getElem_mem hl)
      obtain ⟨i, hi, e⟩ := List.getElem_of_mem h1
      have h2 := h i hi hi
      rw [e, (abvB_iff hK.up hl hj).2 (Nat.le_refl _)] at h2
      cases h2
    · omega
  · omega
theorem NX.some {ms ks : List Int} {j n : Nat} (h : NX ms ks j ms.length n) (hK : Keys ms ks) (hj : j ≤ ks.length) (hn : n < ms.length) : ∃ hl : j < ks.length, ms[n] = ks[j] := by
  rcases h with ⟨e, h⟩ | ⟨n', hn', e, _, ht, h⟩
  · omega
  · obtain rfl : n = n' := by omega
    have h1 := (hK.mem ms[n]).2 (List.getElem_mem hn)
    obtain ⟨i, hi, e⟩ := List.getElem_of_mem h1
    rw [← e] at ht
    have hji := (abvB_iff hK.up hi hj).1 ht
    have hl : j < ks.length := by omega
    refine ⟨hl, ?_⟩
    have h2 := (hK.mem ks[j]).1 (List.getElem_mem hl)
    obtain ⟨i', hi', e'⟩ := List.getElem_of_mem h2
    have h3 := h i' hi' hi' (by rw [e']; exact (abvB_iff hK.up hl hj).2 (Nat.le_refl _))
    rcases Nat.lt_or_ge j i with h4 | h4
    · have := pw_lt hK.up hl hi h4
      omega
    · obtain rfl : i = j := by omega
      omega
end Go.Proofs.Ytglpnpjjjihghaa
