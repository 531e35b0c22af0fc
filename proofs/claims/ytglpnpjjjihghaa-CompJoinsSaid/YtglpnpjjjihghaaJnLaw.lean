/-
  Plain words for CompJoins: what both lists come to.
-/
import Derived.Test.YtglpnpjjjihghaaPayLaw
namespace Go.Proofs.Ytglpnpjjjihghaa

/-- A member's amounts. -/
def amtF (L : List Lg) (q : Int) : List Int := (L.filter fun y => y.m == q).map (·.n)
theorem amtF_snoc {L : List Lg} {k : Nat} (hk : k < L.length) (q : Int) : amtF (L.take (k + 1)) q = if q = L[k].m then amtF (L.take k) q ++ [L[k].n] else amtF (L.take k) q := by
  unfold amtF
  rw [List.take_succ_eq_append_getElem hk, List.filter_append, List.map_append]
  by_cases h : q = L[k].m
  · rw [if_pos h]; simp [h]
  · rw [if_neg h]
    have h' : ¬ L[k].m = q := fun e => h e.symm
    simp [h']
theorem amtF_ok {L : List Lg} (hI : ∀ y ∈ L, I64 y.n) (q : Int) : (amtF L q).length ≤ L.length ∧ ∀ z ∈ amtF L q, I64 z := by
  unfold amtF
  refine ⟨by rw [List.length_map]; exact List.length_filter_le _ _, fun z hz => ?_⟩
  obtain ⟨y, hy, rfl⟩ := List.mem_map.1 hz
  exact hI y (List.mem_filter.1 hy).1
theorem amtF_append (A B : List Lg) (q : Int) : amtF (A ++ B) q = amtF A q ++ amtF B q := by
  unfold amtF
  rw [List.filter_append, List.map_append]
theorem amtF_bd : ∀ {L : List Lg} (q : Int), (∀ y ∈ L, 0 ≤ y.n) → 0 ≤ sumI (amtF L q) ∧ sumI (amtF L q) ≤ sumI (amts L)
  | [], _, _ => by simp [amtF, amts, sumI]
  | y :: L, q, h => by
    obtain ⟨h1, h2⟩ := amtF_bd (L := L) q fun z hz => h z (by simp [hz])
    have hy := h y (by simp)
    have e2 : sumI (amts (y :: L)) = y.n + sumI (amts L) := rfl
    by_cases hq : y.m = q
    · have e1 : amtF (y :: L) q = y.n :: amtF L q := by unfold amtF; simp [hq]
      rw [e1, e2]
      simp only [sumI]
      omega
    · have e1 : amtF (y :: L) q = amtF L q := by unfold amtF; simp [hq]
      rw [e1, e2]
      omega
theorem clm_n0 {L : List Lg} (h : clmE L = 0) : ∀ y ∈ L, 0 ≤ y.n := fun x hx => by
  obtain ⟨i, hi, rfl⟩ := List.mem_iff_getElem.1 hx
  have := (clmE_ok h).2.1 i hi
  rw [badAt_at hi] at this
  simp at this
  omega
def jnT (A B : List Lg) : Int := sumI (amts A) + sumI (amts B)
/-- Why nothing is joined. -/
def jnE (A B : List Lg) : Int := if clmE A ≠ 0 then clmE A else if clmE B ≠ 0 then clmE B else if cashB A = false then 1 else if cashB B = false then 1 else amtE (jnT A B)
theorem jn_cases (A B : List Lg) : (clmE A ≠ 0 ∧ jnE A B = clmE A) ∨ (clmE A = 0 ∧ clmE B ≠ 0 ∧ jnE A B = clmE B) ∨ (clmE A = 0 ∧ clmE B = 0 ∧ cashB A = false ∧ jnE A B = 1) ∨ (clmE A = 0 ∧ clmE B = 0 ∧ cashB A = true ∧ cashB B = false ∧ jnE A B = 1) ∨ (clmE A = 0 ∧ clmE B = 0 ∧ cashB A = true ∧ cashB B = true ∧ jnE A B = amtE (jnT A B)) := by
  unfold jnE
  by_cases h1 : clmE A = 0
  · by_cases h2 : clmE B = 0
    · cases h3 : cashB A
      · right; right; left; simp [h1, h2]
      · cases h4 : cashB B
        · right; right; right; left; simp [h1, h2]
        · right; right; right; right; simp [h1, h2]
    · right; left; simp [h1, h2]
  · left; simp [h1]
theorem jn_sums {A B : List Lg} (ha : clmE A = 0) (hb : clmE B = 0) (hT : I64 (jnT A B)) (q : Int) : I64 (sumI (amtF (A ++ B) q)) := by
  have h1 := amtF_bd q (clm_n0 ha)
  have h2 := amtF_bd q (clm_n0 hb)
  rw [amtF_append, sumI_append]
  unfold jnT I64 at *
  omega
/-- The joined legs. -/
def jnL (A B : List Lg) (ks : List Int) : List Lg := if jnE A B = 0 then gatR (amtF (A ++ B)) ks else []
theorem jn_swap (A B : List Lg) (ks : List Int) : gatR (amtF (A ++ B)) ks = gatR (amtF (B ++ A)) ks := by
  unfold gatR
  refine List.map_congr_left fun k _ => ?_
  rw [amtF_append, amtF_append, sumI_append, sumI_append, Int.add_comm]
theorem jnT_swap (A B : List Lg) : jnT A B = jnT B A := by unfold jnT; omega
theorem jnE_swap (A B : List Lg) : jnE A B = 0 ↔ jnE B A = 0 := by
  unfold jnE
  rw [jnT_swap B A]
  by_cases h1 : clmE A = 0 <;> by_cases h2 : clmE B = 0 <;> cases h3 : cashB A <;> cases h4 : cashB B <;> simp [h1, h2]
theorem sumF_mems (L : List Lg) : sumF (L.map (·.m)) (L.map (·.n)) = amtF L := by
  funext q
  unfold sumF amtF
  rw [zip_map2, List.filter_map, List.map_map]
  rfl
end Go.Proofs.Ytglpnpjjjihghaa
