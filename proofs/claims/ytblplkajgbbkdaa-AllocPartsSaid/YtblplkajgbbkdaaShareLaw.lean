/- How an amount is parted by weights, and what is left over given one by one by the rests: plain. -/
import Derived.Test.YtblplkajgbbkdaaStableLaw
namespace Go.Proofs.Ytblplkajgbbkdaa.ShareLaw
open Go.Proofs.Ytblplkajgbbkdaa.StableLaw

/-! ### counting -/
def cnt (p : Nat → Bool) : Nat → Nat
  | 0 => 0
  | n + 1 => cnt p n + if p n then 1 else 0
theorem cnt_mono {p q : Nat → Bool} : ∀ {n : Nat}, (∀ j, j < n → p j = true → q j = true) → cnt p n ≤ cnt q n
  | 0, _ => Nat.le_refl _
  | n + 1, h => by
    have ih := cnt_mono (p := p) (q := q) (n := n) fun j hj => h j (by omega)
    have hn := h n (by omega)
    unfold cnt
    cases hp : p n
    · simp; omega
    · rw [hp] at hn; rw [hn rfl]; simp; omega
theorem cnt_lt {p q : Nat → Bool} {j0 : Nat} : ∀ {n : Nat}, (∀ j, j < n → p j = true → q j = true) → j0 < n → p j0 = false → q j0 = true → cnt p n < cnt q n
  | 0, _, h0, _, _ => by omega
  | n + 1, h, h0, hp, hq => by
    by_cases e : j0 = n
    · subst e
      have ih := cnt_mono (p := p) (q := q) (n := j0) fun j hj => h j (by omega)
      unfold cnt
      rw [hp, hq]; simp; omega
    · have ih := cnt_lt (p := p) (q := q) (n := n) (fun j hj => h j (by omega)) (by omega) hp hq
      have hn := h n (by omega)
      unfold cnt
      cases hpn : p n
      · simp; omega
      · rw [hpn] at hn; rw [hn rfl]; simp; omega
theorem cnt_all : ∀ n, cnt (fun _ => true) n = n
  | 0 => rfl
  | n + 1 => by unfold cnt; rw [cnt_all n]; simp

/-! ### who is ahead -/
/-- The one with the greater rest is ahead; of like ones the first. -/
def ah (r : Nat → Int) (j i : Nat) : Bool := decide (r i < r j) || (decide (r i = r j) && decide (j < i))
theorem ah_iff {r : Nat → Int} {j i : Nat} : ah r j i = true ↔ r i < r j ∨ (r i = r j ∧ j < i) := by unfold ah; simp
theorem ah_trans {r : Nat → Int} {a b c : Nat} (h : ah r a b = true) (g : ah r b c = true) : ah r a c = true := by rw [ah_iff] at *; omega
theorem ah_irrefl (r : Nat → Int) (a : Nat) : ah r a a = false := by unfold ah; simp
theorem ah_total (r : Nat → Int) {a b : Nat} (h : a ≠ b) : ah r a b = true ∨ ah r b a = true := by rw [ah_iff, ah_iff]; omega
/-- How many are ahead. -/
def rk (r : Nat → Int) (n i : Nat) : Nat := cnt (fun j => ah r j i) n
section
variable {r : Nat → Int} {n : Nat}
theorem rk_lt_of {i j : Nat} (hj : j < n) (h : ah r j i = true) : rk r n j < rk r n i :=
  cnt_lt (j0 := j) (fun _ _ h1 => ah_trans h1 h) hj (ah_irrefl r j) h
theorem rk_lt {i : Nat} (hi : i < n) : rk r n i < n := by
  have h := cnt_lt (p := fun j => ah r j i) (q := fun _ => true) (j0 := i) (n := n) (fun _ _ _ => rfl) hi (ah_irrefl r i) rfl
  rw [cnt_all] at h
  exact h
theorem rk_inj {i j : Nat} (hi : i < n) (hj : j < n) (h : rk r n i = rk r n j) : i = j := by
  by_cases e : i = j
  · exact e
  · rcases ah_total r e with g | g
    · have := rk_lt_of hi g; omega
    · have := rk_lt_of hj g; omega
theorem ah_of_rk {i j : Nat} (hj : j < n) (h : rk r n i < rk r n j) : ah r i j = true := by
  have e : i ≠ j := fun e => by subst e; omega
  rcases ah_total r e with g | g
  · exact g
  · have := rk_lt_of hj g; omega
end
/-- Numbers below n, no two alike, are all of them. -/
theorem all_of_inj : ∀ (n : Nat) (f : Nat → Nat), (∀ i, i < n → f i < n) → (∀ i j, i < n → j < n → f i = f j → i = j) → ∀ t, t < n → ∃ i, i < n ∧ f i = t
  | 0, _, _, _, t, ht => by omega
  | n + 1, f, hf, hi, t, ht => by
    by_cases hn : ∃ i0, i0 < n ∧ f i0 = n
    · obtain ⟨i0, h0, e0⟩ := hn
      have hfn : f n < n := by
        have h1 := hf n (by omega)
        have h2 : f n ≠ n := fun e => by have := hi n i0 (by omega) (by omega) (e.trans e0.symm); omega
        omega
      by_cases c : t = n
      · exact ⟨i0, by omega, by omega⟩
      · have ih := all_of_inj n (fun i => if i = i0 then f n else f i) (fun i h => by
            split
            · exact hfn
            · rename_i hne
              have h1 := hf i (by omega)
              have h2 : f i ≠ n := fun e => hne (hi i i0 (by omega) (by omega) (e.trans e0.symm))
              omega) (fun i j h1 h2 e => by
            split at e <;> split at e
            · omega
            · have := hi n j (by omega) (by omega) e; omega
            · have := hi i n (by omega) (by omega) e; omega
            · exact hi i j (by omega) (by omega) e) t (by omega)
        obtain ⟨i, h1, h2⟩ := ih
        split at h2
        · exact ⟨n, by omega, h2⟩
        · exact ⟨i, by omega, h2⟩
    · have hlt : ∀ i, i < n → f i < n := fun i h => by
        have h1 := hf i (by omega)
        have h2 : f i ≠ n := fun e => hn ⟨i, h, e⟩
        omega
      have ih := all_of_inj n f hlt (fun i j h1 h2 => hi i j (by omega) (by omega))
      by_cases c : t < n
      · obtain ⟨i, h1, h2⟩ := ih t c
        exact ⟨i, by omega, h2⟩
      · by_cases c2 : f n = n
        · exact ⟨n, by omega, by omega⟩
        · obtain ⟨i, h1, h2⟩ := ih (f n) (by have := hf n (by omega); omega)
          have := hi i n (by omega) (by omega) h2
          omega
theorem rk_all {r : Nat → Int} {n t : Nat} (ht : t < n) : ∃ i, i < n ∧ rk r n i = t :=
  all_of_inj n (rk r n) (fun _ h => rk_lt h) (fun _ _ h1 h2 h => rk_inj h1 h2 h) t ht
/-- What grows from place to place, below n, is each place. -/
theorem grows_id {n : Nat} {f : Nat → Nat} (hf : ∀ i, i < n → f i < n) (hg : ∀ i j, i < j → j < n → f i < f j) : ∀ k, k < n → f k = k := by
  have lo : ∀ k, k < n → k ≤ f k := by
    intro k
    induction k with
    | zero => intro _; omega
    | succ k ih => intro h; have h1 := ih (by omega); have h2 := hg k (k + 1) (by omega) h; omega
  have hi : ∀ m k, k + m + 1 = n → f k ≤ k := by
    intro m
    induction m with
    | zero => intro k h; have := hf k (by omega); omega
    | succ m ih => intro k h; have h1 := ih (k + 1) (by omega); have h2 := hg k (k + 1) (by omega) (by omega); omega
  intro k hk
  have h1 := lo k hk
  have h2 := hi (n - 1 - k) k (by omega)
  omega

/-! ### the sum of a function's first values -/
def sumN (f : Nat → Int) : Nat → Int
  | 0 => 0
  | n + 1 => sumN f n + f n
theorem sumN_congr {f g : Nat → Int} : ∀ {n : Nat}, (∀ i, i < n → f i = g i) → sumN f n = sumN g n
  | 0, _ => rfl
  | n + 1, h => by unfold sumN; rw [sumN_congr fun i hi => h i (by omega), h n (by omega)]
theorem sumN_add (f g : Nat → Int) : ∀ n, sumN (fun i => f i + g i) n = sumN f n + sumN g n
  | 0 => rfl
  | n + 1 => by unfold sumN; rw [sumN_add f g n]; omega
theorem sumN_mul (c : Int) (f : Nat → Int) : ∀ n, sumN (fun i => c * f i) n = c * sumN f n
  | 0 => by unfold sumN; omega
  | n + 1 => by unfold sumN; rw [sumN_mul c f n, Int.mul_add]
theorem sumN_le {f g : Nat → Int} : ∀ {n : Nat}, (∀ i, i < n → f i ≤ g i) → sumN f n ≤ sumN g n
  | 0, _ => Int.le_refl _
  | n + 1, h => by have := sumN_le (f := f) (g := g) (n := n) fun i hi => h i (by omega); have := h n (by omega); unfold sumN; omega
theorem sumN_zero : ∀ n, sumN (fun _ => 0) n = 0
  | 0 => rfl
  | n + 1 => by unfold sumN; rw [sumN_zero n]; rfl
theorem sumN_nonneg {f : Nat → Int} {n : Nat} (h : ∀ i, i < n → 0 ≤ f i) : 0 ≤ sumN f n := by
  have := sumN_le (f := fun _ => 0) (g := f) (n := n) h
  rw [sumN_zero] at this
  exact this
theorem sumN_one {i0 : Nat} : ∀ {n : Nat}, sumN (fun i => if i = i0 then 1 else 0) n = if i0 < n then 1 else 0
  | 0 => by simp [sumN]
  | n + 1 => by
    unfold sumN
    rw [sumN_one (n := n)]
    by_cases h1 : i0 < n
    · rw [if_pos h1, if_neg (by omega), if_pos (by omega)]; rfl
    · by_cases h2 : n = i0
      · rw [if_neg h1, if_pos h2, if_pos (by omega)]; rfl
      · rw [if_neg h1, if_neg h2, if_neg (by omega)]; rfl
/-- The first t are t. -/
theorem sum_first (r : Nat → Int) (n : Nat) : ∀ t, t ≤ n → sumN (fun i => if rk r n i < t then 1 else 0) n = t
  | 0, _ => by
    have h : ∀ i, i < n → (if rk r n i < 0 then (1 : Int) else 0) = 0 := fun i _ => if_neg (by omega)
    rw [sumN_congr h, sumN_zero]; rfl
  | t + 1, ht => by
    obtain ⟨i0, h0, e0⟩ := rk_all (r := r) (n := n) (t := t) (by omega)
    have h : ∀ i, i < n → (if rk r n i < t + 1 then (1 : Int) else 0) = (if rk r n i < t then 1 else 0) + (if i = i0 then 1 else 0) := by
      intro i hi
      by_cases c : i = i0
      · subst c; rw [if_pos (by omega), if_neg (by omega), if_pos rfl]; rfl
      · have hne : rk r n i ≠ t := fun e => c (rk_inj hi h0 (e.trans e0.symm))
        rw [if_neg c]
        by_cases c2 : rk r n i < t
        · rw [if_pos c2, if_pos (by omega)]; rfl
        · rw [if_neg c2, if_neg (by omega)]; rfl
    rw [sumN_congr h, sumN_add, sum_first r n t (by omega), sumN_one, if_pos h0]
    omega

/-! ### parts -/
section
variable (T S : Int) (W : Nat → Int) (n : Nat)
/-- The part rounded down, what is left of it, and what is left of all. -/
def quo (i : Nat) : Int := T * W i / S
def rst (i : Nat) : Int := T * W i % S
def left : Int := T - sumN (quo T S W) n
/-- The parts, once t of what is left were given. -/
def partT (t : Nat) (i : Nat) : Int := quo T S W i + if rk (rst T S W) n i < t then 1 else 0
def part (i : Nat) : Int := partT T S W n (left T S W n).toNat i
end
section
variable {T S : Int} {W : Nat → Int} {n : Nat}
theorem quo_rst (i : Nat) : S * quo T S W i + rst T S W i = T * W i := Int.mul_ediv_add_emod _ _
theorem rst_bd (hS : 0 < S) (i : Nat) : 0 ≤ rst T S W i ∧ rst T S W i < S := ⟨Int.emod_nonneg _ (by omega), Int.emod_lt_of_pos _ hS⟩
theorem quo_nonneg (hS : 0 < S) (hT : 0 ≤ T) {i : Nat} (hW : 0 ≤ W i) : 0 ≤ quo T S W i := Int.ediv_nonneg (Int.mul_nonneg hT hW) (by omega)
theorem quo_le (hS : 0 < S) (hT : 0 ≤ T) {i : Nat} (hW : W i ≤ S) : quo T S W i ≤ T := by
  have h : T * W i ≤ T * S := Int.mul_le_mul_of_nonneg_left hW hT
  have h2 := Int.ediv_le_ediv hS h
  rw [Int.mul_ediv_cancel _ (by omega)] at h2
  exact h2
theorem sum_rst (hsum : sumN W n = S) : sumN (rst T S W) n = S * left T S W n := by
  have h : sumN (fun i => S * quo T S W i + rst T S W i) n = T * S := by
    rw [sumN_congr fun i _ => quo_rst i, sumN_mul, hsum]
  rw [sumN_add, sumN_mul] at h
  unfold left
  rw [Int.mul_sub, Int.mul_comm S T]
  omega
/-- How many have a rest. -/
def someN (r : Nat → Int) (n : Nat) : Nat := cnt (fun j => decide (0 < r j)) n
theorem sum_le_some {r : Nat → Int} {S : Int} (hS : 0 < S) : ∀ {n : Nat}, (∀ i, i < n → 0 ≤ r i ∧ r i < S) → sumN r n ≤ (S - 1) * (someN r n : Int)
  | 0, _ => by simp [sumN, someN, cnt]
  | n + 1, h => by
    have ih := sum_le_some (r := r) hS (n := n) fun i hi => h i (by omega)
    have hn := h n (by omega)
    unfold someN at *
    unfold sumN cnt
    by_cases c : 0 < r n
    · rw [decide_eq_true c, if_pos rfl]
      have e : (S - 1) * ((cnt (fun j => decide (0 < r j)) n + 1 : Nat) : Int) = (S - 1) * (cnt (fun j => decide (0 < r j)) n : Int) + (S - 1) := by
        rw [Int.natCast_add, Int.mul_add]; simp
      rw [e]; omega
    · rw [decide_eq_false c]
      simp only [Bool.false_eq_true, if_false, Nat.add_zero]
      omega
theorem some_le (r : Nat → Int) (n : Nat) : someN r n ≤ n := by
  have := cnt_mono (p := fun j => decide (0 < r j)) (q := fun _ => true) (n := n) fun _ _ _ => rfl
  rw [cnt_all] at this
  exact this
theorem left_bd (hS : 0 < S) (hsum : sumN W n = S) : 0 ≤ left T S W n ∧ left T S W n ≤ (someN (rst T S W) n : Int) := by
  have h1 := sum_rst (T := T) hsum
  have h2 := sum_le_some (r := rst T S W) hS (n := n) fun i _ => rst_bd hS i
  have h3 := sumN_nonneg (f := rst T S W) (n := n) fun i _ => (rst_bd hS i).1
  rw [h1] at h2 h3
  refine ⟨Int.nonneg_of_mul_nonneg_right h3 hS, ?_⟩
  have h4 : (S - 1) * (someN (rst T S W) n : Int) ≤ S * (someN (rst T S W) n : Int) := Int.mul_le_mul_of_nonneg_right (by omega) (by omega)
  exact Int.le_of_mul_le_mul_left (Int.le_trans h2 h4) hS
theorem left_le (hS : 0 < S) (hsum : sumN W n = S) : left T S W n ≤ n := by
  have h1 := (left_bd (T := T) hS hsum).2
  have h2 := some_le (rst T S W) n
  omega
theorem quo_sum_le (hS : 0 < S) (hT : 0 ≤ T) (hW : ∀ i, i < n → 0 ≤ W i) (hsum : sumN W n = S) : 0 ≤ sumN (quo T S W) n ∧ sumN (quo T S W) n ≤ T := by
  have h1 := (left_bd (T := T) hS hsum).1
  unfold left at h1
  exact ⟨sumN_nonneg fun i hi => quo_nonneg hS hT (hW i hi), by omega⟩
/-- Who is given one more has a rest. -/
theorem rst_of_first (hS : 0 < S) (hsum : sumN W n = S) {i : Nat} (h : rk (rst T S W) n i < (left T S W n).toNat) : 0 < rst T S W i := by
  have h1 := left_bd (T := T) hS hsum
  have h2 : rk (rst T S W) n i < someN (rst T S W) n := by omega
  by_cases c : 0 < rst T S W i
  · exact c
  · exfalso
    have h3 : someN (rst T S W) n ≤ rk (rst T S W) n i := cnt_mono fun j _ hj => by
      have := of_decide_eq_true hj
      rw [ah_iff]; omega
    omega
/-- Nothing is lost. -/
theorem sum_part (hS : 0 < S) (hsum : sumN W n = S) : sumN (part T S W n) n = T := by
  have h1 := left_bd (T := T) hS hsum
  have h2 := left_le (T := T) hS hsum
  unfold part partT
  rw [sumN_add, sum_first _ _ _ (by omega)]
  unfold left at *
  omega
/-- Each is rounded down, or up where there is a rest. -/
theorem part_cases (hS : 0 < S) (hsum : sumN W n = S) (i : Nat) : part T S W n i = quo T S W i ∨ (part T S W n i = quo T S W i + 1 ∧ 0 < rst T S W i) := by
  unfold part partT
  by_cases c : rk (rst T S W) n i < (left T S W n).toNat
  · rw [if_pos c]; exact .inr ⟨rfl, rst_of_first hS hsum c⟩
  · rw [if_neg c]; left; omega
theorem part_nonneg (hS : 0 < S) (hT : 0 ≤ T) (hsum : sumN W n = S) {i : Nat} (hW : 0 ≤ W i) : 0 ≤ part T S W n i := by
  have := quo_nonneg hS hT hW
  rcases part_cases (T := T) hS hsum i with h | h <;> omega
theorem part_le (hS : 0 < S) (hT : 0 ≤ T) (hsum : sumN W n = S) {i : Nat} (hW : W i ≤ S) : part T S W n i ≤ T := by
  rcases part_cases (T := T) hS hsum i with h | ⟨h, hr⟩
  · have := quo_le hS hT hW; omega
  · have e := quo_rst (T := T) (S := S) (W := W) i
    have h1 : T * W i ≤ T * S := Int.mul_le_mul_of_nonneg_left hW hT
    have h2 : S * quo T S W i < S * T := by rw [Int.mul_comm S T]; omega
    have h3 := Int.lt_of_mul_lt_mul_left h2 (by omega)
    omega
/-- Nobody has more than the weight, where there is no more than all weights. -/
theorem part_le_weight (hS : 0 < S) (hTS : T ≤ S) (hsum : sumN W n = S) {i : Nat} (hW : 0 ≤ W i) : part T S W n i ≤ W i := by
  have h1 : T * W i ≤ S * W i := Int.mul_le_mul_of_nonneg_right hTS hW
  have e := quo_rst (T := T) (S := S) (W := W) i
  have hb := rst_bd (T := T) (W := W) hS i
  rcases part_cases (T := T) hS hsum i with h | ⟨h, hr⟩
  · have h2 : S * quo T S W i ≤ S * W i := by omega
    have := Int.le_of_mul_le_mul_left h2 hS
    omega
  · have h2 : S * quo T S W i < S * W i := by omega
    have := Int.lt_of_mul_lt_mul_left h2 (by omega)
    omega
/-- A part by its size: the two tests of fairness. -/
theorem part_fair (hS : 0 < S) (hsum : sumN W n = S) (i : Nat) : (part T S W n i * S ≤ T * W i → T * W i < part T S W n i * S + S) ∧ (T * W i < part T S W n i * S → (part T S W n i - 1) * S < T * W i) := by
  have e := quo_rst (T := T) (S := S) (W := W) i
  have hb := rst_bd (T := T) (W := W) hS i
  rw [Int.mul_comm S] at e
  rcases part_cases (T := T) hS hsum i with h | ⟨h, hr⟩
  · rw [h, Int.sub_mul]
    omega
  · have e2 : (quo T S W i + 1) * S = quo T S W i * S + S := by rw [Int.add_mul]; omega
    rw [h, e2]
    have e3 : (quo T S W i + 1 - 1) = quo T S W i := by omega
    rw [e3]
    omega
/-- A greater weight has no lesser part. -/
theorem part_mono (hS : 0 < S) (hT : 0 < T) {i j : Nat} (hi : i < n) (h : W j < W i) : part T S W n j ≤ part T S W n i := by
  have e := quo_rst (T := T) (S := S) (W := W) i
  have e' := quo_rst (T := T) (S := S) (W := W) j
  have hm : T * W j < T * W i := Int.mul_lt_mul_of_pos_left h hT
  have hq : quo T S W j ≤ quo T S W i := Int.ediv_le_ediv hS (by omega)
  unfold part partT
  by_cases c : quo T S W j = quo T S W i
  · have ha : ah (rst T S W) i j = true := by rw [ah_iff]; rw [c] at e'; omega
    have := rk_lt_of (n := n) hi ha
    by_cases c2 : rk (rst T S W) n j < (left T S W n).toNat
    · rw [if_pos c2, if_pos (by omega)]; omega
    · rw [if_neg c2]; split <;> omega
  · split <;> split <;> omega
/-- Of like weights the first has no lesser part. -/
theorem part_first {i j : Nat} (hi : i < n) (h : W j = W i) (hij : i < j) : part T S W n j ≤ part T S W n i := by
  have e1 : quo T S W j = quo T S W i := by unfold quo; rw [h]
  have e2 : rst T S W j = rst T S W i := by unfold rst; rw [h]
  have ha : ah (rst T S W) i j = true := by rw [ah_iff]; omega
  have := rk_lt_of (n := n) hi ha
  unfold part partT
  rw [e1]
  by_cases c2 : rk (rst T S W) n j < (left T S W n).toNat
  · rw [if_pos c2, if_pos (by omega)]; omega
  · rw [if_neg c2]; split <;> omega
end
end Go.Proofs.Ytblplkajgbbkdaa.ShareLaw
