/- A stable order of numbers by keys: what insertion, rotation and the merging of two runs in place come to: plain. -/
import Derived.Test.YtblplkajgbbkdaaMem
namespace Go.Proofs.Ytblplkajgbbkdaa.StableLaw
section
variable {k : Int → Int}

/-- Ahead: by the key, and of like keys the lesser number. -/
def L (k : Int → Int) (x y : Int) : Prop := k x < k y ∨ (k x = k y ∧ x < y)
theorem L.trans {x y z : Int} (h : L k x y) (g : L k y z) : L k x z := by unfold L at *; omega
theorem L.of_lt {x y : Int} (h : k x < k y) : L k x y := .inl h
theorem L.of_le {x y : Int} (h : ¬ k y < k x) (g : x < y) : L k x y := by unfold L; omega
theorem L.le {x y : Int} (h : L k x y) : k x ≤ k y := by unfold L at h; omega
theorem L.irrefl {x : Int} : ¬ L k x x := by unfold L; omega

/-- A stretch is in order. -/
def Srt (k : Int → Int) (f : Nat → Int) (a b : Nat) : Prop := ∀ i j, a ≤ i → i < j → j < b → L k (f i) (f j)
/-- The second has, in a stretch, the numbers of the first; elsewhere it is the first. -/
structure Moved (f g : Nat → Int) (a b : Nat) : Prop where
  to : ∀ i, a ≤ i → i < b → ∃ j, a ≤ j ∧ j < b ∧ g i = f j
  of : ∀ j, a ≤ j → j < b → ∃ i, a ≤ i ∧ i < b ∧ f j = g i
  out : ∀ i, i < a ∨ b ≤ i → g i = f i
theorem Moved.refl (f : Nat → Int) (a b : Nat) : Moved f f a b := ⟨fun i h1 h2 => ⟨i, h1, h2, rfl⟩, fun i h1 h2 => ⟨i, h1, h2, rfl⟩, fun _ _ => rfl⟩
theorem Moved.trans {f g h : Nat → Int} {a b : Nat} (x : Moved f g a b) (y : Moved g h a b) : Moved f h a b := by
  refine ⟨fun i h1 h2 => ?_, fun i h1 h2 => ?_, fun i hi => (y.out i hi).trans (x.out i hi)⟩
  · obtain ⟨j, h3, h4, e⟩ := y.to i h1 h2
    obtain ⟨q, h5, h6, e2⟩ := x.to j h3 h4
    exact ⟨q, h5, h6, e.trans e2⟩
  · obtain ⟨j, h3, h4, e⟩ := x.of i h1 h2
    obtain ⟨q, h5, h6, e2⟩ := y.of j h3 h4
    exact ⟨q, h5, h6, e.trans e2⟩
theorem Moved.mono {f g : Nat → Int} {a b a' b' : Nat} (x : Moved f g a b) (ha : a' ≤ a) (hb : b ≤ b') : Moved f g a' b' := by
  refine ⟨fun i h1 h2 => ?_, fun i h1 h2 => ?_, fun i hi => x.out i (by omega)⟩
  · by_cases h : a ≤ i ∧ i < b
    · obtain ⟨j, h3, h4, e⟩ := x.to i h.1 h.2
      exact ⟨j, by omega, by omega, e⟩
    · exact ⟨i, h1, h2, x.out i (by omega)⟩
  · by_cases h : a ≤ i ∧ i < b
    · obtain ⟨j, h3, h4, e⟩ := x.of i h.1 h.2
      exact ⟨j, by omega, by omega, e⟩
    · exact ⟨i, h1, h2, (x.out i (by omega)).symm⟩
/-- Two places exchanged. -/
def swapF (f : Nat → Int) (x y : Nat) : Nat → Int := fun p => if p = x then f y else if p = y then f x else f p
theorem Moved.swap (f : Nat → Int) {a b x y : Nat} (hx : a ≤ x) (hx' : x < b) (hy : a ≤ y) (hy' : y < b) : Moved f (swapF f x y) a b := by
  refine ⟨fun i h1 h2 => ?_, fun i h1 h2 => ?_, fun i hi => ?_⟩
  · unfold swapF
    split
    · exact ⟨y, hy, hy', rfl⟩
    · split
      · exact ⟨x, hx, hx', rfl⟩
      · exact ⟨i, h1, h2, rfl⟩
  · by_cases e1 : i = x
    · refine ⟨y, hy, hy', ?_⟩
      unfold swapF
      split
      · subst e1; rename_i e; rw [e]
      · rw [if_pos rfl, e1]
    · by_cases e2 : i = y
      · refine ⟨x, hx, hx', ?_⟩
        unfold swapF
        rw [if_pos rfl, e2]
      · refine ⟨i, h1, h2, ?_⟩
        unfold swapF
        rw [if_neg e1, if_neg e2]
  · unfold swapF
    rw [if_neg (by omega), if_neg (by omega)]

/-- Each of the first stretch is below each of the second. -/
def Crs (f : Nat → Int) (a m b : Nat) : Prop := ∀ i j, a ≤ i → i < m → m ≤ j → j < b → f i < f j

/-! ### insertion -/
/-- What holds as an element goes down to its place. -/
structure Ins (k : Int → Int) (f0 g : Nat → Int) (a i j : Nat) : Prop where
  mv : Moved f0 g a (i + 1)
  le : a ≤ j
  ge : j ≤ i
  srt : ∀ p q, a ≤ p → p < q → q ≤ i → p ≠ j → q ≠ j → L k (g p) (g q)
  up : ∀ q, j < q → q ≤ i → L k (g j) (g q)
  top : ∀ p, a ≤ p → p ≤ i → p ≠ j → g p < g j
theorem Ins.start {f0 g : Nat → Int} {a b i : Nat} (h0 : ∀ p q, a ≤ p → p < q → q < b → f0 p < f0 q) (hm : Moved f0 g a i) (hs : Srt k g a i) (ha : a < i) (hb : i < b) : Ins k f0 g a i i := by
  refine ⟨hm.mono (Nat.le_refl _) (by omega), by omega, Nat.le_refl _, fun p q h1 h2 h3 _ h4 => hs p q h1 h2 (by omega), fun q h1 h2 => by omega, fun p h1 h2 h3 => ?_⟩
  obtain ⟨j, h4, h5, e⟩ := hm.to p h1 (by omega)
  rw [e, hm.out i (by omega)]
  exact h0 j i h4 h5 hb
theorem Ins.step {f0 g : Nat → Int} {a i j : Nat} (h : Ins k f0 g a i j) (hj : a < j) (hl : k (g j) < k (g (j - 1))) : Ins k f0 (swapF g j (j - 1)) a i (j - 1) := by
  have h1 := h.ge
  have e1 : swapF g j (j - 1) (j - 1) = g j := by unfold swapF; rw [if_neg (by omega), if_pos rfl]
  have e2 : swapF g j (j - 1) j = g (j - 1) := by unfold swapF; rw [if_pos rfl]
  have e3 : ∀ p, p ≠ j → p ≠ j - 1 → swapF g j (j - 1) p = g p := fun p q r => by unfold swapF; rw [if_neg q, if_neg r]
  refine ⟨h.mv.trans (Moved.swap g (by omega) (by omega) (by omega) (by omega)), by omega, by omega, ?_, ?_, ?_⟩
  · intro p q ha hpq hq hp' hq'
    by_cases c1 : p = j
    · subst c1
      rw [e2, e3 q (by omega) (by omega)]
      exact h.srt (p - 1) q (by omega) (by omega) hq (by omega) (by omega)
    · by_cases c2 : q = j
      · subst c2
        rw [e2, e3 p (by omega) (by omega)]
        exact h.srt p (q - 1) ha (by omega) (by omega) (by omega) (by omega)
      · rw [e3 p c1 hp', e3 q c2 hq']
        exact h.srt p q ha hpq hq c1 c2
  · intro q hq hqi
    rw [e1]
    by_cases c : q = j
    · subst c; rw [e2]; exact .inl hl
    · rw [e3 q c (by omega)]
      exact h.up q (by omega) hqi
  · intro p ha hp hpj
    rw [e1]
    by_cases c : p = j
    · subst c; rw [e2]; exact h.top (p - 1) (by omega) (by omega) (by omega)
    · rw [e3 p c hpj]; exact h.top p ha hp c
theorem Ins.stop {f0 g : Nat → Int} {a i j : Nat} (h : Ins k f0 g a i j) (hl : j ≤ a ∨ ¬ k (g j) < k (g (j - 1))) : Srt k g a (i + 1) := by
  have hle := h.le
  have hge := h.ge
  intro p q ha hpq hq
  by_cases c1 : p = j
  · subst c1; exact h.up q hpq (by omega)
  · by_cases c2 : q = j
    · subst c2
      have hlast : L k (g (q - 1)) (g q) := L.of_le (hl.resolve_left (by omega)) (h.top (q - 1) (by omega) (by omega) (by omega))
      by_cases c3 : p = q - 1
      · rw [c3]; exact hlast
      · exact (h.srt p (q - 1) ha (by omega) (by omega) c1 (by omega)).trans hlast
    · exact h.srt p q ha hpq (by omega) c1 c2

/-! ### exchange of two stretches, and rotation -/
def swapR (f : Nat → Int) (a b n : Nat) : Nat → Int := fun p => if a ≤ p ∧ p < a + n then f (p - a + b) else if b ≤ p ∧ p < b + n then f (p - b + a) else f p
theorem swapR_zero (f : Nat → Int) (a b : Nat) : swapR f a b 0 = f := by
  funext p; unfold swapR; rw [if_neg (by omega), if_neg (by omega)]
theorem swapR_succ (f : Nat → Int) {a b n : Nat} (h : a + n < b) : swapF (swapR f a b n) (a + n) (b + n) = swapR f a b (n + 1) := by
  funext p
  unfold swapF swapR
  by_cases c1 : p = a + n
  · subst c1
    rw [if_pos rfl, if_neg (by omega), if_neg (by omega), if_pos (by omega)]
    congr 1; omega
  · rw [if_neg c1]
    by_cases c2 : p = b + n
    · subst c2
      rw [if_pos rfl, if_neg (by omega), if_neg (by omega), if_neg (by omega), if_pos (by omega)]
      congr 1; omega
    · rw [if_neg c2]
      by_cases c3 : a ≤ p ∧ p < a + n
      · rw [if_pos c3, if_pos (by omega)]
      · rw [if_neg c3]
        by_cases c4 : b ≤ p ∧ p < b + n
        · rw [if_pos c4, if_neg (by omega), if_pos (by omega)]
        · rw [if_neg c4, if_neg (by omega), if_neg (by omega)]
def rot (f : Nat → Int) (a m b : Nat) : Nat → Int := fun p => if a ≤ p ∧ p < a + (b - m) then f (p + (m - a)) else if a + (b - m) ≤ p ∧ p < b then f (p - (b - m)) else f p
theorem rot_more (g : Nat → Int) {m i j : Nat} (hj : 0 < j) (hij : j < i) (him : i ≤ m) : rot (swapR g (m - i) m j) (m - (i - j)) m (m + j) = rot g (m - i) m (m + j) := by
  funext p
  unfold rot
  by_cases c1 : m - i ≤ p ∧ p < m - i + j
  · rw [if_neg (by omega), if_neg (by omega), if_pos (by omega)]
    unfold swapR
    rw [if_pos (by omega)]
    congr 1; omega
  · by_cases c2 : m - i + j ≤ p ∧ p < m + j
    · rw [if_neg (by omega : ¬ (m - i ≤ p ∧ p < m - i + (m + j - m))), if_pos (by omega : m - i + (m + j - m) ≤ p ∧ p < m + j)]
      by_cases c3 : p < m - (i - j) + j
      · rw [if_pos (by omega)]
        unfold swapR
        rw [if_neg (by omega), if_pos (by omega)]
        congr 1; omega
      · rw [if_neg (by omega), if_pos (by omega)]
        unfold swapR
        rw [if_neg (by omega), if_neg (by omega)]
    · rw [if_neg (by omega), if_neg (by omega), if_neg (by omega), if_neg (by omega)]
      unfold swapR
      rw [if_neg (by omega), if_neg (by omega)]
theorem rot_less (g : Nat → Int) {m i j : Nat} (hi : 0 < i) (hij : i < j) (him : i ≤ m) : rot (swapR g (m - i) (m + j - i) i) (m - i) m (m + (j - i)) = rot g (m - i) m (m + j) := by
  funext p
  unfold rot
  by_cases c1 : m - i ≤ p ∧ p < m - i + (j - i)
  · rw [if_pos (by omega), if_pos (by omega)]
    unfold swapR
    by_cases c : m + j - i ≤ p + (m - (m - i))
    · omega
    · rw [if_neg (by omega), if_neg (by omega)]
  · by_cases c2 : p < m + (j - i) ∧ m - i + (j - i) ≤ p
    · rw [if_neg (by omega), if_pos (by omega), if_pos (by omega)]
      unfold swapR
      rw [if_pos (by omega)]
      congr 1; omega
    · by_cases c3 : m + j - i ≤ p ∧ p < m + j
      · rw [if_neg (by omega), if_neg (by omega), if_neg (by omega), if_pos (by omega)]
        unfold swapR
        rw [if_neg (by omega), if_pos (by omega)]
        congr 1; omega
      · rw [if_neg (by omega), if_neg (by omega), if_neg (by omega), if_neg (by omega)]
        unfold swapR
        rw [if_neg (by omega), if_neg (by omega)]
theorem rot_same (g : Nat → Int) {m i : Nat} (him : i ≤ m) : swapR g (m - i) m i = rot g (m - i) m (m + i) := by
  funext p
  unfold rot swapR
  by_cases c1 : m - i ≤ p ∧ p < m - i + i
  · rw [if_pos c1, if_pos (by omega)]; congr 1; omega
  · by_cases c2 : m ≤ p ∧ p < m + i
    · rw [if_neg c1, if_pos c2, if_neg (by omega), if_pos (by omega)]; congr 1; omega
    · rw [if_neg c1, if_neg c2, if_neg (by omega), if_neg (by omega)]
theorem rot_moved (f : Nat → Int) {a m b : Nat} (ha : a ≤ m) (hb : m ≤ b) : Moved f (rot f a m b) a b := by
  refine ⟨fun i h1 h2 => ?_, fun i h1 h2 => ?_, fun i hi => ?_⟩
  · unfold rot
    by_cases c : i < a + (b - m)
    · exact ⟨i + (m - a), by omega, by omega, by rw [if_pos (by omega)]⟩
    · exact ⟨i - (b - m), by omega, by omega, by rw [if_neg (by omega), if_pos (by omega)]⟩
  · by_cases c : i < m
    · refine ⟨i + (b - m), by omega, by omega, ?_⟩
      unfold rot
      rw [if_neg (by omega), if_pos (by omega)]; congr 1; omega
    · refine ⟨i - (m - a), by omega, by omega, ?_⟩
      unfold rot
      rw [if_pos (by omega)]; congr 1; omega
  · unfold rot
    rw [if_neg (by omega), if_neg (by omega)]
theorem rot_none (f : Nat → Int) {a m b : Nat} (h : a = m ∨ m = b) : rot f a m b = f := by
  funext p
  unfold rot
  rcases h with rfl | rfl
  · split
    · congr 1; omega
    · split
      · omega
      · rfl
  · rw [if_neg (by omega)]
    split
    · congr 1; omega
    · rfl

/-! ### the merging of two runs -/
/-- Where the halves are parted: all ahead of 'start' of the first run, and all ahead of its mirror of the second, go first. -/
structure Cut (k : Int → Int) (f : Nat → Int) (a m b mid s : Nat) : Prop where
  ge : a ≤ s
  le : s ≤ m
  le' : s ≤ mid
  eb : mid + m - s ≤ b
  hi : m ≤ mid + m - s
  lo : a < s → mid + m - s < b → L k (f (s - 1)) (f (mid + m - s))
  up : s < m → m < mid + m - s → L k (f (mid + m - s - 1)) (f s)
theorem Cut.law {f g h e : Nat → Int} {a m b mid s : Nat} (c : Cut k f a m b mid s) (hf1 : Srt k f a m) (hf2 : Srt k f m b)
    (hg : g = rot f s m (mid + m - s)) (hh : Moved g h a mid) (sh : Srt k h a mid) (he : Moved h e mid b) (se : Srt k e mid b) (hm : a ≤ mid) (hm' : mid ≤ b) : Srt k e a b ∧ Moved f e a b := by
  have c1 := c.ge; have c2 := c.le; have c3 := c.le'; have c4 := c.eb; have c5 := c.hi
  have mg : Moved f g s (mid + m - s) := hg ▸ rot_moved f c2 c5
  refine ⟨?_, (((mg.mono c1 c4).trans (hh.mono (Nat.le_refl _) hm')).trans (he.mono hm (Nat.le_refl _)))⟩
  -- each of the first half is ahead of each of the second
  have key : ∀ i j, a ≤ i → i < mid → mid ≤ j → j < b → L k (g i) (g j) := by
    intro i j h1 h2 h3 h4
    have gi : g i = if i < s then f i else f (i + (m - s)) := by
      rw [hg]; unfold rot
      by_cases q : i < s
      · rw [if_neg (by omega), if_neg (by omega), if_pos q]
      · rw [if_pos (by omega), if_neg q]
    have gj : g j = if j < mid + m - s then f (j - (mid - s)) else f j := by
      rw [hg]; unfold rot
      by_cases q : j < mid + m - s
      · rw [if_neg (by omega), if_pos (by omega), if_pos q]; congr 1; omega
      · rw [if_neg (by omega), if_neg (by omega), if_neg q]
    rw [gi, gj]
    by_cases q1 : i < s
    · rw [if_pos q1]
      by_cases q2 : j < mid + m - s
      · rw [if_pos q2]
        exact hf1 _ _ h1 (by omega) (by omega)
      · rw [if_neg q2]
        have h5 := c.lo (by omega) (by omega)
        have h6 : L k (f i) (f (mid + m - s)) := by
          by_cases q3 : i = s - 1
          · rw [q3]; exact h5
          · exact (hf1 i (s - 1) h1 (by omega) (by omega)).trans h5
        by_cases q4 : j = mid + m - s
        · rw [q4]; exact h6
        · exact h6.trans (hf2 _ j (by omega) (by omega) h4)
    · rw [if_neg q1]
      by_cases q2 : j < mid + m - s
      · rw [if_pos q2]
        have h5 := c.up (by omega) (by omega)
        have h6 : L k (f (i + (m - s))) (f s) := by
          by_cases q3 : i + (m - s) = mid + m - s - 1
          · rw [q3]; exact h5
          · exact (hf2 _ _ (by omega) (by omega) (by omega)).trans h5
        by_cases q4 : j - (mid - s) = s
        · rw [q4]; exact h6
        · exact h6.trans (hf1 _ _ (by omega) (by omega) (by omega))
      · rw [if_neg q2]
        exact hf2 _ _ (by omega) (by omega) (by omega)
  have ehl : ∀ i, i < mid → e i = h i := fun i hi => he.out i (.inl hi)
  intro i j h1 h2 h3
  by_cases q1 : j < mid
  · rw [ehl i (by omega), ehl j q1]; exact sh i j h1 h2 q1
  · by_cases q2 : mid ≤ i
    · exact se i j q2 h2 h3
    · rw [ehl i (by omega)]
      obtain ⟨x, x1, x2, ex⟩ := hh.to i h1 (by omega)
      obtain ⟨y, y1, y2, ey⟩ := he.to j (by omega) h3
      rw [ex, ey, hh.out y (.inr y1)]
      exact key x y x1 x2 y1 y2
/-- What the two halves are, each of two runs. -/
theorem Cut.halves {f : Nat → Int} {a m b mid s : Nat} (c : Cut k f a m b mid s) (hf1 : Srt k f a m) (hf2 : Srt k f m b) (hx : Crs f a m b) :
    Srt k (rot f s m (mid + m - s)) a s ∧ Srt k (rot f s m (mid + m - s)) s mid ∧ Crs (rot f s m (mid + m - s)) a s mid ∧
    Srt k (rot f s m (mid + m - s)) mid (mid + m - s) ∧ Srt k (rot f s m (mid + m - s)) (mid + m - s) b ∧ Crs (rot f s m (mid + m - s)) mid (mid + m - s) b := by
  have c1 := c.ge; have c2 := c.le; have c3 := c.le'; have c4 := c.eb; have c5 := c.hi
  have r1 : ∀ i, i < s → rot f s m (mid + m - s) i = f i := fun i hi => by unfold rot; rw [if_neg (by omega), if_neg (by omega)]
  have r2 : ∀ i, s ≤ i → i < mid → rot f s m (mid + m - s) i = f (i + (m - s)) := fun i h1 h2 => by unfold rot; rw [if_pos (by omega)]
  have r3 : ∀ i, mid ≤ i → i < mid + m - s → rot f s m (mid + m - s) i = f (i - (mid - s)) := fun i h1 h2 => by unfold rot; rw [if_neg (by omega), if_pos (by omega)]; congr 1; omega
  have r4 : ∀ i, mid + m - s ≤ i → rot f s m (mid + m - s) i = f i := fun i hi => by unfold rot; rw [if_neg (by omega), if_neg (by omega)]
  refine ⟨fun i j h1 h2 h3 => ?_, fun i j h1 h2 h3 => ?_, fun i j h1 h2 h3 h4 => ?_, fun i j h1 h2 h3 => ?_, fun i j h1 h2 h3 => ?_, fun i j h1 h2 h3 h4 => ?_⟩
  · rw [r1 i (by omega), r1 j h3]; exact hf1 i j h1 h2 (by omega)
  · rw [r2 i h1 (by omega), r2 j (by omega) h3]; exact hf2 _ _ (by omega) (by omega) (by omega)
  · rw [r1 i h2, r2 j h3 h4]; exact hx _ _ h1 (by omega) (by omega) (by omega)
  · rw [r3 i h1 (by omega), r3 j (by omega) h3]; exact hf1 _ _ (by omega) (by omega) (by omega)
  · rw [r4 i h1, r4 j (by omega)]; exact hf2 _ _ (by omega) h2 h3
  · rw [r3 i h1 h2, r4 j h3]; exact hx _ _ (by omega) (by omega) (by omega) h4

/-- The search for the cut: what holds ahead of each test. -/
structure Srch (k : Int → Int) (f : Nat → Int) (n s0 r0 s r : Nat) : Prop where
  le : s ≤ r
  ge : s0 ≤ s
  hi : r ≤ r0
  lo : s0 < s → L k (f (s - 1)) (f (n - s))
  up : r < r0 → L k (f (n - 1 - r)) (f r)
theorem Srch.start (f : Nat → Int) (n : Nat) {s0 r0 : Nat} (h : s0 ≤ r0) : Srch k f n s0 r0 s0 r0 := ⟨h, Nat.le_refl _, Nat.le_refl _, fun h => absurd h (Nat.lt_irrefl _), fun h => absurd h (Nat.lt_irrefl _)⟩
theorem Srch.right {f : Nat → Int} {n s0 r0 s r c : Nat} (h : Srch k f n s0 r0 s r) (h1 : s ≤ c) (h2 : c < r) (hc : L k (f c) (f (n - 1 - c))) : Srch k f n s0 r0 (c + 1) r :=
  ⟨h2, by have := h.ge; omega, h.hi, fun _ => by have e : n - (c + 1) = n - 1 - c := by omega
                                                 rw [e]; exact hc, h.up⟩
theorem Srch.left {f : Nat → Int} {n s0 r0 s r c : Nat} (h : Srch k f n s0 r0 s r) (h1 : s ≤ c) (h2 : c < r) (hc : L k (f (n - 1 - c)) (f c)) : Srch k f n s0 r0 s c :=
  ⟨h1, h.ge, by have := h.hi; omega, h.lo, fun _ => hc⟩
theorem Srch.cut_hi {f : Nat → Int} {a m b mid s r : Nat} (h : Srch k f (mid + m) (mid + m - b) mid s r) (hs : ¬ s < r) (hm : mid < m) (hab : a ≤ mid + m - b) (hb : b ≤ mid + m) : Cut k f a m b mid s := by
  have h1 := h.le; have h2 := h.ge; have h3 := h.hi
  have e : s = r := by omega
  subst e
  refine ⟨by omega, by omega, by omega, by omega, by omega, fun _ h5 => h.lo (by omega), fun _ h5 => ?_⟩
  have := h.up (by omega)
  have e : mid + m - s - 1 = mid + m - 1 - s := by omega
  rw [e]; exact this
theorem Srch.cut_lo {f : Nat → Int} {a m b mid s r : Nat} (h : Srch k f (mid + m) a m s r) (hs : ¬ s < r) (hm : m ≤ mid) (hb : mid + m - a ≤ b) : Cut k f a m b mid s := by
  have h1 := h.le; have h2 := h.ge; have h3 := h.hi
  have e : s = r := by omega
  subst e
  refine ⟨by omega, by omega, by omega, by omega, by omega, fun h4 _ => h.lo (by omega), fun h4 h5 => ?_⟩
  have := h.up (by omega)
  have e : mid + m - s - 1 = mid + m - 1 - s := by omega
  rw [e]; exact this
/-- One number alone goes up among a run. -/
theorem one_up {f : Nat → Int} {a b i : Nat} (hs : Srt k f (a + 1) b) (hi : a + 1 ≤ i) (hib : i ≤ b) (h1 : ∀ p, a + 1 ≤ p → p < i → L k (f p) (f a)) (h2 : ∀ p, i ≤ p → p < b → L k (f a) (f p)) :
    Srt k (rot f a (a + 1) i) a b ∧ Moved f (rot f a (a + 1) i) a b := by
  refine ⟨fun p q h3 h4 h5 => ?_, (rot_moved f (by omega) hi).mono (Nat.le_refl _) hib⟩
  have r : ∀ p, a ≤ p → p < b → rot f a (a + 1) i p = if p < i - 1 then f (p + 1) else if p = i - 1 then f a else f p := fun p h1 h2 => by
    unfold rot
    by_cases c1 : p < i - 1
    · rw [if_pos (by omega), if_pos c1]; congr 1; omega
    · rw [if_neg (by omega), if_neg c1]
      by_cases c2 : p = i - 1
      · rw [if_pos (by omega), if_pos c2]; congr 1; omega
      · rw [if_neg (by omega), if_neg c2]
  rw [r p h3 (by omega), r q (by omega) h5]
  by_cases c1 : p < i - 1
  · rw [if_pos c1]
    by_cases c2 : q < i - 1
    · rw [if_pos c2]; exact hs _ _ (by omega) (by omega) (by omega)
    · rw [if_neg c2]
      by_cases c3 : q = i - 1
      · rw [if_pos c3]; exact h1 _ (by omega) (by omega)
      · rw [if_neg c3]; exact hs _ _ (by omega) (by omega) (by omega)
  · rw [if_neg c1]
    by_cases c2 : p = i - 1
    · rw [if_pos c2, if_neg (by omega), if_neg (by omega)]; exact h2 _ (by omega) h5
    · rw [if_neg c2, if_neg (by omega), if_neg (by omega)]; exact hs _ _ (by omega) h4 h5
/-- One number alone goes down among a run. -/
theorem one_down {f : Nat → Int} {a m i : Nat} (hs : Srt k f a m) (hi : a ≤ i) (him : i ≤ m) (h1 : ∀ p, a ≤ p → p < i → L k (f p) (f m)) (h2 : ∀ p, i ≤ p → p < m → L k (f m) (f p)) :
    Srt k (rot f i m (m + 1)) a (m + 1) ∧ Moved f (rot f i m (m + 1)) a (m + 1) := by
  refine ⟨fun p q h3 h4 h5 => ?_, (rot_moved f him (by omega)).mono hi (Nat.le_refl _)⟩
  have r : ∀ p, a ≤ p → p < m + 1 → rot f i m (m + 1) p = if p < i then f p else if p = i then f m else f (p - 1) := fun p h1 h2 => by
    unfold rot
    by_cases c1 : p < i
    · rw [if_neg (by omega), if_neg (by omega), if_pos c1]
    · by_cases c2 : p = i
      · rw [if_pos (by omega), if_neg c1, if_pos c2]; congr 1; omega
      · rw [if_neg (by omega), if_pos (by omega), if_neg c1, if_neg c2]; congr 1; omega
  rw [r p h3 (by omega), r q (by omega) h5]
  by_cases c1 : p < i
  · rw [if_pos c1]
    by_cases c2 : q < i
    · rw [if_pos c2]; exact hs _ _ (by omega) (by omega) (by omega)
    · rw [if_neg c2]
      by_cases c3 : q = i
      · rw [if_pos c3]; exact h1 _ (by omega) (by omega)
      · rw [if_neg c3]; exact hs _ _ (by omega) (by omega) (by omega)
  · rw [if_neg c1]
    by_cases c2 : p = i
    · rw [if_pos c2, if_neg (by omega), if_neg (by omega)]; exact h2 _ (by omega) (by omega)
    · rw [if_neg c2, if_neg (by omega), if_neg (by omega)]; exact hs _ _ (by omega) (by omega) (by omega)
/-- One exchange more carries it one place further. -/
theorem rot_up (f : Nat → Int) {a i : Nat} (h : a + 1 ≤ i) : swapF (rot f a (a + 1) i) (i - 1) i = rot f a (a + 1) (i + 1) := by
  funext p
  unfold swapF
  by_cases c1 : p = i - 1
  · rw [if_pos c1]; unfold rot
    rw [if_neg (by omega), if_neg (by omega), if_pos (by omega)]; congr 1; omega
  · rw [if_neg c1]
    by_cases c2 : p = i
    · rw [if_pos c2]; unfold rot
      rw [if_neg (by omega), if_pos (by omega), if_neg (by omega), if_pos (by omega)]; congr 1; omega
    · rw [if_neg c2]; unfold rot
      by_cases c3 : a ≤ p ∧ p < i - 1
      · rw [if_pos (by omega), if_pos (by omega)]
      · rw [if_neg (by omega), if_neg (by omega), if_neg (by omega), if_neg (by omega)]
theorem rot_down (f : Nat → Int) {i m : Nat} (h : i < m) : swapF (rot f (i + 1) m (m + 1)) (i + 1) i = rot f i m (m + 1) := by
  funext p
  unfold swapF
  by_cases c1 : p = i + 1
  · rw [if_pos c1]; unfold rot
    rw [if_neg (by omega), if_neg (by omega), if_neg (by omega), if_pos (by omega)]; congr 1; omega
  · rw [if_neg c1]
    by_cases c2 : p = i
    · rw [if_pos c2]; unfold rot
      rw [if_pos (by omega), if_pos (by omega)]; congr 1; omega
    · rw [if_neg c2]; unfold rot
      by_cases c3 : i + 1 < p ∧ p < m + 1
      · rw [if_neg (by omega), if_pos (by omega), if_neg (by omega), if_pos (by omega)]
      · rw [if_neg (by omega), if_neg (by omega), if_neg (by omega), if_neg (by omega)]

/-! ### blocks -/
/-- Behind each stretch of 'z' places there is order, and it has its own numbers. -/
structure Blk (k : Int → Int) (n z : Nat) (f : Nat → Int) (a b : Nat) : Prop where
  srt : ∀ i j, a ≤ i → i < j → j < b → j < n → i / z = j / z → L k (f i) (f j)
  own : ∀ i, a ≤ i → i < b → i < n → ∃ v : Nat, f i = v ∧ v / z = i / z ∧ v < n
end
end Go.Proofs.Ytblplkajgbbkdaa.StableLaw
