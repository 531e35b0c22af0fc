/- A stable order by blocks that are merged two by two: plain. -/
import Derived.Test.YtblplkajgbbkdaaStableLaw
namespace Go.Proofs.Ytblplkajgbbkdaa.StableLaw
section
variable {k : Int → Int} {n z : Nat} {f g : Nat → Int}

theorem blk_iff {y i c : Nat} (hy : 0 < y) : i / y = c ↔ c * y ≤ i ∧ i < c * y + y := by
  constructor
  · intro h
    subst h
    refine ⟨Nat.div_mul_le_self i y, ?_⟩
    have h1 := Nat.div_add_mod i y
    have h2 := Nat.mod_lt i hy
    rw [Nat.mul_comm] at h1
    omega
  · intro ⟨h1, h2⟩
    have a : c ≤ i / y := (Nat.le_div_iff_mul_le hy).2 h1
    have b : i / y < c + 1 := (Nat.div_lt_iff_lt_mul hy).2 (by rw [Nat.add_mul]; omega)
    omega
theorem half_blk (z i : Nat) : i / (2 * z) = i / z / 2 := by rw [Nat.mul_comm, Nat.div_div_eq_div_mul]

/-- The first blocks are in order, the rest is as it was. -/
structure ISt (k : Int → Int) (n : Nat) (f : Nat → Int) (a : Nat) : Prop where
  at_ : a % 20 = 0
  lo : ∀ i j, i < j → j < a → i / 20 = j / 20 → L k (f i) (f j)
  own : ∀ i, i < n → ∃ v : Nat, f i = v ∧ v / 20 = i / 20 ∧ v < n
  id_ : ∀ i, a ≤ i → i < n → f i = i
/-- All blocks are in order. -/
structure BSt (k : Int → Int) (n z : Nat) (f : Nat → Int) : Prop where
  srt : ∀ i j, i < j → j < n → i / z = j / z → L k (f i) (f j)
  own : ∀ i, i < n → ∃ v : Nat, f i = v ∧ v / z = i / z ∧ v < n
/-- The first blocks are merged two by two, the others are in order. -/
structure MSt (k : Int → Int) (n z : Nat) (f : Nat → Int) (a : Nat) : Prop where
  at_ : ∃ c, a = c * (2 * z)
  lo : ∀ i j, i < j → j < a → i / (2 * z) = j / (2 * z) → L k (f i) (f j)
  hi : ∀ i j, a ≤ i → i < j → j < n → i / z = j / z → L k (f i) (f j)
  own : ∀ i, i < n → ∃ v : Nat, f i = v ∧ v / (2 * z) = i / (2 * z) ∧ v < n
  ownh : ∀ i, a ≤ i → i < n → ∃ v : Nat, f i = v ∧ v / z = i / z ∧ v < n

theorem ISt.start (h : ∀ p, p < n → f p = p) : ISt k n f 0 := ⟨rfl, fun _ _ _ h => by omega, fun i hi => ⟨i, h i hi, rfl, hi⟩, fun i _ hi => h i hi⟩
theorem ISt.rising {a b : Nat} (h : ISt k n f a) (hb : b ≤ n) : ∀ p q, a ≤ p → p < q → q < b → f p < f q := fun p q h1 h2 h3 => by
  rw [h.id_ p h1 (by omega), h.id_ q (by omega) (by omega)]; omega
theorem ISt.own_to {a b : Nat} (h : ISt k n f a) (hb : b ≤ n) (hb' : b ≤ a + 20) (mv : Moved f g a b) : ∀ i, i < n → ∃ v : Nat, g i = v ∧ v / 20 = i / 20 ∧ v < n := fun i hi => by
  have ha := h.at_
  by_cases c : a ≤ i ∧ i < b
  · obtain ⟨j, h1, h2, e⟩ := mv.to i c.1 c.2
    exact ⟨j, by rw [e, h.id_ j h1 (by omega)], by omega, by omega⟩
  · rw [mv.out i (by omega)]; exact h.own i hi
theorem ISt.next {a : Nat} (h : ISt k n f a) (hb : a + 20 ≤ n) (mv : Moved f g a (a + 20)) (hs : Srt k g a (a + 20)) : ISt k n g (a + 20) := by
  have ha := h.at_
  refine ⟨by omega, fun i j h1 h2 h3 => ?_, h.own_to hb (Nat.le_refl _) mv, fun i h1 h2 => by rw [mv.out i (by omega), h.id_ i (by omega) h2]⟩
  by_cases c : j < a
  · rw [mv.out i (by omega), mv.out j (by omega)]; exact h.lo i j h1 c h3
  · exact hs i j (by omega) h1 h2
theorem ISt.last {a : Nat} (h : ISt k n f a) (hb : n < a + 20) (mv : Moved f g a n) (hs : Srt k g a n) : BSt k n 20 g := by
  have ha := h.at_
  refine ⟨fun i j h1 h2 h3 => ?_, h.own_to (Nat.le_refl _) (by omega) mv⟩
  by_cases c : j < a
  · rw [mv.out i (by omega), mv.out j (by omega)]; exact h.lo i j h1 c h3
  · exact hs i j (by omega) h1 h2
theorem BSt.start (h : BSt k n z f) : MSt k n z f 0 :=
  ⟨⟨0, by omega⟩, fun _ _ _ h => by omega, fun i j _ h1 h2 h3 => h.srt i j h1 h2 h3, fun i hi => by
    obtain ⟨v, e, h1, h2⟩ := h.own i hi
    exact ⟨v, e, by rw [half_blk, half_blk, h1], h2⟩, fun i _ hi => h.own i hi⟩
theorem BSt.done (h : BSt k n z f) (hz : n ≤ z) : Srt k f 0 n := fun i j _ h1 h2 => h.srt i j h1 h2 (by rw [Nat.div_eq_of_lt (by omega), Nat.div_eq_of_lt (by omega)])
theorem MSt.pair {a : Nat} (h : MSt k n z f a) (hz : 0 < z) : ∃ c, ∀ i, (a ≤ i → i < a + z → i / z = 2 * c) ∧ (a + z ≤ i → i < a + 2 * z → i / z = 2 * c + 1) ∧ (a ≤ i → i < a + 2 * z → i / (2 * z) = c) ∧ (i < a → i / (2 * z) < c) := by
  obtain ⟨c, e⟩ := h.at_
  have e2 : a = 2 * c * z := by rw [e]; simp [Nat.mul_comm, Nat.mul_left_comm]
  refine ⟨c, fun i => ⟨fun h1 h2 => (blk_iff hz).2 (by omega), fun h1 h2 => (blk_iff hz).2 ?_, fun h1 h2 => (blk_iff (by omega)).2 (by omega), fun h1 => (Nat.div_lt_iff_lt_mul (by omega)).2 (by omega)⟩⟩
  rw [Nat.add_mul]; omega
theorem MSt.runs {a b : Nat} (h : MSt k n z f a) (hz : 0 < z) (hb : b ≤ n) (hb' : b ≤ a + 2 * z) (hm : a + z ≤ b) : Srt k f a (a + z) ∧ Srt k f (a + z) b ∧ Crs f a (a + z) b := by
  obtain ⟨c, hc⟩ := h.pair hz
  refine ⟨fun i j h1 h2 h3 => h.hi i j h1 h2 (by omega) ?_, fun i j h1 h2 h3 => h.hi i j (by omega) h2 (by omega) ?_, fun i j h1 h2 h3 h4 => ?_⟩
  · rw [(hc i).1 h1 (by omega), (hc j).1 (by omega) h3]
  · rw [(hc i).2.1 h1 (by omega), (hc j).2.1 (by omega) (by omega)]
  · obtain ⟨v, ev, hv, _⟩ := h.ownh i h1 (by omega)
    obtain ⟨u, eu, hu, _⟩ := h.ownh j (by omega) (by omega)
    rw [(hc i).1 h1 h2] at hv
    rw [(hc j).2.1 h3 (by omega)] at hu
    rw [ev, eu]
    have h5 := (blk_iff hz).1 hv
    have h6 := (blk_iff hz).1 hu
    rw [Nat.add_mul] at h6
    omega
theorem MSt.own_to {a b : Nat} (h : MSt k n z f a) (hz : 0 < z) (hb : b ≤ n) (hb' : b ≤ a + 2 * z) (mv : Moved f g a b) : ∀ i, i < n → ∃ v : Nat, g i = v ∧ v / (2 * z) = i / (2 * z) ∧ v < n := fun i hi => by
  obtain ⟨c, hc⟩ := h.pair hz
  by_cases q : a ≤ i ∧ i < b
  · obtain ⟨j, h1, h2, e⟩ := mv.to i q.1 q.2
    obtain ⟨v, ev, hv, hn⟩ := h.own j (by omega)
    exact ⟨v, e.trans ev, by rw [hv, (hc i).2.2.1 q.1 (by omega), (hc j).2.2.1 h1 (by omega)], hn⟩
  · rw [mv.out i (by omega)]; exact h.own i hi
theorem MSt.next {a : Nat} (h : MSt k n z f a) (hz : 0 < z) (hb : a + 2 * z ≤ n) (mv : Moved f g a (a + 2 * z)) (hs : Srt k g a (a + 2 * z)) : MSt k n z g (a + 2 * z) := by
  obtain ⟨c, hc⟩ := h.pair hz
  refine ⟨?_, fun i j h1 h2 h3 => ?_, fun i j h1 h2 h3 h4 => ?_, h.own_to hz hb (Nat.le_refl _) mv, fun i h1 h2 => ?_⟩
  · obtain ⟨c, e⟩ := h.at_
    exact ⟨c + 1, by rw [Nat.add_mul, e]; omega⟩
  · by_cases q : j < a
    · rw [mv.out i (by omega), mv.out j (by omega)]; exact h.lo i j h1 q h3
    · by_cases q2 : i < a
      · have h5 := (hc i).2.2.2 q2
        rw [h3, (hc j).2.2.1 (by omega) h2] at h5
        omega
      · exact hs i j (by omega) h1 h2
  · rw [mv.out i (by omega), mv.out j (by omega)]; exact h.hi i j (by omega) h2 h3 h4
  · rw [mv.out i (by omega)]; exact h.ownh i (by omega) h2
theorem MSt.last {a : Nat} (h : MSt k n z f a) (hz : 0 < z) (hb : n < a + 2 * z) (mv : Moved f g a n) (hs : Srt k g a n) : BSt k n (2 * z) g := by
  obtain ⟨c, hc⟩ := h.pair hz
  refine ⟨fun i j h1 h2 h3 => ?_, h.own_to hz (Nat.le_refl _) (by omega) mv⟩
  by_cases q : j < a
  · rw [mv.out i (by omega), mv.out j (by omega)]; exact h.lo i j h1 q h3
  · by_cases q2 : i < a
    · have h5 := (hc i).2.2.2 q2
      rw [h3, (hc j).2.2.1 (by omega) (by omega)] at h5
      omega
    · exact hs i j (by omega) h1 h2
theorem MSt.none {a : Nat} (h : MSt k n z f a) (hz : 0 < z) (hb : n ≤ a + z) : BSt k n (2 * z) f := by
  obtain ⟨c, hc⟩ := h.pair hz
  exact h.last hz (by omega) (Moved.refl _ _ _) fun i j h1 h2 h3 => h.hi i j h1 h2 h3 (by rw [(hc i).1 h1 (by omega), (hc j).1 (by omega) (by omega)])
end
end Go.Proofs.Ytblplkajgbbkdaa.StableLaw
