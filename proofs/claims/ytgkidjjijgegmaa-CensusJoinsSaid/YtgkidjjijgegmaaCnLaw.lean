/-
  Tallies in plain Lean: the list that the sums of sides determine.
-/
import Derived.Test.YtgkidjjijgegmaaCW3
namespace Go.Proofs.Ytgkidjjijgegmaa
open Go.RowKit

def sideLt (p q : Int × Int) : Prop := p.1 < q.1 ∨ p.1 = q.1 ∧ p.2 < q.2
theorem sideLt_irrefl (p : Int × Int) : ¬ sideLt p p := by unfold sideLt; omega
theorem sideLt_asymm {p q : Int × Int} (h : sideLt p q) : ¬ sideLt q p := by unfold sideLt at *; omega
theorem sideLt_trans {p q r : Int × Int} (h : sideLt p q) (h' : sideLt q r) : sideLt p r := by unfold sideLt at *; omega
theorem sideLt_total {p q : Int × Int} (h : p ≠ q) (h' : ¬ sideLt q p) : sideLt p q := by
  obtain ⟨a, b⟩ := p
  obtain ⟨c, d⟩ := q
  unfold sideLt at *
  have : ¬ (a = c ∧ b = d) := fun e => h (by rw [e.1, e.2])
  simp only at *
  omega
/-- Two lists that rise strictly and have the same members. -/
theorem rise_eq {α : Type} {lt : α → α → Prop} (ir : ∀ a, ¬ lt a a) (tr : ∀ a b c, lt a b → lt b c → lt a c) : ∀ {l m : List α}, l.Pairwise lt → m.Pairwise lt → (∀ x, x ∈ l ↔ x ∈ m) → l = m
  | [], [], _, _, _ => rfl
  | [], b :: m, _, _, h => absurd ((h b).2 (List.mem_cons_self ..)) (by simp)
  | a :: l, [], _, _, h => absurd ((h a).1 (List.mem_cons_self ..)) (by simp)
  | a :: l, b :: m, hl, hm, h => by
    obtain ⟨l1, l2⟩ := List.pairwise_cons.1 hl
    obtain ⟨m1, m2⟩ := List.pairwise_cons.1 hm
    have hab : a = b := by
      rcases List.mem_cons.1 ((h a).1 (List.mem_cons_self ..)) with e | e
      · exact e
      · rcases List.mem_cons.1 ((h b).2 (List.mem_cons_self ..)) with e' | e'
        · exact e'.symm
        · exact absurd (tr _ _ _ (m1 a e) (l1 b e')) (ir b)
    subst hab
    congr 1
    refine rise_eq ir tr l2 m2 fun x => ⟨fun hx => ?_, fun hx => ?_⟩
    · rcases List.mem_cons.1 ((h x).1 (List.mem_cons_of_mem _ hx)) with e | e
      · subst e
        exact absurd (l1 _ hx) (ir _)
      · exact e
    · rcases List.mem_cons.1 ((h x).2 (List.mem_cons_of_mem _ hx)) with e | e
      · subst e
        exact absurd (m1 _ hx) (ir _)
      · exact e
/-- The tallies of sums: each side whose sums are not all 0, once, in order. -/
structure TalF (g : Int × Int → Nat → Int) (T : List Tl) : Prop where
  srt : T.Pairwise fun a b => sideLt a.q b.q
  val : ∀ t ∈ T, t = tlOf t.q (g t.q)
  nz : ∀ t ∈ T, tlNone t = false
  all : ∀ q, tlNone (tlOf q (g q)) = false → ∃ t ∈ T, t.q = q
theorem TalF.mem {g : Int × Int → Nat → Int} {T : List Tl} (h : TalF g T) (t : Tl) : t ∈ T ↔ t = tlOf t.q (g t.q) ∧ tlNone t = false := by
  refine ⟨fun ht => ⟨h.val t ht, h.nz t ht⟩, fun ⟨h1, h2⟩ => ?_⟩
  obtain ⟨t', ht', e⟩ := h.all t.q (by rw [← h1]; exact h2)
  have := h.val t' ht'
  rw [e, ← h1] at this
  rw [← this]
  exact ht'
theorem TalF.uniq {g : Int × Int → Nat → Int} {T T' : List Tl} (h : TalF g T) (h' : TalF g T') : T = T' :=
  rise_eq (lt := fun a b : Tl => sideLt a.q b.q) (fun a => sideLt_irrefl a.q) (fun _ _ _ h1 h2 => sideLt_trans h1 h2) h.srt h'.srt fun t => (h.mem t).trans (h'.mem t).symm
theorem TalF.congr {g g' : Int × Int → Nat → Int} {T : List Tl} (h : TalF g T) (e : ∀ q j, j < 5 → g q j = g' q j) : TalF g' T := by
  have e' : ∀ q, tlOf q (g q) = tlOf q (g' q) := fun q => by
    unfold tlOf
    rw [e q 0 (by omega), e q 1 (by omega), e q 2 (by omega), e q 3 (by omega), e q 4 (by omega)]
  exact ⟨h.srt, fun t ht => by rw [← e']; exact h.val t ht, h.nz, fun q hq => h.all q (by rw [e']; exact hq)⟩
/-- What the loop over the map has put down, once these keys have come. -/
def keepB (g : Int × Int → Nat → Int) (q : Int × Int) : Bool := okR (g q) && !tlNone (tlOf q (g q))
def outL (g : Int × Int → Nat → Int) (done : List (Int × Int)) : List Tl := (done.filter (keepB g)).map fun q => tlOf q (g q)
def badB (g : Int × Int → Nat → Int) (done : List (Int × Int)) : Bool := done.any fun q => !okR (g q)
theorem outL_snoc_keep {g : Int × Int → Nat → Int} {done : List (Int × Int)} {q : Int × Int} (h : okR (g q) = true) (h' : tlNone (tlOf q (g q)) = false) : outL g (done ++ [q]) = outL g done ++ [tlOf q (g q)] := by
  unfold outL
  rw [List.filter_append, List.map_append]
  simp [keepB, h, h']
theorem outL_snoc_not {g : Int × Int → Nat → Int} {done : List (Int × Int)} {q : Int × Int} (h : okR (g q) = false ∨ tlNone (tlOf q (g q)) = true) : outL g (done ++ [q]) = outL g done := by
  unfold outL
  rw [List.filter_append, List.map_append]
  have : keepB g q = false := by unfold keepB; rcases h with h | h <;> simp [h]
  simp [this]
theorem badB_snoc {g : Int × Int → Nat → Int} {done : List (Int × Int)} {q : Int × Int} : badB g (done ++ [q]) = (badB g done || !okR (g q)) := by simp [badB]
theorem outL_len (g : Int × Int → Nat → Int) (done : List (Int × Int)) : (outL g done).length ≤ done.length := by
  unfold outL
  rw [List.length_map]
  exact List.length_filter_le ..
/-- A sorted rearrangement of what the loop has put down is the tallies. -/
theorem talF_of {g : Int × Int → Nat → Int} {done : List (Int × Int)} (hn : done.Nodup) (hb : badB g done = false) (hall : ∀ q, q ∉ done → ∀ j, g q j = 0) {T : List Tl} (hp : T.Perm (outL g done)) (hs : T.Pairwise fun a b => ¬ sideLt b.q a.q) : TalF g T := by
  have hmem : ∀ t, t ∈ T ↔ ∃ q ∈ done, keepB g q = true ∧ tlOf q (g q) = t := fun t => by
    rw [hp.mem_iff]
    unfold outL
    simp only [List.mem_map, List.mem_filter]
    constructor
    · rintro ⟨q, ⟨h1, h2⟩, h3⟩; exact ⟨q, h1, h2, h3⟩
    · rintro ⟨q, h1, h2, h3⟩; exact ⟨q, ⟨h1, h2⟩, h3⟩
  have hok : ∀ q ∈ done, okR (g q) = true := fun q hq => by
    unfold badB at hb
    rw [List.any_eq_false] at hb
    simpa using hb q hq
  have hnd : (T.map (·.q)).Nodup := by
    refine (hp.map _).nodup_iff.2 ?_
    unfold outL
    rw [List.map_map]
    have : ((fun t : Tl => t.q) ∘ fun q => tlOf q (g q)) = id := by funext q; rfl
    rw [this, List.map_id]
    exact hn.filter _
  refine ⟨?_, fun t ht => ?_, fun t ht => ?_, fun q hq => ?_⟩
  · have h1 : T.Pairwise fun a b => a.q ≠ b.q := List.pairwise_map.1 hnd
    exact (hs.and h1).imp fun ⟨a, b⟩ => sideLt_total b a
  · obtain ⟨q, _, _, rfl⟩ := (hmem t).1 ht
    rfl
  · obtain ⟨q, _, h, rfl⟩ := (hmem t).1 ht
    unfold keepB at h
    rw [Bool.and_eq_true] at h
    simpa using h.2
  · by_cases hd : q ∈ done
    · exact ⟨tlOf q (g q), (hmem _).2 ⟨q, hd, by unfold keepB; rw [hok q hd, hq]; rfl, rfl⟩, rfl⟩
    · exfalso
      have h0 := hall q hd
      have : tlNone (tlOf q (g q)) = true := by simp [tlNone, tlOf, h0]
      rw [this] at hq
      cases hq
/-- Adding up: a side's sums out of two lists of tallies. -/
def talG (T : List Tl) (q : Int × Int) (j : Nat) : Int := sumI ((T.filter fun t => decide (t.q = q)).map fun t => t.row[j]?.getD 0)
theorem talG_none {T : List Tl} {q : Int × Int} (h : ∀ t ∈ T, t.q ≠ q) (j : Nat) : talG T q j = 0 := by
  unfold talG
  have : T.filter (fun t => decide (t.q = q)) = [] := by
    rw [List.filter_eq_nil_iff]
    intro t ht
    simpa using h t ht
  rw [this]
  rfl
theorem talG_one : ∀ {T : List Tl} {t : Tl}, T.Pairwise (fun a b => sideLt a.q b.q) → t ∈ T → ∀ j, talG T t.q j = t.row[j]?.getD 0
  | [], _, _, h, _ => absurd h (by simp)
  | a :: T, t, hp, ht, j => by
    obtain ⟨h1, h2⟩ := List.pairwise_cons.1 hp
    rcases List.mem_cons.1 ht with rfl | ht
    · have : talG T t.q j = 0 := talG_none (fun x hx e => sideLt_irrefl t.q (by have := h1 x hx; rwa [e] at this)) j
      unfold talG at *
      simp [sumI, this]
    · have hne : a.q ≠ t.q := fun e => sideLt_irrefl a.q (by have := h1 t ht; rwa [← e] at this)
      have := talG_one h2 ht j
      unfold talG at *
      simp [hne, this]
theorem tlNone_zero {q : Int × Int} {g : Nat → Int} (h : tlNone (tlOf q g) = true) {j : Nat} (hj : j < 5) : g j = 0 := by
  unfold tlNone tlOf at h
  simp at h
  obtain rfl | rfl | rfl | rfl | rfl : j = 0 ∨ j = 1 ∨ j = 2 ∨ j = 3 ∨ j = 4 := by omega
  · exact h.1.1.1.1
  · exact h.1.1.1.2
  · exact h.1.1.2
  · exact h.1.2
  · exact h.2
/-- The tallies hold the sums again. -/
theorem TalF.sums {g : Int × Int → Nat → Int} {T : List Tl} (h : TalF g T) (q : Int × Int) {j : Nat} (hj : j < 5) : talG T q j = g q j := by
  cases hz : tlNone (tlOf q (g q)) with
  | true =>
    rw [tlNone_zero hz hj]
    refine talG_none (fun t ht e => ?_) j
    have h1 := h.val t ht
    have h2 := h.nz t ht
    rw [h1, e, hz] at h2
    cases h2
  | false =>
    obtain ⟨t, ht, rfl⟩ := h.all q hz
    rw [talG_one h.srt ht]
    have h1 := h.val t ht
    rw [h1]
    obtain rfl | rfl | rfl | rfl | rfl : j = 0 ∨ j = 1 ∨ j = 2 ∨ j = 3 ∨ j = 4 := by omega
    all_goals rfl
end Go.Proofs.Ytgkidjjijgegmaa
