/-
  What members left with the house, in plain Lean: out of tallies as out of events.
-/
import Derived.Test.YtgkidjjijgegmaaCnDef
namespace Go.Proofs.Ytgkidjjijgegmaa
open Go.RowKit

theorem nodup_cover : ∀ L : List (Int × Int), ∃ Q : List (Int × Int), Q.Nodup ∧ ∀ x ∈ L, x ∈ Q
  | [] => ⟨[], List.nodup_nil, fun _ h => by simp at h⟩
  | x :: L => by
    obtain ⟨Q, h1, h2⟩ := nodup_cover L
    by_cases h : x ∈ Q
    · exact ⟨Q, h1, fun y hy => by rcases List.mem_cons.1 hy with rfl | hy; exact h; exact h2 y hy⟩
    · exact ⟨x :: Q, List.nodup_cons.2 ⟨h, h1⟩, fun y hy => by rcases List.mem_cons.1 hy with rfl | hy; exact List.mem_cons_self ..; exact List.mem_cons_of_mem _ (h2 y hy)⟩
theorem sum_add {α : Type} (f g : α → Int) : ∀ L : List α, sumI (L.map fun x => f x + g x) = sumI (L.map f) + sumI (L.map g)
  | [] => rfl
  | x :: L => by
    have := sum_add f g L
    simp only [List.map_cons, sumI, this]
    omega
theorem sum_zero {α : Type} : ∀ L : List α, sumI (L.map fun _ => (0 : Int)) = 0
  | [] => rfl
  | _ :: L => by simp only [List.map_cons, sumI, sum_zero L]; rfl
theorem sum_one {q : Int × Int} {v : Int} : ∀ {Q : List (Int × Int)}, Q.Nodup → sumI (Q.map fun p => if q = p then v else 0) = if q ∈ Q then v else 0
  | [], _ => by simp [sumI]
  | p :: Q, h => by
    obtain ⟨h1, h2⟩ := List.nodup_cons.1 h
    have ih := sum_one (q := q) (v := v) h2
    simp only [List.map_cons, sumI, ih]
    by_cases e : q = p
    · subst e
      rw [if_pos rfl, if_neg h1, if_pos (List.mem_cons_self ..)]
      omega
    · rw [if_neg e]
      by_cases hq : q ∈ Q
      · rw [if_pos hq, if_pos (List.mem_cons_of_mem _ hq)]; omega
      · rw [if_neg hq, if_neg (fun h' => by rcases List.mem_cons.1 h' with h' | h'; exact e h'; exact hq h')]; rfl
/-- A sum over what has a key of a kind is the sum over these keys. -/
theorem part {α : Type} (key : α → Int × Int) (v : α → Int) (F : Int × Int → Bool) {Q : List (Int × Int)} (hQ : Q.Nodup) : ∀ L : List α, (∀ x ∈ L, key x ∈ Q) → sumI (L.map fun x => if F (key x) then v x else 0) = sumI ((Q.filter F).map fun q => sumI (L.map fun x => if key x = q then v x else 0))
  | [], _ => by
    simp only [List.map_nil, sumI]
    exact (sum_zero _).symm
  | x :: L, h => by
    have ih := part key v F hQ L (fun y hy => h y (List.mem_cons_of_mem _ hy))
    simp only [List.map_cons, sumI, ih]
    rw [sum_add (fun q => if key x = q then v x else 0) (fun q => sumI (L.map fun y => if key y = q then v y else 0)), sum_one (hQ.filter _)]
    have hx := h x (List.mem_cons_self ..)
    by_cases hF : F (key x) = true
    · rw [if_pos hF, if_pos (List.mem_filter.2 ⟨hx, hF⟩)]
    · rw [if_neg hF, if_neg (fun h' => hF (List.mem_filter.1 h').2)]
theorem sum_filter_map {α : Type} (p : α → Prop) [DecidablePred p] (v : α → Int) : ∀ L : List α, sumI ((L.filter fun x => decide (p x)).map v) = sumI (L.map fun x => if p x then v x else 0)
  | [] => rfl
  | x :: L => by
    have ih := sum_filter_map p v L
    by_cases h : p x
    · rw [List.filter_cons_of_pos (by simpa using h)]
      simp only [List.map_cons, sumI, ih, if_pos h]
    · rw [List.filter_cons_of_neg (by simpa using h)]
      simp only [List.map_cons, sumI, ih, if_neg h]
      omega
theorem sum_flat {α : Type} (v : α → List Int) : ∀ L : List α, sumI (L.flatMap v) = sumI (L.map fun x => sumI (v x))
  | [] => rfl
  | x :: L => by
    have ih := sum_flat v L
    rw [List.flatMap_cons, sumI_append, ih]
    rfl
/-- What an event brings to a column. -/
def evJ (j : Nat) (x : Ev) : Int := if plJ x.k = some j then sumI (ctr x) else 0
theorem gE_key (l : List Ev) (q : Int × Int) (j : Nat) : gE l q j = sumI (l.map fun x => if sideE x = q then evJ j x else 0) := by
  unfold gE colF
  rw [sum_flat]
  congr 1
  apply List.map_congr_left
  intro x _
  unfold evJ
  by_cases h1 : plJ x.k = some j
  · by_cases h2 : sideE x = q
    · rw [if_pos ⟨h1, h2⟩, if_pos h2, if_pos h1]
    · rw [if_neg (fun e => h2 e.2), if_neg h2]; rfl
  · rw [if_neg (fun e => h1 e.1), if_neg h1]; simp [sumI]
theorem talG_key (T : List Tl) (q : Int × Int) (j : Nat) : talG T q j = sumI (T.map fun t => if t.q = q then t.row[j]?.getD 0 else 0) := by
  unfold talG
  exact sum_filter_map (fun t : Tl => t.q = q) _ T
/-- Out of tallies as out of events: what stands in a column, of an asset. -/
theorem asset_sums {l : List Ev} {T : List Tl} (h : TalF (gE l) T) (a : Int) {j : Nat} (hj : j < 5) : sumI (T.map fun t => if t.q.2 = a then t.row[j]?.getD 0 else 0) = sumI (l.map fun x => if (sideE x).2 = a then evJ j x else 0) := by
  obtain ⟨Q, hn, hc⟩ := nodup_cover (T.map (·.q) ++ l.map sideE)
  have h1 := part (fun t : Tl => t.q) (fun t => t.row[j]?.getD 0) (fun q => decide (q.2 = a)) hn T (fun t ht => hc _ (List.mem_append_left _ (List.mem_map_of_mem ht)))
  have h2 := part sideE (evJ j) (fun q => decide (q.2 = a)) hn l (fun x hx => hc _ (List.mem_append_right _ (List.mem_map_of_mem hx)))
  simp only [decide_eq_true_eq] at h1 h2
  rw [h1, h2]
  congr 1
  apply List.map_congr_left
  intro q _
  rw [← talG_key, ← gE_key, h.sums q hj]
/-- What census.Left adds up, of an asset. -/
def leftL (T : List Tl) (a : Int) : List Int := T.flatMap fun t => if t.q.2 = a then [t.a, t.c] ++ lsL t.b else []
/-- What the law adds up. -/
def wantP (x : Ev) : List Int := if x.k = 5 ∨ x.k = 12 then [x.n] else if x.k = 6 ∨ x.k = 13 ∨ x.k = 19 then [-x.n - 1, 1] else []
def wantL (l : List Ev) (a : Int) : List Int := l.flatMap fun x => if (sideE x).2 = a then wantP x else []
theorem left_split (a : Int) : ∀ T : List Tl, (∀ t ∈ T, I64 t.b) → sumI (leftL T a) = sumI (T.map fun t => if t.q.2 = a then t.row[0]?.getD 0 else 0) + sumI (T.map fun t => if t.q.2 = a then t.row[2]?.getD 0 else 0) - sumI (T.map fun t => if t.q.2 = a then t.row[1]?.getD 0 else 0)
  | [], _ => rfl
  | t :: T, h => by
    have ih := left_split a T (fun u hu => h u (List.mem_cons_of_mem _ hu))
    unfold leftL at ih ⊢
    rw [List.flatMap_cons, sumI_append, ih]
    simp only [List.map_cons, sumI]
    by_cases e : t.q.2 = a
    · simp only [if_pos e, sumI_append, lsL_sum (h t (List.mem_cons_self ..)), sumI, Tl.row]
      simp
      omega
    · simp only [if_neg e, sumI]
      omega
theorem want_split (a : Int) : ∀ l : List Ev, (∀ x ∈ l, I64 x.n) → sumI (wantL l a) = sumI (l.map fun x => if (sideE x).2 = a then evJ 0 x else 0) + sumI (l.map fun x => if (sideE x).2 = a then evJ 2 x else 0) - sumI (l.map fun x => if (sideE x).2 = a then evJ 1 x else 0)
  | [], _ => rfl
  | x :: l, h => by
    have ih := want_split a l (fun u hu => h u (List.mem_cons_of_mem _ hu))
    unfold wantL at ih ⊢
    rw [List.flatMap_cons, sumI_append, ih]
    simp only [List.map_cons, sumI]
    by_cases e : (sideE x).2 = a
    · simp only [if_pos e]
      have hx : sumI (wantP x) = evJ 0 x + evJ 2 x - evJ 1 x := by
        have hn := lsL_sum (h x (List.mem_cons_self ..))
        unfold wantP evJ ctr plJ
        by_cases h5 : x.k = 5
        · simp [h5, sumI]
        by_cases h12 : x.k = 12
        · simp [h12, sumI]
        by_cases h6 : x.k = 6
        · simp [h6, sumI, hn]
          try omega
        by_cases h13 : x.k = 13
        · simp [h13, sumI]
          try omega
        by_cases h19 : x.k = 19
        · simp [h19, sumI]
          try omega
        by_cases h14 : x.k = 14
        · simp [h14, sumI]
        by_cases h15 : x.k = 15
        · simp [h15, sumI]
        simp [h5, h6, h12, h13, h14, h15, h19, sumI]
      rw [hx]
      omega
    · simp only [if_neg e, sumI]
      omega
theorem left_want {l : List Ev} {T : List Tl} (hI : ∀ x ∈ l, I64 x.n) (hT : ∀ t ∈ T, I64 t.b) (h : TalF (gE l) T) (a : Int) : sumI (leftL T a) = sumI (wantL l a) := by
  rw [left_split a T hT, want_split a l hI, asset_sums h a (by omega), asset_sums h a (by omega), asset_sums h a (by omega)]
theorem leftL_snoc {T : List Tl} {k : Nat} (hk : k < T.length) (a : Int) : leftL (T.take (k + 1)) a = if T[k].q.2 = a then leftL (T.take k) a ++ ([T[k].a, T[k].c] ++ lsL T[k].b) else leftL (T.take k) a := by
  unfold leftL
  rw [List.take_succ_eq_append_getElem hk, List.flatMap_append]
  by_cases h : T[k].q.2 = a
  · rw [if_pos h]; simp [h]
  · rw [if_neg h]; simp [h]
theorem leftL_len (T : List Tl) (a : Int) : (leftL T a).length ≤ 4 * T.length := by
  unfold leftL
  induction T with
  | nil => simp
  | cons t T ih =>
    rw [List.flatMap_cons, List.length_append, List.length_cons]
    have := lsL_len t.b
    split <;> simp at * <;> omega
theorem leftL_I64 {T : List Tl} (h : ∀ t ∈ T, I64 t.a ∧ I64 t.b ∧ I64 t.c) (a : Int) : ∀ y ∈ leftL T a, I64 y := by
  intro y hy
  unfold leftL at hy
  obtain ⟨t, ht, hy⟩ := List.mem_flatMap.1 hy
  obtain ⟨h1, h2, h3⟩ := h t ht
  split at hy
  · rcases List.mem_append.1 hy with hy | hy
    · simp at hy
      rcases hy with rfl | rfl
      · exact h1
      · exact h3
    · exact lsL_I64 h2 y hy
  · simp at hy
theorem wantL_snoc {l : List Ev} {k : Nat} (hk : k < l.length) (a : Int) : wantL (l.take (k + 1)) a = if (sideE l[k]).2 = a then wantL (l.take k) a ++ wantP l[k] else wantL (l.take k) a := by
  unfold wantL
  rw [List.take_succ_eq_append_getElem hk, List.flatMap_append]
  by_cases h : (sideE l[k]).2 = a
  · rw [if_pos h]; simp [h]
  · rw [if_neg h]; simp [h]
theorem wantP_len (x : Ev) : (wantP x).length ≤ 2 := by
  unfold wantP
  repeat' split
  all_goals simp
theorem wantL_len (l : List Ev) (a : Int) : (wantL l a).length ≤ 2 * l.length := by
  unfold wantL
  induction l with
  | nil => simp
  | cons x l ih =>
    rw [List.flatMap_cons, List.length_append, List.length_cons]
    have := wantP_len x
    split <;> simp at * <;> omega
theorem wantL_I64 {l : List Ev} (h : ∀ x ∈ l, I64 x.n) (a : Int) : ∀ y ∈ wantL l a, I64 y := by
  intro y hy
  unfold wantL at hy
  obtain ⟨x, hx, hy⟩ := List.mem_flatMap.1 hy
  have hn := h x hx
  split at hy
  · unfold wantP at hy
    unfold I64 at hn ⊢
    repeat' split at hy
    all_goals simp at hy
    · subst hy; exact hn
    · rcases hy with rfl | rfl <;> omega
  · simp at hy
/-- Do all assets' sums fit, of the first n? -/
def lfOk (f : Int → List Int) (n : Nat) : Bool := (List.range n).all fun a : Nat => decide (I64 (sumI (f (a : Int))))
def lfL (f : Int → List Int) (n : Nat) : List Int := (List.range n).map fun a : Nat => amtV (sumI (f (a : Int)))
theorem lfOk_snoc (f : Int → List Int) (n : Nat) : lfOk f (n + 1) = (lfOk f n && decide (I64 (sumI (f (n : Int))))) := by
  unfold lfOk
  rw [List.range_succ, List.all_append]
  simp
theorem lfL_snoc (f : Int → List Int) (n : Nat) : lfL f (n + 1) = lfL f n ++ [amtV (sumI (f (n : Int)))] := by
  unfold lfL
  rw [List.range_succ, List.map_append]
  rfl
theorem lfL_len (f : Int → List Int) (n : Nat) : (lfL f n).length = n := by simp [lfL]
theorem lfOk_congr {f g : Int → List Int} (h : ∀ a, sumI (f a) = sumI (g a)) (n : Nat) : lfOk f n = lfOk g n := by
  unfold lfOk
  congr 1
  funext a
  rw [h]
theorem lfL_congr {f g : Int → List Int} (h : ∀ a, sumI (f a) = sumI (g a)) (n : Nat) : lfL f n = lfL g n := by
  unfold lfL
  congr 1
  funext a
  rw [h]
theorem lfOk_off {f : Int → List Int} {n k : Nat} (hk : k < n) (h : ¬ I64 (sumI (f (k : Int)))) : lfOk f n = false := by
  unfold lfOk
  rw [List.all_eq_false]
  exact ⟨k, List.mem_range.2 hk, by simpa using h⟩
end Go.Proofs.Ytgkidjjijgegmaa
