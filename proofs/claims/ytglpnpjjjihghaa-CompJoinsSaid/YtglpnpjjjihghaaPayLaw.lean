/-
  Plain words for CompPays: what a member is paid and what it loses are what it is owed; nobody loses anything as long as there is cash enough.
-/
import Derived.Test.YtglpnpjjjihghaaAl3
import Derived.Test.YtglpnpjjjihghaaAlLaw
import Derived.Test.YtglpnpjjjihghaaCw8
namespace Go.Proofs.Ytglpnpjjjihghaa

theorem psomeL_cons (x : Lg) (L : List Lg) (n : Int) (xs : List Int) : someL (x :: L) (n :: xs) = (if 0 < n then [⟨x.m, x.a, n⟩] else []) ++ someL L xs := by
  unfold someL
  rw [List.zipWith_cons_cons, List.filter_cons]
  by_cases h : 0 < n <;> simp [h]
theorem some_of : ∀ {L : List Lg} {xs : List Int} {z : Lg}, z ∈ someL L xs → ∃ y ∈ L, z.m = y.m
  | [], _, z, h => by simp [someL] at h
  | _ :: _, [], z, h => by simp [someL] at h
  | y :: L, n :: xs, z, h => by
    rw [psomeL_cons] at h
    rcases List.mem_append.1 h with h | h
    · by_cases hn : 0 < n
      · rw [if_pos hn] at h
        simp at h
        exact ⟨y, by simp, by rw [h]⟩
      · rw [if_neg hn] at h
        simp at h
    · obtain ⟨u, hu, e⟩ := some_of h
      exact ⟨u, by simp [hu], e⟩
theorem ofV_no {m : Int} : ∀ {L : List Lg}, (∀ y ∈ L, y.m ≠ m) → ofV m L = 0
  | [], _ => rfl
  | y :: L, h => by
    unfold ofV
    rw [if_neg (h y (by simp))]
    exact ofV_no fun z hz => h z (by simp [hz])
/-- A member's number among numbers that belong to legs. -/
def pick (m : Int) : List Lg → List Int → Int
  | y :: L, x :: xs => if y.m = m then x else pick m L xs
  | _, _ => 0
theorem pick_amts (m : Int) : ∀ L : List Lg, pick m L (amts L) = ofV m L
  | [] => rfl
  | y :: L => by
    show (if y.m = m then y.n else pick m L (amts L)) = if y.m = m then y.n else ofV m L
    rw [pick_amts m L]
theorem pick_add (m : Int) : ∀ (L : List Lg) (c a : List Int), c.length = L.length → a.length = L.length → pick m L a + pick m L (List.zipWith (· - ·) c a) = pick m L c
  | [], _, _, _, _ => by simp [pick]
  | y :: L, [], _, h, _ => by simp at h
  | y :: L, _ :: _, [], _, h => by simp at h
  | y :: L, u :: c, v :: a, h, h' => by
    have := pick_add m L c a (by simpa using h) (by simpa using h')
    rw [List.zipWith_cons_cons]
    unfold pick
    split <;> omega
theorem ofV_some {m : Int} : ∀ {L : List Lg} {xs : List Int}, L.Pairwise (fun x y => x.m < y.m) → (∀ x ∈ xs, 0 ≤ x) → xs.length = L.length → ofV m (someL L xs) = pick m L xs
  | [], _, _, _, _ => by simp [someL, ofV, pick]
  | y :: L, [], _, _, h => by simp at h
  | y :: L, n :: xs, hp, hx, hl => by
    obtain ⟨h1, h2⟩ := List.pairwise_cons.1 hp
    have hr := ofV_some (m := m) (xs := xs) h2 (fun x h => hx x (by simp [h])) (by simpa using hl)
    have hn := hx n (by simp)
    rw [psomeL_cons]
    unfold pick
    by_cases hm : y.m = m
    · rw [if_pos hm]
      by_cases h0 : 0 < n
      · rw [if_pos h0]
        simp [ofV, hm]
      · rw [if_neg h0, List.nil_append, ofV_no]
        · omega
        · intro z hz
          obtain ⟨u, hu, e⟩ := some_of hz
          have := h1 u hu
          omega
    · rw [if_neg hm]
      by_cases h0 : 0 < n
      · rw [if_pos h0]
        simp only [List.singleton_append, ofV]
        rw [if_neg hm]
        exact hr
      · rw [if_neg h0, List.nil_append]
        exact hr
theorem pick_bd {m : Int} : ∀ {L : List Lg} {xs ys : List Int}, xs.length = L.length → ys.length = L.length → (∀ i (h : i < xs.length) (h' : i < ys.length), 0 ≤ xs[i] ∧ xs[i] ≤ ys[i]) → 0 ≤ pick m L xs ∧ pick m L xs ≤ pick m L ys
  | [], _, _, _, _, _ => by simp [pick]
  | y :: L, [], _, h, _, _ => by simp at h
  | y :: L, _ :: _, [], _, h, _ => by simp at h
  | y :: L, u :: xs, v :: ys, h, h', hb => by
    unfold pick
    split
    · have := hb 0 (by simp) (by simp)
      simpa using this
    · exact pick_bd (by simpa using h) (by simpa using h') fun i hi hi' => by
        have := hb (i + 1) (by simpa using hi) (by simpa using hi')
        simpa using this
theorem prise {L : List Lg} (h : clmE L = 0) : L.Pairwise (fun x y => x.m < y.m) := by
  obtain ⟨_, b, _⟩ := clmE_ok h
  have step : ∀ k (hk : k + 1 < L.length), L[k].m < L[k + 1].m := fun k hk => by
    have := b (k + 1) hk
    rw [badAt_at hk, prevM_at (by omega)] at this
    simp at this
    exact this.2.2
  have all : ∀ k (hk : k < L.length) i (hi : i < L.length), i < k → L[i].m < L[k].m := by
    intro k
    induction k with
    | zero => intro _ i _ h; omega
    | succ k ih =>
      intro hk i hi hik
      have s := step k hk
      by_cases e : i = k
      · subst e; exact s
      · have := ih (by omega) i hi (by omega); omega
  exact List.pairwise_iff_getElem.2 fun i j hi hj hij => all j hj i hi hij
theorem sum_zip : ∀ (c a : List Int), c.length = a.length → sumI (List.zipWith (· - ·) c a) = sumI c - sumI a
  | [], [], _ => by simp [sumI]
  | [], _ :: _, h => by simp at h
  | _ :: _, [], h => by simp at h
  | u :: c, v :: a, h => by
    have := sum_zip c a (by simpa using h)
    rw [List.zipWith_cons_cons]
    simp only [sumI]
    omega
theorem some_nil : ∀ {L : List Lg} {xs : List Int}, xs.length = L.length → (∀ x ∈ xs, 0 ≤ x) → (someL L xs = [] ↔ sumI xs = 0)
  | [], [], _, _ => by simp [someL, sumI]
  | [], _ :: _, h, _ => by simp at h
  | _ :: _, [], h, _ => by simp at h
  | y :: L, n :: xs, h, hx => by
    have hr := some_nil (L := L) (xs := xs) (by simpa using h) fun x hx' => hx x (by simp [hx'])
    have hn := hx n (by simp)
    have hs : 0 ≤ sumI xs := sum_nonneg fun x h => hx x (by simp [h])
    rw [psomeL_cons]
    simp only [sumI]
    by_cases h0 : 0 < n
    · rw [if_pos h0]
      constructor
      · intro h; simp at h
      · intro h; omega
    · rw [if_neg h0, List.nil_append, hr]
      omega
/-- What is said of what is paid, and of what is lost. -/
structure PayF (cash : Int) (L : List Lg) (m : Int) : Prop where
  g : givL cash L = someL L (alL cash (amts L))
  k : lackL cash L = someL L (List.zipWith (· - ·) (amts L) (alL cash (amts L)))
  gl : (givL cash L).length ≤ L.length
  ll : (lackL cash L).length ≤ L.length
  al : (alL cash (amts L)).length = L.length
  bd : ∀ i (h : i < (alL cash (amts L)).length) (h' : i < L.length), 0 ≤ (alL cash (amts L))[i] ∧ (alL cash (amts L))[i] ≤ L[i].n
  of : ofV m (givL cash L) + ofV m (lackL cash L) = ofV m L
  lo : 0 ≤ ofV m (givL cash L) ∧ ofV m (givL cash L) ≤ ofV m L
  em : lackL cash L = [] ↔ sumI (amts L) ≤ cash
theorem payF_of {cash : Int} {L : List Lg} (m : Int) (h : shE cash L = 0) : PayF cash L m := by
  obtain ⟨hck, hcl, hav⟩ := clm_chk h
  have G := given_of hck
  have hll : lostL (amts L) (alL cash (amts L)) = List.zipWith (· - ·) (amts L) (alL cash (amts L)) := by unfold lostL; rw [if_pos (given_fit hck)]
  have hg : givL cash L = someL L (alL cash (amts L)) := by unfold givL; rw [if_pos h]
  have hk : lackL cash L = someL L (List.zipWith (· - ·) (amts L) (alL cash (amts L))) := by unfold lackL; rw [if_pos h, hll]
  have hlen : (alL cash (amts L)).length = L.length := by rw [G.len, amts_len]
  have hzl : (List.zipWith (· - ·) (amts L) (alL cash (amts L))).length = L.length := by rw [List.length_zipWith, amts_len, hlen, Nat.min_self]
  have p1 : ∀ x ∈ alL cash (amts L), 0 ≤ x := fun x hx => by
    obtain ⟨i, hi, rfl⟩ := List.mem_iff_getElem.1 hx
    exact (G.bd i hi (by rw [← G.len]; exact hi)).1
  have p2 : ∀ x ∈ List.zipWith (· - ·) (amts L) (alL cash (amts L)), 0 ≤ x := fun x hx => by
    obtain ⟨i, hi, rfl⟩ := List.mem_iff_getElem.1 hx
    rw [List.length_zipWith] at hi
    rw [List.getElem_zipWith]
    have := G.bd i (by omega) (by omega)
    omega
  have hr := prise hcl
  have a1 := ofV_some (m := m) hr p1 hlen
  have a2 := ofV_some (m := m) hr p2 hzl
  have a3 := pick_add m L (amts L) (alL cash (amts L)) (amts_len L) hlen
  rw [pick_amts] at a3
  have a4 := pick_bd (m := m) (L := L) hlen (amts_len L) fun i h1 h2 => G.bd i h1 h2
  rw [pick_amts] at a4
  refine ⟨hg, hk, by rw [hg]; exact someL_le _ _, by rw [hk]; exact someL_le _ _, hlen, fun i h1 h2 => ?_, by rw [hg, hk, a1, a2]; exact a3, by rw [hg, a1]; exact a4, ?_⟩
  · have := G.bd i h1 (by rw [amts_len]; exact h2)
    have e : (amts L)[i]'(by rw [amts_len]; exact h2) = L[i].n := List.getElem_map _
    rw [e] at this
    exact this
  · rw [hk, some_nil hzl p2, sum_zip _ _ (by rw [amts_len, hlen]), G.sum]
    omega
def cashB (L : List Lg) : Bool := decide (L.length = 0) || decide (ast0 L = 0)
/-- Why nothing is paid. -/
def cpayE (cash : Int) (L : List Lg) : Int := if clmE L ≠ 0 then clmE L else if cashB L = false then 1 else if cash < 0 then 1 else 0
def chkcE (L : List Lg) : Int := if clmE L ≠ 0 then clmE L else if cashB L = false then 1 else 0
def cpayG (cash : Int) (L : List Lg) : List Lg := if cpayE cash L = 0 then givL cash L else []
def cpayK (cash : Int) (L : List Lg) : List Lg := if cpayE cash L = 0 then lackL cash L else []
theorem pay_bad {cash : Int} {L : List Lg} (h : chkcE L ≠ 0) : cpayE cash L = chkcE L ∧ cpayG cash L = [] ∧ cpayK cash L = [] := by
  have e : cpayE cash L = chkcE L := by
    unfold cpayE chkcE at *
    by_cases h1 : clmE L ≠ 0
    · rw [if_pos h1, if_pos h1]
    · rw [if_neg h1] at h
      rw [if_neg h1, if_neg h1]
      by_cases h2 : cashB L = false
      · rw [if_pos h2, if_pos h2]
      · rw [if_neg h2] at h
        exact absurd rfl h
  unfold cpayG cpayK
  rw [e, if_neg h, if_neg h]
  exact ⟨rfl, rfl, rfl⟩
theorem pay_good {cash : Int} {L : List Lg} (h : chkcE L = 0) : cpayE cash L = shE cash L ∧ cpayG cash L = givL cash L ∧ cpayK cash L = lackL cash L := by
  have e : cpayE cash L = shE cash L := by
    unfold cpayE chkcE shE at *
    by_cases h1 : clmE L ≠ 0
    · rw [if_pos h1] at h; exact absurd h h1
    · rw [if_neg h1] at h
      rw [if_neg h1, if_neg h1]
      by_cases h2 : cashB L = false
      · rw [if_pos h2] at h; exact absurd h (by decide)
      · rw [if_neg h2]
  unfold cpayG cpayK
  rw [e]
  refine ⟨rfl, ?_, ?_⟩
  · split
    · rfl
    · rename_i h; unfold givL; rw [if_neg h]
  · split
    · rfl
    · rename_i h; unfold lackL; rw [if_neg h]
end Go.Proofs.Ytglpnpjjjihghaa
