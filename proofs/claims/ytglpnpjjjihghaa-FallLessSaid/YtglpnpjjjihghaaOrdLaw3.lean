/-
  Plain words for FallOrders: the sources of a pool stand by rising ranks.
-/
import Derived.Test.YtglpnpjjjihghaaOrdLaw2
namespace Go.Proofs.Ytglpnpjjjihghaa
open Go.RowKit

theorem os_up {p : Pol} {os : List Int} (h : mayE p os = 0) : os.Pairwise (· < ·) := by
  have h0 : polE p = 0 := by
    unfold mayE at h
    by_cases h0 : polE p = 0
    · exact h0
    · rw [if_pos h0] at h; exact h
  have step : ∀ k (hk : k + 1 < os.length), os[k] < os[k + 1] := fun k hk => by
    by_cases hbad : obad p.co.length os (k + 1) = true
    · rw [mayE_bad h0 hk hbad] at h
      exact absurd h (by decide)
    · have hf : obad p.co.length os (k + 1) = false := by simpa using hbad
      unfold obad at hf
      rw [getD_at hk, Nat.add_sub_cancel, getD_at (show k < os.length by omega), decide_eq_true (by omega : 0 < k + 1)] at hf
      simp only [Bool.or_eq_false_iff, decide_eq_false_iff_not, Bool.true_and] at hf
      omega
  have all : ∀ k (hk : k < os.length) i (hi : i < os.length), i < k → os[i] < os[k] := by
    intro k
    induction k with
    | zero => intro _ i _ h; omega
    | succ k ih =>
      intro hk i hi hik
      have s := step k hk
      by_cases e : i = k
      · subst e; exact s
      · have := ih (by omega) i hi (by omega); omega
  exact List.pairwise_iff_getElem.2 fun i j hi hj hij => all j hj i hi hij
theorem rank8 (os : List Int) (m : Int) : rankV os 8 m = m := by unfold rankV; rw [if_pos rfl]
theorem rank9 {os : List Int} {m : Int} (h : m ∈ os) (h1 : 1 ≤ m) (h2 : m ≤ 1000) : rankV os 9 m = 100 + m := by
  unfold rankV
  rw [if_neg (by decide), if_pos rfl, if_pos (List.contains_iff_mem.2 h)]
  unfold wrap64
  omega
theorem rank9' {os : List Int} {m : Int} (h : os.contains m = false) : rankV os 9 m = 200 := by
  unfold rankV
  rw [if_neg (by decide), if_pos rfl, h]
  rfl
theorem rank3 (os : List Int) : rankV os 3 0 = 300 := by unfold rankV; rw [if_neg (by decide), if_neg (by decide), if_pos rfl]
theorem rank4 (os : List Int) : rankV os 4 0 = 400 := by unfold rankV; rw [if_neg (by decide), if_neg (by decide), if_neg (by decide)]
theorem othersN_mem {fu os : List Int} : ∀ {k : Nat} {x : Dw}, x ∈ othersN fu os k → ∃ i : Nat, i < k ∧ os.contains ((i : Int) + 1) = false ∧ x = ⟨9, (i : Int) + 1, fu.getD i 0⟩ := by
  intro k x hx
  unfold othersN at hx
  obtain ⟨i, hi, hx⟩ := List.mem_flatMap.1 hx
  have hi := List.mem_range.1 hi
  cases hc : os.contains ((i : Int) + 1) with
  | true => rw [hc] at hx; simp at hx
  | false =>
    rw [hc] at hx
    simp only [Bool.false_eq_true, if_false, List.mem_singleton] at hx
    exact ⟨i, hi, hc, hx⟩
theorem othersN_in {fu os : List Int} {k i : Nat} (hi : i < k) (hc : os.contains ((i : Int) + 1) = false) : (⟨9, (i : Int) + 1, fu.getD i 0⟩ : Dw) ∈ othersN fu os k := by
  unfold othersN
  refine List.mem_flatMap.2 ⟨i, List.mem_range.2 hi, ?_⟩
  rw [hc]
  simp
theorem othersN_uniq (fu os : List Int) : ∀ k, (othersN fu os k).Pairwise fun x x' => ¬ (x.k = x'.k ∧ x.m = x'.m)
  | 0 => by simp [othersN]
  | k + 1 => by
    have ih := othersN_uniq fu os k
    have e : othersN fu os (k + 1) = othersN fu os k ++ (if os.contains ((k : Int) + 1) then [] else [⟨9, (k : Int) + 1, fu.getD k 0⟩]) := by
      unfold othersN
      rw [List.range_succ, List.flatMap_append, List.flatMap_singleton]
    rw [e, List.pairwise_append]
    refine ⟨ih, by split <;> simp, fun x hx x' hx' => ?_⟩
    obtain ⟨i, hi, _, rfl⟩ := othersN_mem hx
    split at hx'
    · simp at hx'
    · simp at hx'
      subst hx'
      rintro ⟨_, h⟩
      simp at h
      omega
/-- A source of a pool. -/
theorem srcs_mem {p : Pol} {os : List Int} {y : List Dw} (h : y ∈ srcs p os) : (∃ m ∈ os, y = [⟨8, m, atI p.co m⟩]) ∨ (∃ m ∈ os, y = [⟨9, m, atI p.fu m⟩]) ∨ y = othersL p.fu os ∨ y = [⟨3, 0, p.line⟩] ∨ y = [⟨4, 0, p.cap⟩] := by
  unfold srcs at h
  rcases List.mem_append.1 h with h | h
  · rcases List.mem_append.1 h with h | h
    · obtain ⟨m, hm, rfl⟩ := List.mem_map.1 h
      exact .inl ⟨m, hm, rfl⟩
    · obtain ⟨m, hm, rfl⟩ := List.mem_map.1 h
      exact .inr (.inl ⟨m, hm, rfl⟩)
  · simp at h
    exact .inr (.inr h)
theorem atI_mem {l : List Int} {m : Int} (h1 : 1 ≤ m) (h2 : m ≤ l.length) : atI l m ∈ l := by
  obtain ⟨s, hs, rfl⟩ : ∃ s : Nat, s < l.length ∧ m = (s : Int) + 1 := ⟨(m - 1).toNat, by omega, by omega⟩
  rw [atI_at hs]
  exact List.getElem_mem hs
theorem srcs_ok {p : Pol} {os : List Int} (F : MayF p os) : ∀ y ∈ srcs p os, SrcOk y := by
  have hc : ∀ x ∈ p.co, 0 ≤ x ∧ x ≤ 1099511627776 := fun x hx => F.all x (by simp [polL, hx])
  have hf : ∀ x ∈ p.fu, 0 ≤ x ∧ x ≤ 1099511627776 := fun x hx => F.all x (by simp [polL, hx])
  have hlen := F.len
  have hbig := F.big
  intro y hy
  rcases srcs_mem hy with ⟨m, hm, rfl⟩ | ⟨m, hm, rfl⟩ | rfl | rfl | rfl
  · have := F.os1 m hm
    exact ⟨fun x hx => by simp at hx; subst hx; exact hc _ (atI_mem this.1 this.2), by simp⟩
  · have := F.os1 m hm
    exact ⟨fun x hx => by simp at hx; subst hx; exact hf _ (atI_mem this.1 (by omega)), by simp⟩
  · refine ⟨fun x hx => ?_, by have := othersN_len p.fu os p.fu.length; unfold othersL; omega⟩
    obtain ⟨i, hi, _, rfl⟩ := othersN_mem hx
    show 0 ≤ p.fu.getD i 0 ∧ p.fu.getD i 0 ≤ _
    rw [getD_at hi]
    exact hf _ (List.getElem_mem hi)
  · exact ⟨fun x hx => by simp at hx; subst hx; exact F.all _ (by simp [polL]), by simp⟩
  · exact ⟨fun x hx => by simp at hx; subst hx; exact F.all _ (by simp [polL]), by simp⟩
theorem srcs_rkd {p : Pol} {os : List Int} (h : mayE p os = 0) : Rkd (rankV os) (srcs p os) := by
  have F := mayF_of h
  have hu := os_up h
  have hb := F.big
  have h1 : ∀ m ∈ os, 1 ≤ m ∧ m ≤ 16 := fun m hm => by have := F.os1 m hm; omega
  have hoth : ∀ x ∈ othersL p.fu os, rankV os x.k x.m = 200 := fun x hx => by
    obtain ⟨i, _, hc, rfl⟩ := othersN_mem hx
    exact rank9' hc
  refine ⟨?_, fun y hy x hx x' hx' => ?_, fun y hy => ?_⟩
  · unfold srcs
    rw [List.pairwise_append, List.pairwise_append, List.pairwise_map, List.pairwise_map]
    refine ⟨⟨hu.imp_of_mem fun {a b} ha hb' hab x hx x' hx' => ?_, hu.imp_of_mem fun {a b} ha hb' hab x hx x' hx' => ?_, fun y hy y' hy' x hx x' hx' => ?_⟩, ?_, fun y hy y' hy' x hx x' hx' => ?_⟩
    · simp at hx hx'; subst hx hx'
      rw [rank8, rank8]; exact hab
    · simp at hx hx'; subst hx hx'
      have := h1 a ha; have := h1 b hb'
      rw [rank9 ha (by omega) (by omega), rank9 hb' (by omega) (by omega)]; omega
    · obtain ⟨a, ha, rfl⟩ := List.mem_map.1 hy
      obtain ⟨b, hb', rfl⟩ := List.mem_map.1 hy'
      simp at hx hx'; subst hx hx'
      have := h1 a ha; have := h1 b hb'
      rw [rank8, rank9 hb' (by omega) (by omega)]; dsimp only; omega
    · refine List.pairwise_cons.2 ⟨fun y hy x hx x' hx' => ?_, List.pairwise_cons.2 ⟨fun y hy x hx x' hx' => ?_, by simp⟩⟩
      · rw [hoth x hx]
        simp at hy
        rcases hy with rfl | rfl
        · simp at hx'; subst hx'; rw [rank3]; omega
        · simp at hx'; subst hx'; rw [rank4]; omega
      · simp at hy hx
        subst hy hx
        simp at hx'
        subst hx'
        rw [rank3, rank4]; omega
    · have hlo : rankV os x.k x.m ≤ 116 := by
        rcases List.mem_append.1 hy with hy | hy
        · obtain ⟨a, ha, rfl⟩ := List.mem_map.1 hy
          simp at hx; subst hx
          have := h1 a ha
          rw [rank8]; dsimp only; omega
        · obtain ⟨a, ha, rfl⟩ := List.mem_map.1 hy
          simp at hx; subst hx
          have := h1 a ha
          rw [rank9 ha (by omega) (by omega)]; omega
      simp only [List.mem_cons, List.not_mem_nil, or_false] at hy'
      rcases hy' with rfl | rfl | rfl
      · rw [hoth x' hx']; omega
      · simp at hx'; subst hx'; rw [rank3]; omega
      · simp at hx'; subst hx'; rw [rank4]; omega
  · rcases srcs_mem hy with ⟨m, hm, rfl⟩ | ⟨m, hm, rfl⟩ | rfl | rfl | rfl
    · simp at hx hx'; subst hx hx'; rfl
    · simp at hx hx'; subst hx hx'; rfl
    · rw [hoth x hx, hoth x' hx']
    · simp at hx hx'; subst hx hx'; rfl
    · simp at hx hx'; subst hx hx'; rfl
  · rcases srcs_mem hy with ⟨m, hm, rfl⟩ | ⟨m, hm, rfl⟩ | rfl | rfl | rfl
    · simp
    · simp
    · exact othersN_uniq _ _ _
    · simp
    · simp
/-- The accounts that are asked. -/
def accN (os : List Int) (k : Nat) : List (Int × Int) := (List.range k).flatMap fun (i : Nat) => (if os.contains ((i : Int) + 1) then [(8, (i : Int) + 1)] else []) ++ [(9, (i : Int) + 1)]
def accL (os : List Int) (n : Nat) : List (Int × Int) := accN os n ++ [(3, 0), (4, 0)]
theorem accN_mem {os : List Int} {n : Nat} {a : Int × Int} (h : a ∈ accN os n) : ∃ i : Nat, i < n ∧ ((os.contains ((i : Int) + 1) = true ∧ a = (8, (i : Int) + 1)) ∨ a = (9, (i : Int) + 1)) := by
  unfold accN at h
  obtain ⟨i, hi, h⟩ := List.mem_flatMap.1 h
  refine ⟨i, List.mem_range.1 hi, ?_⟩
  rcases List.mem_append.1 h with h | h
  · cases hc : os.contains ((i : Int) + 1) with
    | true => rw [hc] at h; simp at h; exact .inl ⟨rfl, h⟩
    | false => rw [hc] at h; simp at h
  · simp at h; exact .inr h
theorem there8 {p : Pol} {m : Int} (h1 : 1 ≤ m) (h2 : m ≤ p.co.length) : thereV p 8 m = atI p.co m := by unfold thereV; rw [if_pos ⟨h1, h2, rfl⟩]
theorem there9 {p : Pol} {m : Int} (h1 : 1 ≤ m) (h2 : m ≤ p.co.length) : thereV p 9 m = atI p.fu m := by unfold thereV; rw [if_neg (by omega), if_pos ⟨h1, h2, rfl⟩]
theorem there3 (p : Pol) : thereV p 3 0 = p.line := by unfold thereV; rw [if_neg (by omega), if_neg (by omega), if_pos ⟨rfl, rfl⟩]
theorem there4 (p : Pol) : thereV p 4 0 = p.cap := by unfold thereV; rw [if_neg (by omega), if_neg (by omega), if_neg (by omega), if_pos ⟨rfl, rfl⟩]
theorem acc_src {p : Pol} {os : List Int} (F : MayF p os) {a : Int × Int} (h : a ∈ accL os p.co.length) : ∃ y ∈ srcs p os, ∃ x ∈ y, x.k = a.1 ∧ x.m = a.2 ∧ x.n = thereV p a.1 a.2 := by
  have hlen := F.len
  unfold accL at h
  rcases List.mem_append.1 h with h | h
  · obtain ⟨i, hi, ⟨hc, rfl⟩ | rfl⟩ := accN_mem h
    · have hm := List.contains_iff_mem.1 hc
      exact ⟨[⟨8, (i : Int) + 1, atI p.co ((i : Int) + 1)⟩], by unfold srcs; exact List.mem_append_left _ (List.mem_append_left _ (List.mem_map.2 ⟨_, hm, rfl⟩)), ⟨8, (i : Int) + 1, atI p.co ((i : Int) + 1)⟩, by simp, rfl, rfl, (there8 (by omega) (by omega)).symm⟩
    · cases hc : os.contains ((i : Int) + 1) with
      | true =>
        have hm := List.contains_iff_mem.1 hc
        exact ⟨[⟨9, (i : Int) + 1, atI p.fu ((i : Int) + 1)⟩], by unfold srcs; exact List.mem_append_left _ (List.mem_append_right _ (List.mem_map.2 ⟨_, hm, rfl⟩)), ⟨9, (i : Int) + 1, atI p.fu ((i : Int) + 1)⟩, by simp, rfl, rfl, (there9 (by omega) (by omega)).symm⟩
      | false =>
        refine ⟨othersL p.fu os, by unfold srcs; simp, ⟨9, (i : Int) + 1, p.fu.getD i 0⟩, othersN_in (by omega) hc, rfl, rfl, ?_⟩
        show p.fu.getD i 0 = thereV p 9 ((i : Int) + 1)
        rw [there9 (by omega) (by omega), atI_at (by omega), getD_at (by omega)]
  · simp at h
    rcases h with rfl | rfl
    · exact ⟨[⟨3, 0, p.line⟩], by unfold srcs; simp, ⟨3, 0, p.line⟩, by simp, rfl, rfl, (there3 p).symm⟩
    · exact ⟨[⟨4, 0, p.cap⟩], by unfold srcs; simp, ⟨4, 0, p.cap⟩, by simp, rfl, rfl, (there4 p).symm⟩
/-- What FallOrders says. -/
structure OrdF (p : Pol) (os : List Int) (l : List Dw) : Prop where
  up : ∀ i j (hi : i < l.length) (hj : j < l.length), i < j → rankV os l[i].k l[i].m ≤ rankV os l[j].k l[j].m
  pos : ∀ z ∈ l, 0 ≤ rankV os z.k z.m
  acc : ∀ a ∈ accL os p.co.length, 0 ≤ rankV os a.1 a.2
  full : ∀ z ∈ l, ∀ a ∈ accL os p.co.length, rankV os a.1 a.2 < rankV os z.k z.m → drwS l a.1 a.2 = thereV p a.1 a.2
  len : l.length ≤ 1000
theorem rank_pos {p : Pol} {os : List Int} (h : mayE p os = 0) {y : List Dw} (hy : y ∈ srcs p os) {x : Dw} (hx : x ∈ y) : 0 ≤ rankV os x.k x.m := by
  have F := mayF_of h
  have hb := F.big
  have h1 : ∀ m ∈ os, 1 ≤ m ∧ m ≤ 16 := fun m hm => by have := F.os1 m hm; omega
  rcases srcs_mem hy with ⟨m, hm, rfl⟩ | ⟨m, hm, rfl⟩ | rfl | rfl | rfl
  · simp at hx; subst hx
    have := h1 m hm
    rw [rank8]; dsimp only; omega
  · simp at hx; subst hx
    have := h1 m hm
    rw [rank9 hm (by omega) (by omega)]; omega
  · obtain ⟨i, _, hc, rfl⟩ := othersN_mem hx
    rw [rank9' hc]; omega
  · simp at hx; subst hx; rw [rank3]; omega
  · simp at hx; subst hx; rw [rank4]; omega
theorem ordF_of {p : Pol} {os : List Int} {need : Int} (h : planE p os need = 0) (hI : I64 need) (hol : os.length ≤ 100) : OrdF p os (planL p os need) := by
  have hm : mayE p os = 0 := by
    unfold planE at h
    by_cases h0 : mayE p os = 0
    · exact h0
    · rw [if_pos h0] at h; exact h
  have hn : 0 ≤ need := by
    unfold planE at h
    rw [if_neg (by omega)] at h
    by_cases hn : need < 0
    · rw [if_pos hn] at h; exact absurd h (by decide)
    · omega
  have F := mayF_of hm
  have hok := srcs_ok F
  have hr := srcs_rkd hm
  have hL : planL p os need = gl need (srcs p os) := by
    unfold planL
    rw [if_pos h]
    unfold plF
    rw [gl_plS _ _ _ hok hn hI, List.nil_append]
  have hlen : (planL p os need).length ≤ 1000 := by
    unfold planL
    rw [if_pos h]
    have h1 := plS_len (srcs p os) (need, [])
    have h2 := srcs_sum p os
    have h3 := F.len
    have h4 := F.big
    unfold plF
    simp only [List.length_nil, Nat.zero_add] at h1
    omega
  rw [hL] at hlen ⊢
  have hup := List.pairwise_iff_getElem.1 (gl_up (f := rankV os) hok hr hn)
  have hmem := gl_mem (nd := need) hok hn
  refine ⟨fun i j hi hj hij => hup i j hi hj hij, fun z hz => ?_, fun a ha => ?_, fun z hz a ha hlt => ?_, hlen⟩
  · obtain ⟨_, y, hy, x, hx, e1, e2⟩ := hmem z hz
    rw [e1, e2]
    exact rank_pos hm hy hx
  · obtain ⟨y, hy, x, hx, e1, e2, _⟩ := acc_src F ha
    rw [← e1, ← e2]
    exact rank_pos hm hy hx
  · obtain ⟨y, hy, x, hx, e1, e2, e3⟩ := acc_src F ha
    rw [← e1, ← e2] at hlt
    have h1 := gl_full (f := rankV os) hok hr hn z hz y hy x hx hlt
    have h2 := drwS_fold (l := gl need (srcs p os)) (k := a.1) (m := a.2) (s := 0) (fun z hz => by have := (hmem z hz).1; omega) (Int.le_refl _) (by have := gl_tot (ys := srcs p os) hok hn; unfold I64 at hI; omega)
    unfold drwS
    rw [h2, ← e3, ← h1, e1, e2]
    omega
end Go.Proofs.Ytglpnpjjjihghaa
