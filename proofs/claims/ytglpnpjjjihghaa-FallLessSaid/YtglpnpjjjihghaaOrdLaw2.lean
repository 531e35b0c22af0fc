/-
  Plain words for FallOrders: ranks, and what is drawn of each source.
-/
import Derived.Test.YtglpnpjjjihghaaOrdLaw
namespace Go.Proofs.Ytglpnpjjjihghaa
open Go.RowKit

/-- Sources by rising ranks. -/
structure Rkd (f : Int → Int → Int) (ys : List (List Dw)) : Prop where
  up : ys.Pairwise fun y y' => ∀ x ∈ y, ∀ x' ∈ y', f x.k x.m < f x'.k x'.m
  eq : ∀ y ∈ ys, ∀ x ∈ y, ∀ x' ∈ y, f x.k x.m = f x'.k x'.m
  uniq : ∀ y ∈ ys, y.Pairwise fun x x' => ¬ (x.k = x'.k ∧ x.m = x'.m)
theorem Rkd.tail {f : Int → Int → Int} {y : List Dw} {ys : List (List Dw)} (h : Rkd f (y :: ys)) : Rkd f ys :=
  ⟨(List.pairwise_cons.1 h.up).2, fun y' hy => h.eq y' (by simp [hy]), fun y' hy => h.uniq y' (by simp [hy])⟩
theorem gl_up {f : Int → Int → Int} : ∀ {ys : List (List Dw)} {nd : Int}, (∀ y ∈ ys, SrcOk y) → Rkd f ys → 0 ≤ nd → (gl nd ys).Pairwise fun z z' => f z.k z.m ≤ f z'.k z'.m
  | [], _, _, _, _ => by simp [gl]
  | y :: ys, nd, h, hr, hn => by
    have F := giveF_of (h y (by simp)) hn
    have hs := F.sum0
    have hok : ∀ z ∈ ys, SrcOk z := fun z hz => h z (by simp [hz])
    unfold gl
    rw [List.pairwise_append]
    refine ⟨?_, gl_up hok hr.tail (by omega), fun z hz z' hz' => ?_⟩
    · rw [List.pairwise_iff_forall_sublist]
      intro a b hab
      have ha := hab.subset (by simp : a ∈ [a, b])
      have hb := hab.subset (by simp : b ∈ [a, b])
      obtain ⟨_, x, hx, e1, e2⟩ := F.mem a ha
      obtain ⟨_, x', hx', e3, e4⟩ := F.mem b hb
      rw [e1, e2, e3, e4]
      exact Int.le_of_eq (hr.eq y (by simp) x hx x' hx')
    · obtain ⟨_, x, hx, e1, e2⟩ := F.mem z hz
      obtain ⟨_, y', hy', x', hx', e3, e4⟩ := gl_mem hok (by omega) z' hz'
      have := (List.pairwise_cons.1 hr.up).1 y' hy' x hx x' hx'
      rw [e1, e2, e3, e4]
      omega
/-- What is drawn of a source, as numbers. -/
def drwP (l : List Dw) (k m : Int) : Int := (l.map fun x => if x.k = k ∧ x.m = m then x.n else 0).sum
theorem drwP_append (a b : List Dw) (k m : Int) : drwP (a ++ b) k m = drwP a k m + drwP b k m := by unfold drwP; rw [List.map_append, List.sum_append]
theorem drwP_cons (x : Dw) (l : List Dw) (k m : Int) : drwP (x :: l) k m = (if x.k = k ∧ x.m = m then x.n else 0) + drwP l k m := by simp [drwP]
theorem drwP_none : ∀ {l : List Dw} {k m : Int}, (∀ z ∈ l, ¬ (z.k = k ∧ z.m = m)) → drwP l k m = 0
  | [], _, _, _ => rfl
  | x :: l, k, m, h => by
    rw [drwP_cons, if_neg (h x (by simp)), drwP_none fun z hz => h z (by simp [hz])]
    rfl
theorem drwS_fold : ∀ {l : List Dw} {k m s : Int}, (∀ z ∈ l, 0 ≤ z.n) → 0 ≤ s → s + totS l ≤ 9223372036854775807 → l.foldl (fun s x => if x.k = k ∧ x.m = m then wrap64 (s + x.n) else s) s = s + drwP l k m
  | [], k, m, s, _, _, _ => by simp [drwP]
  | x :: l, k, m, s, h, h0, hb => by
    have hx := h x (by simp)
    have ht : totS (x :: l) = max x.n 0 + totS l := by simp [totS]
    have hl := totS_nonneg l
    rw [List.foldl_cons, drwP_cons]
    by_cases hc : x.k = k ∧ x.m = m
    · rw [if_pos hc, if_pos hc, show wrap64 (s + x.n) = s + x.n from by unfold wrap64; omega, drwS_fold (fun z hz => h z (by simp [hz])) (by omega) (by omega)]
      omega
    · rw [if_neg hc, if_neg hc, drwS_fold (fun z hz => h z (by simp [hz])) h0 (by omega)]
      omega
theorem drwP_filter : ∀ {y : List Dw} {x : Dw}, (∀ z ∈ y, 0 ≤ z.n) → (y.Pairwise fun x x' => ¬ (x.k = x'.k ∧ x.m = x'.m)) → x ∈ y → drwP (y.filter fun x => decide (0 < x.n)) x.k x.m = x.n
  | [], _, _, _, h => by simp at h
  | u :: y, x, h0, hp, hx => by
    obtain ⟨h1, h2⟩ := List.pairwise_cons.1 hp
    have hu := h0 u (by simp)
    rcases List.mem_cons.1 hx with rfl | hx
    · have hno : drwP (y.filter fun z => decide (0 < z.n)) x.k x.m = 0 := drwP_none fun z hz e => h1 z (List.mem_filter.1 hz).1 ⟨e.1.symm, e.2.symm⟩
      rw [List.filter_cons]
      by_cases hpos : 0 < x.n
      · rw [if_pos (by simpa using hpos), drwP_cons, if_pos ⟨rfl, rfl⟩, hno]
        omega
      · rw [if_neg (by simpa using hpos), hno]
        omega
    · have hr := drwP_filter (fun z hz => h0 z (by simp [hz])) h2 hx
      have hne := h1 x hx
      rw [List.filter_cons]
      by_cases hpos : 0 < u.n
      · rw [if_pos (by simpa using hpos), drwP_cons, if_neg hne, hr]
        omega
      · rw [if_neg (by simpa using hpos)]
        exact hr
theorem gl_full {f : Int → Int → Int} : ∀ {ys : List (List Dw)} {nd : Int}, (∀ y ∈ ys, SrcOk y) → Rkd f ys → 0 ≤ nd → ∀ z ∈ gl nd ys, ∀ y ∈ ys, ∀ x ∈ y, f x.k x.m < f z.k z.m → drwP (gl nd ys) x.k x.m = x.n
  | [], _, _, _, _, z, hz, _, _, _, _, _ => by simp [gl] at hz
  | y0 :: ys, nd, h, hr, hn, z, hz, y, hy, x, hx, hlt => by
    have F := giveF_of (h y0 (by simp)) hn
    have hs := F.sum0
    have hok : ∀ z ∈ ys, SrcOk z := fun z hz => h z (by simp [hz])
    have hup := (List.pairwise_cons.1 hr.up).1
    unfold gl at hz ⊢
    rw [drwP_append]
    rcases List.mem_append.1 hz with hz | hz
    · obtain ⟨_, u, hu, e1, e2⟩ := F.mem z hz
      rw [e1, e2] at hlt
      rcases List.mem_cons.1 hy with rfl | hy
      · have := hr.eq y (by simp) x hx u hu
        omega
      · have := hup y hy u hu x hx
        omega
    · have hpos : sumI (dwNs y0) ≤ nd := by
        rcases Int.lt_or_le nd (sumI (dwNs y0)) with hc | hc
        · rw [show nd - min nd (sumI (dwNs y0)) = 0 by omega, gl_zero hok] at hz
          simp at hz
        · exact hc
      have hnd : 0 ≤ nd - min nd (sumI (dwNs y0)) := by omega
      rcases List.mem_cons.1 hy with rfl | hy
      · rw [F.full hpos, drwP_filter (fun z hz => ((h y (by simp)).pos z hz).1) (hr.uniq y (by simp)) hx, drwP_none]
        · omega
        · intro z' hz' e
          obtain ⟨_, y', hy', x', hx', e3, e4⟩ := gl_mem hok hnd z' hz'
          have := hup y' hy' x hx x' hx'
          rw [← e.1, ← e.2, e3, e4] at this
          omega
      · rw [gl_full hok hr.tail hnd z hz y hy x hx hlt, drwP_none]
        · omega
        · intro z' hz' e
          obtain ⟨_, u, hu, e3, e4⟩ := F.mem z' hz'
          have := hup y hy u hu x hx
          rw [← e.1, ← e.2, e3, e4] at this
          omega
end Go.Proofs.Ytglpnpjjjihghaa
