/-
  Plain words for FallOrders: a source that comes later gives just when all ahead of it give all.
-/
import Derived.Test.YtglpnpjjjihghaaFl10
namespace Go.Proofs.Ytglpnpjjjihghaa

/-- A source that may be. -/
structure SrcOk (y : List Dw) : Prop where
  pos : ∀ x ∈ y, 0 ≤ x.n ∧ x.n ≤ 1099511627776
  len : y.length ≤ 1000
theorem dwNs_sum : ∀ y : List Dw, sumI (dwNs y) = (y.map (·.n)).sum
  | [] => rfl
  | x :: y => by
    show x.n + sumI (dwNs y) = _
    rw [dwNs_sum y]
    simp
theorem dwNs_bd : ∀ {y : List Dw}, (∀ x ∈ y, 0 ≤ x.n ∧ x.n ≤ 1099511627776) → 0 ≤ sumI (dwNs y) ∧ sumI (dwNs y) ≤ 1099511627776 * (y.length : Int)
  | [], _ => by simp [dwNs, sumI]
  | x :: y, h => by
    have h1 := dwNs_bd (y := y) fun z hz => h z (by simp [hz])
    have h2 := h x (by simp)
    have e : sumI (dwNs (x :: y)) = x.n + sumI (dwNs y) := rfl
    rw [e]
    simp only [List.length_cons]
    omega
theorem chk_src {y : List Dw} {nd : Int} (h : SrcOk y) (hn : 0 ≤ nd) : chkE nd (dwNs y) = 0 := by
  have hb := dwNs_bd h.pos
  have hl := h.len
  have hlen : (dwNs y).length = y.length := by simp [dwNs]
  unfold chkE
  rw [if_neg (by omega), if_neg, (amt_in (by unfold I64; omega)).2]
  rintro (h1 | h1)
  · omega
  · unfold negB at h1
    obtain ⟨x, hx, hx'⟩ := List.any_eq_true.1 h1
    obtain ⟨z, hz, rfl⟩ := List.mem_map.1 hx
    have := (h.pos z hz).1
    simp at hx'
    omega
theorem dwSome_cons (x : Dw) (y : List Dw) (n : Int) (zs : List Int) : dwSome (x :: y) (n :: zs) = (if 0 < n then [⟨x.k, x.m, n⟩] else []) ++ dwSome y zs := by
  unfold dwSome
  rw [List.zipWith_cons_cons, List.filter_cons]
  by_cases h : 0 < n <;> simp [h]
theorem dwSome_of : ∀ {y : List Dw} {zs : List Int} {z : Dw}, z ∈ dwSome y zs → 0 < z.n ∧ ∃ x ∈ y, z.k = x.k ∧ z.m = x.m
  | [], _, z, h => by simp [dwSome] at h
  | _ :: _, [], z, h => by simp [dwSome] at h
  | x :: y, n :: zs, z, h => by
    rw [dwSome_cons] at h
    rcases List.mem_append.1 h with h | h
    · by_cases hn : 0 < n
      · rw [if_pos hn] at h
        simp at h
        subst h
        exact ⟨hn, x, by simp, rfl, rfl⟩
      · rw [if_neg hn] at h; simp at h
    · obtain ⟨h1, u, hu, e⟩ := dwSome_of h
      exact ⟨h1, u, by simp [hu], e⟩
theorem dwSome_tot : ∀ {y : List Dw} {zs : List Int}, zs.length = y.length → (∀ z ∈ zs, 0 ≤ z) → totS (dwSome y zs) = sumI zs
  | [], [], _, _ => rfl
  | [], _ :: _, h, _ => by simp at h
  | _ :: _, [], h, _ => by simp at h
  | x :: y, n :: zs, h, hz => by
    have hr := dwSome_tot (y := y) (zs := zs) (by simpa using h) fun z hz' => hz z (by simp [hz'])
    have hn := hz n (by simp)
    rw [dwSome_cons]
    have e : sumI (n :: zs) = n + sumI zs := rfl
    rw [e]
    unfold totS at *
    rw [List.map_append, List.sum_append, hr]
    by_cases h0 : 0 < n
    · rw [if_pos h0]
      simp only [List.map_cons, List.map_nil, List.sum_cons, List.sum_nil]
      omega
    · rw [if_neg h0]
      simp only [List.map_nil, List.sum_nil]
      omega
theorem dwSome_self : ∀ y : List Dw, dwSome y (dwNs y) = y.filter fun x => decide (0 < x.n)
  | [] => rfl
  | x :: y => by
    show dwSome (x :: y) (x.n :: dwNs y) = _
    rw [dwSome_cons, dwSome_self y, List.filter_cons]
    by_cases h : 0 < x.n <;> simp [h]
structure GiveF (y : List Dw) (nd : Int) : Prop where
  mem : ∀ z ∈ giveL y nd, 0 < z.n ∧ ∃ x ∈ y, z.k = x.k ∧ z.m = x.m
  tot : totS (giveL y nd) = min nd (sumI (dwNs y))
  full : sumI (dwNs y) ≤ nd → giveL y nd = y.filter fun x => decide (0 < x.n)
  sum0 : 0 ≤ sumI (dwNs y)
theorem giveF_of {y : List Dw} {nd : Int} (h : SrcOk y) (hn : 0 ≤ nd) : GiveF y nd := by
  have hc := chk_src h hn
  have G := given_of hc
  refine ⟨fun z hz => dwSome_of hz, ?_, fun hs => ?_, (dwNs_bd h.pos).1⟩
  · unfold giveL
    rw [dwSome_tot (by rw [G.len]; simp [dwNs]) fun z hz => ?_, G.sum]
    obtain ⟨i, hi, rfl⟩ := List.getElem_of_mem hz
    exact (G.bd i hi (by rw [← G.len]; exact hi)).1
  · unfold giveL
    rw [show alL nd (dwNs y) = dwNs y from by unfold alL; rw [if_neg (by omega), if_pos hs], dwSome_self]
/-- What is drawn, source by source. -/
def gl : Int → List (List Dw) → List Dw
  | _, [] => []
  | nd, y :: ys => giveL y nd ++ gl (nd - min nd (sumI (dwNs y))) ys
theorem totS_append (a b : List Dw) : totS (a ++ b) = totS a + totS b := by unfold totS; rw [List.map_append, List.sum_append]
theorem gl_plS : ∀ (ys : List (List Dw)) (nd : Int) (L : List Dw), (∀ y ∈ ys, SrcOk y) → 0 ≤ nd → I64 nd → (ys.foldl plS (nd, L)).2 = L ++ gl nd ys
  | [], nd, L, _, _, _ => by simp [gl]
  | y :: ys, nd, L, h, hn, hI => by
    have F := giveF_of (h y (by simp)) hn
    have hs := F.sum0
    have ht : totV (giveL y nd) = min nd (sumI (dwNs y)) := by
      unfold I64 at hI
      rw [totV_all (by rw [F.tot]; omega), F.tot]
    have hw : IntKind.i64.wrap (nd - min nd (sumI (dwNs y))) = nd - min nd (sumI (dwNs y)) := IntWalk.i64_in _ (by unfold I64 at hI; omega)
    rw [List.foldl_cons]
    have e : plS (nd, L) y = (nd - min nd (sumI (dwNs y)), L ++ giveL y nd) := by unfold plS; rw [ht, hw]
    rw [e, gl_plS ys _ _ (fun z hz => h z (by simp [hz])) (by omega) (by unfold I64 at *; omega)]
    simp [gl]
theorem gl_zero : ∀ {ys : List (List Dw)}, (∀ y ∈ ys, SrcOk y) → gl 0 ys = []
  | [], _ => rfl
  | y :: ys, h => by
    have F := giveF_of (nd := 0) (h y (by simp)) (Int.le_refl _)
    have hs := F.sum0
    have e : giveL y 0 = [] := by
      cases hg : giveL y 0 with
      | nil => rfl
      | cons z l =>
        have h1 := (F.mem z (by rw [hg]; simp)).1
        have h2 := F.tot
        rw [hg] at h2
        have h3 : totS (z :: l) = max z.n 0 + totS l := by simp [totS]
        have h4 := totS_nonneg l
        omega
    unfold gl
    rw [e, show (0 : Int) - min 0 (sumI (dwNs y)) = 0 by omega, gl_zero fun z hz => h z (by simp [hz])]
    rfl
theorem gl_mem : ∀ {ys : List (List Dw)} {nd : Int}, (∀ y ∈ ys, SrcOk y) → 0 ≤ nd → ∀ z ∈ gl nd ys, 0 < z.n ∧ ∃ y ∈ ys, ∃ x ∈ y, z.k = x.k ∧ z.m = x.m
  | [], _, _, _, z, hz => by simp [gl] at hz
  | y :: ys, nd, h, hn, z, hz => by
    have F := giveF_of (h y (by simp)) hn
    have hs := F.sum0
    unfold gl at hz
    rcases List.mem_append.1 hz with hz | hz
    · obtain ⟨h1, x, hx, e⟩ := F.mem z hz
      exact ⟨h1, y, by simp, x, hx, e⟩
    · obtain ⟨h1, y', hy, x, hx, e⟩ := gl_mem (fun z hz => h z (by simp [hz])) (by omega) z hz
      exact ⟨h1, y', by simp [hy], x, hx, e⟩
theorem gl_tot : ∀ {ys : List (List Dw)} {nd : Int}, (∀ y ∈ ys, SrcOk y) → 0 ≤ nd → totS (gl nd ys) ≤ nd
  | [], nd, _, hn => by simpa [gl, totS] using hn
  | y :: ys, nd, h, hn => by
    have F := giveF_of (h y (by simp)) hn
    have hs := F.sum0
    have := gl_tot (ys := ys) (nd := nd - min nd (sumI (dwNs y))) (fun z hz => h z (by simp [hz])) (by omega)
    unfold gl
    rw [totS_append, F.tot]
    omega
end Go.Proofs.Ytglpnpjjjihghaa
