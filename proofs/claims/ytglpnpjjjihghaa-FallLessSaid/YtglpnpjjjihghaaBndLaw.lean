/-
  The plain law of FallBounds: what a waterfall draws, together and of each source.
-/
import Derived.Test.YtglpnpjjjihghaaLessLaw
namespace Go.Proofs.Ytglpnpjjjihghaa
open Go.RowKit

def keyD (z : Dw) : Int × Int := (z.k, z.m)
theorem dwSome_sub : ∀ (y : List Dw) (zs : List Int), ((dwSome y zs).map keyD).Sublist (y.map keyD)
  | [], zs => by simp [dwSome]
  | x :: y, [] => by simp [dwSome]
  | x :: y, n :: zs => by
    rw [dwSome_cons, List.map_append]
    have ih := dwSome_sub y zs
    by_cases h : 0 < n
    · rw [if_pos h]
      exact ih.cons_cons _
    · rw [if_neg h]
      exact ih.cons _
theorem dwSome_le : ∀ {y : List Dw} {zs : List Int} {z : Dw}, (∀ i (h : i < zs.length) (h' : i < y.length), zs[i] ≤ y[i].n) → z ∈ dwSome y zs → 0 < z.n ∧ ∃ x ∈ y, z.k = x.k ∧ z.m = x.m ∧ z.n ≤ x.n
  | [], zs, z, _, hz => by simp [dwSome] at hz
  | x :: y, [], z, _, hz => by simp [dwSome] at hz
  | x :: y, n :: zs, z, h, hz => by
    rw [dwSome_cons] at hz
    rcases List.mem_append.1 hz with hz | hz
    · by_cases hn : 0 < n
      · rw [if_pos hn, List.mem_singleton] at hz
        subst hz
        exact ⟨hn, x, List.mem_cons_self .., rfl, rfl, h 0 (by simp) (by simp)⟩
      · rw [if_neg hn] at hz
        cases hz
    · obtain ⟨h1, x', hx', h2⟩ := dwSome_le (fun i hi hi' => h (i + 1) (by simpa using hi) (by simpa using hi')) hz
      exact ⟨h1, x', List.mem_cons_of_mem _ hx', h2⟩
theorem give_le {y : List Dw} {nd : Int} (h : SrcOk y) (hn : 0 ≤ nd) {z : Dw} (hz : z ∈ giveL y nd) : 0 < z.n ∧ ∃ x ∈ y, z.k = x.k ∧ z.m = x.m ∧ z.n ≤ x.n := by
  have G := given_of (chk_src h hn)
  refine dwSome_le (fun i hi hi' => ?_) hz
  have := (G.bd i hi (by simpa [dwNs] using hi')).2
  simpa [dwNs] using this
theorem gl_sub : ∀ (ys : List (List Dw)) (nd : Int), ((gl nd ys).map keyD).Sublist (ys.flatten.map keyD)
  | [], nd => by simp [gl]
  | y :: ys, nd => by
    unfold gl
    rw [List.flatten_cons, List.map_append, List.map_append]
    exact (dwSome_sub y _).append (gl_sub ys _)
theorem gl_le : ∀ {ys : List (List Dw)} {nd : Int}, (∀ y ∈ ys, SrcOk y) → 0 ≤ nd → ∀ z ∈ gl nd ys, 0 < z.n ∧ ∃ y ∈ ys, ∃ x ∈ y, z.k = x.k ∧ z.m = x.m ∧ z.n ≤ x.n
  | [], _, _, _, z, hz => by simp [gl] at hz
  | y :: ys, nd, h, hn, z, hz => by
    have F := giveF_of (h y (by simp)) hn
    have hs := F.sum0
    unfold gl at hz
    rcases List.mem_append.1 hz with hz | hz
    · obtain ⟨h1, x, hx, e⟩ := give_le (h y (by simp)) hn hz
      exact ⟨h1, y, by simp, x, hx, e⟩
    · obtain ⟨h1, y', hy, x, hx, e⟩ := gl_le (fun z hz => h z (by simp [hz])) (by omega) z hz
      exact ⟨h1, y', by simp [hy], x, hx, e⟩
theorem sumI_totS {y : List Dw} (h : ∀ x ∈ y, 0 ≤ x.n) : sumI (dwNs y) = totS y := by
  rw [dwNs_sum]
  unfold totS
  congr 1
  refine List.map_congr_left fun x hx => ?_
  have := h x hx
  omega
theorem gl_totE : ∀ {ys : List (List Dw)} {nd : Int}, (∀ y ∈ ys, SrcOk y) → 0 ≤ nd → totS (gl nd ys) = min nd ((ys.map totS).sum)
  | [], nd, _, hn => by
    show (0 : Int) = min nd 0
    omega
  | y :: ys, nd, h, hn => by
    have F := giveF_of (h y (by simp)) hn
    have hs := F.sum0
    have e := sumI_totS fun x hx => ((h y (by simp)).pos x hx).1
    have ih := gl_totE (ys := ys) (nd := nd - min nd (sumI (dwNs y))) (fun z hz => h z (by simp [hz])) (by omega)
    have h0 := sumT_nonneg ys
    unfold gl
    rw [totS_append, F.tot, ih, List.map_cons, List.sum_cons, ← e]
    omega
theorem flat_uniq {f : Int → Int → Int} {ys : List (List Dw)} (h : Rkd f ys) : (ys.flatten.map keyD).Pairwise (· ≠ ·) := by
  rw [List.pairwise_map, List.pairwise_flatten]
  refine ⟨fun y hy => (h.uniq y hy).imp fun hne he => ?_, h.up.imp fun hlt x hx x' hx' he => ?_⟩
  · unfold keyD at he
    injection he with e1 e2
    exact hne ⟨e1, e2⟩
  · unfold keyD at he
    injection he with e1 e2
    have := hlt x hx x' hx'
    rw [e1, e2] at this
    omega
theorem room_sum {p : Pol} {os : List Int} (h : mayE p os = 0) : ((srcs p os).map totS).sum = roomV p os := by
  have F := mayF_of h
  have hup := os_up h
  have hln := F.all p.line (by simp [polL])
  have hcp := F.all p.cap (by simp [polL])
  have hco : ∀ x ∈ p.co, 0 ≤ x := fun x hx => (F.all x (by simp [polL, hx])).1
  have hfu : ∀ x ∈ p.fu, 0 ≤ x := fun x hx => (F.all x (by simp [polL, hx])).1
  have e1 := oneS 8 (atI p.co) os fun m hm => hco _ (atI_mem (F.os1 m hm).1 (F.os1 m hm).2)
  have e2 := oneS 9 (atI p.fu) os fun m hm => hfu _ (atI_mem (F.os1 m hm).1 (by have := (F.os1 m hm).2; have := F.len; omega))
  have e3 := pkS_eq (atI p.co) p.co.length os hup F.os1
  have e4 := pkS_eq (atI p.fu) p.co.length os hup F.os1
  have e5 := others_fuS (os := os) hfu p.co.length (by have := F.len; omega)
  have e6 := rrN_eq p os p.co.length
  rw [room_law h]
  unfold srcs othersL
  rw [List.map_append, List.map_append, List.sum_append, List.sum_append, e1, e2, F.len]
  simp only [List.map_cons, List.map_nil, List.sum_cons, List.sum_nil]
  rw [totS_one _ _ _ hln.1, totS_one _ _ _ hcp.1]
  omega
theorem src_there {p : Pol} {os : List Int} (F : MayF p os) {y : List Dw} (hy : y ∈ srcs p os) {x : Dw} (hx : x ∈ y) : x.n = thereV p x.k x.m ∧ (x.k = 8 → os.contains x.m = true) := by
  have hl := F.len
  rcases srcs_mem hy with ⟨m, hm, rfl⟩ | ⟨m, hm, rfl⟩ | rfl | rfl | rfl
  · simp at hx; subst hx
    have := F.os1 m hm
    exact ⟨(there8 this.1 this.2).symm, fun _ => List.contains_iff_mem.2 hm⟩
  · simp at hx; subst hx
    have := F.os1 m hm
    exact ⟨(there9 this.1 this.2).symm, fun h => by simp at h⟩
  · obtain ⟨i, hi, _, rfl⟩ := othersN_mem hx
    refine ⟨?_, fun h => by simp at h⟩
    dsimp only
    rw [there9 (by omega) (by omega)]
    unfold atI
    rw [show ((i : Int) + 1 - 1).toNat = i by omega]
  · simp at hx; subst hx
    exact ⟨(there3 p).symm, fun h => by simp at h⟩
  · simp at hx; subst hx
    exact ⟨(there4 p).symm, fun h => by simp at h⟩
/-- What is drawn. -/
structure BndF (p : Pol) (os : List Int) (need : Int) (l : List Dw) : Prop where
  len : l.length ≤ 1000
  one : ∀ z ∈ l, 0 < z.n ∧ z.n ≤ thereV p z.k z.m ∧ (z.k = 8 → os.contains z.m = true)
  uniq : l.Pairwise fun x x' => ¬ (x.k = x'.k ∧ x.m = x'.m)
  tot : totS l = min need (roomV p os)
theorem bndF_of {p : Pol} {os : List Int} {need : Int} (h : planE p os need = 0) (hI : I64 need) (hol : os.length ≤ 100) : BndF p os need (planL p os need) := by
  have O := ordF_of h hI hol
  have hm : mayE p os = 0 := by
    unfold planE at h
    by_cases h0 : mayE p os = 0
    · exact h0
    · rw [if_pos h0] at h; exact h
  have hn : 0 ≤ need := by
    unfold planE at h
    rw [if_neg (by omega)] at h
    by_cases h0 : need < 0
    · rw [if_pos h0] at h; cases h
    · omega
  have F := mayF_of hm
  have hok := srcs_ok F
  have e : planL p os need = gl need (srcs p os) := by
    unfold planL
    rw [if_pos h]
    unfold plF
    rw [gl_plS _ _ _ hok hn hI]
    rfl
  refine ⟨O.len, ?_, ?_, ?_⟩
  · rw [e]
    intro z hz
    obtain ⟨h1, y, hy, x, hx, e1, e2, e3⟩ := gl_le hok hn z hz
    obtain ⟨h2, h3⟩ := src_there F hy hx
    rw [e1, e2]
    exact ⟨h1, by omega, h3⟩
  · rw [e]
    have := (flat_uniq (srcs_rkd hm)).sublist (gl_sub (srcs p os) need)
    rw [List.pairwise_map] at this
    exact this.imp fun hne he => hne (by unfold keyD; rw [he.1, he.2])
  · rw [e, gl_totE hok hn, room_sum hm]
/-- All that FallBounds asks for, of what is drawn. -/
structure BndL (p : Pol) (os : List Int) (need : Int) (l : List Dw) : Prop where
  less : lessF p l = (l.foldl subP p, 0)
  may : mayE (l.foldl subP p) os = 0
  room : roomV (l.foldl subP p) os = roomV p os - totS l
  chk : polE (l.foldl subP p) = 0
  tot : totV l = min need (roomV p os)
  totS : totS l = min need (roomV p os)
  pmay : mayE p os = 0
  need0 : 0 ≤ need
theorem bndL_of {p : Pol} {os : List Int} {need : Int} (h : planE p os need = 0) (hI : I64 need) (hol : os.length ≤ 100) : BndL p os need (planL p os need) := by
  have B := bndF_of h hI hol
  have hm : mayE p os = 0 := by
    unfold planE at h
    by_cases h0 : mayE p os = 0
    · exact h0
    · rw [if_pos h0] at h; exact h
  have hn : 0 ≤ need := by
    unfold planE at h
    rw [if_neg (by omega)] at h
    by_cases h0 : need < 0
    · rw [if_pos h0] at h; cases h
    · omega
  have F := mayF_of hm
  generalize planL p os need = l at *
  have hl := fold_len l p
  obtain ⟨a1, a2⟩ := left_law l p os F.len F.all B.uniq fun z hz => ⟨by have := (B.one z hz).1; omega, (B.one z hz).2.1, (B.one z hz).2.2⟩
  have hpe : polE p = 0 := by
    unfold mayE at hm
    by_cases h0 : polE p = 0
    · exact h0
    · rw [if_pos h0] at hm; exact hm
  have hce : polE (l.foldl subP p) = 0 := allOk_polE (by rw [hl.1, hl.2]; exact F.len.symm) (by rw [hl.1]; exact F.big) a1
  have hme : mayE (l.foldl subP p) os = 0 := by
    unfold mayE at hm ⊢
    rw [if_neg (by omega)] at hm ⊢
    rw [hl.1]
    exact hm
  refine ⟨?_, hme, ?_, hce, ?_, B.tot, hm, hn⟩
  · unfold lessF
    rw [if_neg (by omega)]
    exact lsF_fit l p F.len B.uniq fun z hz => ⟨by have := (B.one z hz).1; omega, (B.one z hz).2.1⟩
  · rw [room_law hme, room_law hm, hl.1, a2]
  · have := B.tot
    unfold I64 at hI
    rw [totV_all (by omega), B.tot]
end Go.Proofs.Ytglpnpjjjihghaa
