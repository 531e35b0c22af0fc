/-
  A range over a map of whatever keys, while the map stands: which entries have come, and that each comes once.
-/
import Derived.Test.YtgkidjjijgegmaaMapR
import Derived.Maps.RangeWalk
import Derived.Maps.RangeRun
namespace Go.Proofs.Ytgkidjjijgegmaa
open Go.RowKit Go.Maps Go.MapKept Go.ChangeMaps

section
variable {κ : Type} {P : Program} {k : TypeId} {enc : κ → Value}
/-- An iterator in block r over the map in block b: the entries of these keys have come. -/
structure ItAt (P : Program) (k : TypeId) (enc : κ → Value) (w : World) (b r : Nat) (m : List (κ × Value)) (done : List κ) : Prop where
  it : ∃ es clock since seen c0, w.heap[b]? = some (.map es clock) ∧ es.toList.map (fun e => (e.key, e.val)) = m.map (fun p => (enc p.1, p.2)) ∧ Stamped es clock ∧ w.heap[r]? = some (.mapIter (some b) since seen c0) ∧ (∀ x ∈ es.toList, x.born < since) ∧ since ≤ c0 ∧ since ≤ clock ∧
    (∀ e ∈ es.toList, ∀ q, e.key = enc q → (seen.contains e.born = true ↔ q ∈ done)) ∧ seen.size = done.length
  apart : Apart m
  once : done.Nodup
  sub : ∀ q ∈ done, ∃ v, (q, v) ∈ m
variable {w w' : World} {b r : Nat} {m : List (κ × Value)} {done : List κ}
theorem ItAt.ne (h : ItAt P k enc w b r m done) : r ≠ b := by
  obtain ⟨es, clock, since, seen, c0, hb, _, _, hr, _⟩ := h.it
  rintro rfl
  rw [hb] at hr
  cases hr
theorem ItAt.lt (h : ItAt P k enc w b r m done) : b < w.heap.size ∧ r < w.heap.size := by
  obtain ⟨es, clock, since, seen, c0, hb, _, _, hr, _⟩ := h.it
  exact ⟨(Array.getElem?_eq_some_iff.1 hb).1, (Array.getElem?_eq_some_iff.1 hr).1⟩
theorem ItAt.of_blocks (h : ItAt P k enc w b r m done) (eb : w'.heap[b]? = w.heap[b]?) (er : w'.heap[r]? = w.heap[r]?) : ItAt P k enc w' b r m done := by
  obtain ⟨es, clock, since, seen, c0, hb, hm, hs, hr, ho, h1, h2, h3, h9⟩ := h.it
  exact ⟨⟨es, clock, since, seen, c0, eb.trans hb, hm, hs, er.trans hr, ho, h1, h2, h3, h9⟩, h.apart, h.once, h.sub⟩
theorem ItAt.kept {row : Option Nat} (h : ItAt P k enc w b r m done) (hg : w.grownBy w' row) (hb : some b ≠ row) (hr : some r ≠ row) : ItAt P k enc w' b r m done :=
  h.of_blocks (hg.block b h.lt.1 hb) (hg.block r h.lt.2 hr)
theorem ItAt.below {B : Nat} (h : ItAt P k enc w b r m done) (hB : w.heap.size ≤ B) (hb : Below B w w') : ItAt P k enc w' b r m done :=
  h.of_blocks (hb.block b (by have := h.lt.1; omega)) (hb.block r (by have := h.lt.2; omega))
/-- How many entries have come. -/
def seenAt (w : World) (r : Nat) : Nat := match w.heap[r]? with
  | some (.mapIter _ _ seen _) => seen.size
  | _ => 0
theorem ItAt.seen (h : ItAt P k enc w b r m done) : seenAt w r = done.length := by
  obtain ⟨es, clock, since, seen, c0, _, _, _, hr, _, _, _, _, h9⟩ := h.it
  unfold seenAt
  rw [hr]
  exact h9
theorem ItAt.count [DecidableEq κ] (h : ItAt P k enc w b r m done) : done.length ≤ m.length := by
  have h1 : done.Subset (m.map (·.1)) := fun q hq => by
    obtain ⟨v, hv⟩ := h.sub q hq
    exact List.mem_map.2 ⟨_, hv, rfl⟩
  have := h.once.length_le_of_subset h1
  simpa using this
/-- 'range m'. -/
theorem MapAt.ranged {t e : TypeId} (ht : P.underlying t = some (.map k e)) (h : MapAt P k enc w b m) (hs : ∃ es clock, w.heap[b]? = some (.map es clock) ∧ Stamped es clock) :
    ∃ w', (Instr.range t (.map (some b))).run P w = .ok (.pointer (some ⟨w.heap.size, 0, none⟩)) w' ∧ ItAt P k enc w' b w.heap.size m [] ∧ Below w.heap.size w w' ∧ w'.heap.size = w.heap.size + 1 := by
  obtain ⟨es, clock, hb, hst⟩ := hs
  obtain ⟨es0, clock0, hb0, hm⟩ := h.blk
  obtain ⟨rfl, rfl⟩ : es = es0 ∧ clock = clock0 := by rw [hb] at hb0; simpa using hb0
  have hlt : b < w.heap.size := (Array.getElem?_eq_some_iff.1 hb).1
  refine ⟨w.alloc (.mapIter (some b) clock #[] clock), ?_, ⟨⟨es, clock, clock, #[], clock, (heap_alloc_old' w _ hlt).trans hb, hm, hst, heap_alloc_new w _, fun x hx => ((stamped_iff es clock).1 hst).1 x hx, Nat.le_refl _, Nat.le_refl _, fun e he q hq => by simp, rfl⟩, h.apart, List.nodup_nil, by simp⟩, (Below.refl _ _).alloc (Nat.le_refl _) _, by simp⟩
  simp [Instr.range, run_underlying ht, MapKept.run_getObj_map hb, Result.andThen]
/-- The next entry, or none is left. -/
theorem ItAt.next (hinj : ∀ q q' : κ, enc q = enc q' → q = q') (h : ItAt P k enc w b r m done) (ty : TypeId) :
    ((∀ p ∈ m, p.1 ∈ done) ∧ (Instr.next (.pointer (some ⟨r, 0, none⟩)) false ty).run P w = .ok (.tuple #[.bool false]) w) ∨
    ∃ q v w', (q, v) ∈ m ∧ q ∉ done ∧ (Instr.next (.pointer (some ⟨r, 0, none⟩)) false ty).run P w = .ok (.tuple #[.bool true, enc q, v]) w' ∧ ItAt P k enc w' b r m (done ++ [q]) ∧ w.grownBy w' (some r) ∧ w'.heap.size = w.heap.size ∧
      (Instr.entry (.pointer (some ⟨r, 0, none⟩))).run P w' = .ok (.tuple #[enc q, v]) w' := by
  have hne := h.ne
  obtain ⟨es, clock, since, seen, c0, hb, hm, hs, hr, hold, h1, h2, h3, h9⟩ := h.it
  have hkeys : ∀ p ∈ m, ∃ e ∈ es.toList, e.key = enc p.1 ∧ e.val = p.2 := fun p hp => by
    have h4 : (enc p.1, p.2) ∈ es.toList.map (fun e => (e.key, e.val)) := by rw [hm]; exact List.mem_map.2 ⟨p, hp, rfl⟩
    obtain ⟨e, he, e'⟩ := List.mem_map.1 h4
    injection e' with a b
    exact ⟨e, he, a, b⟩
  have hent : ∀ e ∈ es.toList, ∃ p ∈ m, e.key = enc p.1 ∧ e.val = p.2 := fun e he => by
    have h4 : (e.key, e.val) ∈ m.map (fun p => (enc p.1, p.2)) := by rw [← hm]; exact List.mem_map.2 ⟨e, he, rfl⟩
    obtain ⟨p, hp, e'⟩ := List.mem_map.1 h4
    injection e' with a b
    exact ⟨p, hp, a.symm, b.symm⟩
  rcases run_next_at (P := P) w ty r b since c0 seen es clock hr hb hold h1 with ⟨h0, hrun⟩ | ⟨e, he, w1, hal, hrun⟩
  · refine .inl ⟨fun p hp => ?_, hrun⟩
    obtain ⟨e, he, hk, _⟩ := hkeys p hp
    exact (h3 e he p.1 hk).1 (all_seen es seen h0 e he)
  · obtain ⟨hem, hes⟩ := mem_left he
    obtain ⟨p, hp, hk, hv⟩ := hent e hem
    have hnd : p.1 ∉ done := fun hd => by
      have := (h3 e hem p.1 hk).2 hd
      rw [hes] at this
      cases this
    have hr1 : w1.heap[r]? = some (.mapIter (some b) since seen c0) := by rcases hal with rfl | rfl <;> exact hr
    have hb1 : w1.heap[b]? = some (.map es clock) := by rcases hal with rfl | rfl <;> exact hb
    have hset := heap_set (o' := .mapIter (some b) since (seen.push e.born) clock) hr1
    have hb' : (setBlock w1 r (.mapIter (some b) since (seen.push e.born) clock)).heap[b]? = some (.map es clock) := (hset.2 b (fun e1 => hne e1.symm)).trans hb1
    have hborn := ((stamped_iff es clock).1 hs).2.1
    refine .inr ⟨p.1, p.2, _, hp, hnd, by rw [← hk, ← hv]; exact hrun, ⟨⟨es, clock, since, seen.push e.born, clock, hb', hm, hs, hset.1, hold, h2, h2, fun x hx q hq => ?_, by simp [h9]⟩, h.apart, ?_, ?_⟩, ?_, ?_, by rw [← hk, ← hv]; exact run_entry_at _ r b since seen es clock e hset.1 hb' hem hborn⟩
    · rw [contains_push]
      by_cases hxe : x = e
      · subst hxe
        have : q = p.1 := hinj _ _ (hq.symm.trans hk)
        subst this
        simp
      · have hbn : x.born ≠ e.born := fun hb2 => hxe (by
          obtain ⟨i, hi, rfl⟩ := List.getElem_of_mem hx
          obtain ⟨j, hj, rfl⟩ := List.getElem_of_mem hem
          have := (List.getElem_inj (xs := es.toList.map (·.born)) (h₀ := by simpa using hi) (h₁ := by simpa using hj) hborn).1 (by simpa using hb2)
          subst this
          rfl)
        have hqp : q ≠ p.1 := fun e1 => hxe (entry_eq_of_key ((stamped_iff es clock).1 hs).2.2 hx hem (by rw [hq, e1, hk]))
        simpa [hbn, hqp] using h3 x hx q hq
    · exact List.nodup_append.2 ⟨h.once, by simp, by
        intro a ha b' hb2
        simp at hb2
        subst hb2
        intro e1
        subst e1
        exact hnd ha⟩
    · intro q hq
      rcases List.mem_append.1 hq with hq | hq
      · exact h.sub q hq
      · simp at hq
        subst hq
        exact ⟨p.2, hp⟩
    · rcases hal with rfl | rfl <;> exact ⟨rfl, rfl, rfl, by simp [setBlock], fun i _ hi => hset.2 i (fun e1 => hi (by rw [e1]))⟩
    · rcases hal with rfl | rfl <;> simp [setBlock]
end
section
variable {κ : Type} {P : Program} {k : TypeId} {enc : κ → Value} {b r : Nat} {m : List (κ × Value)} {done : List κ} {ops : Array Oper} {rest : List Oper} {o : Oper} {a : Act} {Q : Exit → Act → World → Prop}
/-- 'range m', at the operation. -/
theorem wpList_range_it (w : World) (hg : o.guard = none) (mo : Operand) (t : TypeId) (hop : o.op = Op.range t mo) {e : TypeId} (ht : P.underlying t = some (.map k e)) (hm : a.eval mo = .map (some b)) (h : MapAt P k enc w b m) (hs : ∃ es clock, w.heap[b]? = some (.map es clock) ∧ Stamped es clock)
    (hK : ∀ w', ItAt P k enc w' b w.heap.size m [] → Below w.heap.size w w' → w'.heap.size = w.heap.size + 1 → wpList P ops Q rest (a.put o.dst (.pointer (some ⟨w.heap.size, 0, none⟩))) w') :
    wpList P ops Q (o :: rest) a w := by
  refine wpList_plain hg fun K' hK' => ?_
  obtain ⟨w', hrun, r1, r2, r3⟩ := h.ranged ht hs
  unfold Oper.wp
  simp [execOp, hop, hm, hrun, Result.andThen]
  exact hK' _ _ (hK w' r1 r2 r3)
/-- The step, at the operation. -/
theorem wpList_next_it (w : World) (hinj : ∀ q q' : κ, enc q = enc q' → q = q') (hg : o.guard = none) (it : Operand) (hop : o.op = Op.next it false) (hit : a.eval it = .pointer (some ⟨r, 0, none⟩)) (h : ItAt P k enc w b r m done)
    (hDone : (∀ p ∈ m, p.1 ∈ done) → wpList P ops Q rest (a.put o.dst (.tuple #[.bool false])) w)
    (hMore : ∀ q v w', (q, v) ∈ m → q ∉ done → ItAt P k enc w' b r m (done ++ [q]) → w.grownBy w' (some r) → w'.heap.size = w.heap.size → (Instr.entry (.pointer (some ⟨r, 0, none⟩))).run P w' = .ok (.tuple #[enc q, v]) w' → wpList P ops Q rest (a.put o.dst (.tuple #[.bool true, enc q, v])) w') :
    wpList P ops Q (o :: rest) a w := by
  refine wpList_plain hg fun K' hK' => ?_
  unfold Oper.wp
  rcases h.next hinj o.type with ⟨hd, hrun⟩ | ⟨q, v, w', hq, hnd, hrun, r1, r2, r3, r4⟩
  · simp [execOp, hop, hit, hrun, Result.andThen]
    exact hK' _ _ (hDone hd)
  · simp [execOp, hop, hit, hrun, Result.andThen]
    exact hK' _ _ (hMore q v w' hq hnd r1 r2 r3 r4)
end
end Go.Proofs.Ytgkidjjijgegmaa
