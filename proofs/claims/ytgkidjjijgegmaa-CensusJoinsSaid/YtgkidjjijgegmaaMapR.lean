/-
  Maps in memory as lists of keys and values, in whatever order: what a look-up finds, and what a store leaves.
-/
import Derived.Test.YtgkidjjijgegmaaMem
import Derived.Maps.OwnSet
namespace Go.Proofs.Ytgkidjjijgegmaa
open Go.RowKit Go.Maps Go.MapKept Go.ChangeMaps

section
variable {κ : Type} [BEq κ]
def getM (q : κ) : List (κ × Value) → Option Value
  | [] => none
  | p :: m => if p.1 == q then some p.2 else getM q m
def putM (q : κ) (v : Value) : List (κ × Value) → List (κ × Value)
  | [] => [(q, v)]
  | p :: m => if p.1 == q then (q, v) :: m else p :: putM q v m
def Apart (m : List (κ × Value)) : Prop := m.Pairwise fun p q => p.1 ≠ q.1
theorem putM_keys {q : κ} {v : Value} {x : κ × Value} : ∀ {m : List (κ × Value)}, x ∈ putM q v m → x = (q, v) ∨ x ∈ m
  | [], h => by simp [putM] at h; exact .inl h
  | p :: m, h => by
    unfold putM at h
    split at h
    · rcases List.mem_cons.1 h with h | h
      · exact .inl h
      · exact .inr (List.mem_cons_of_mem _ h)
    · rcases List.mem_cons.1 h with h | h
      · exact .inr (by rw [h]; exact List.mem_cons_self ..)
      · exact (putM_keys h).imp id fun h => List.mem_cons_of_mem _ h
variable [LawfulBEq κ]
theorem getM_none {q : κ} : ∀ {m : List (κ × Value)}, (∀ p ∈ m, p.1 ≠ q) → getM q m = none
  | [], _ => rfl
  | p :: m, h => by
    unfold getM
    rw [if_neg (by simpa using h p (List.mem_cons_self ..))]
    exact getM_none fun x hx => h x (List.mem_cons_of_mem _ hx)
theorem putM_none {q : κ} (v : Value) : ∀ {m : List (κ × Value)}, (∀ p ∈ m, p.1 ≠ q) → putM q v m = m ++ [(q, v)]
  | [], _ => rfl
  | p :: m, h => by
    unfold putM
    rw [if_neg (by simpa using h p (List.mem_cons_self ..)), putM_none v fun x hx => h x (List.mem_cons_of_mem _ hx)]
    rfl
theorem getM_some {q : κ} {v0 : Value} : ∀ {m : List (κ × Value)} {j : Nat}, Apart m → m[j]? = some (q, v0) → getM q m = some v0
  | [], _, _, h => by simp at h
  | p :: m, 0, _, h => by
    simp at h
    subst h
    unfold getM
    simp
  | p :: m, j + 1, ha, h => by
    obtain ⟨h1, h2⟩ := List.pairwise_cons.1 ha
    have hm : (q, v0) ∈ m := List.mem_of_getElem? (by simpa using h)
    unfold getM
    rw [if_neg (by simpa using h1 _ hm)]
    exact getM_some h2 (by simpa using h)
theorem putM_some {q : κ} {v0 : Value} (v : Value) : ∀ {m : List (κ × Value)} {j : Nat}, Apart m → m[j]? = some (q, v0) → putM q v m = m.set j (q, v)
  | [], _, _, h => by simp at h
  | p :: m, 0, _, h => by
    simp at h
    subst h
    unfold putM
    simp
  | p :: m, j + 1, ha, h => by
    obtain ⟨h1, h2⟩ := List.pairwise_cons.1 ha
    have hm : (q, v0) ∈ m := List.mem_of_getElem? (by simpa using h)
    unfold putM
    rw [if_neg (by simpa using h1 _ hm), putM_some v h2 (by simpa using h)]
    rfl
theorem Apart.put {q : κ} {v : Value} : ∀ {m : List (κ × Value)}, Apart m → Apart (putM q v m)
  | [], _ => by simp [putM, Apart]
  | p :: m, ha => by
    obtain ⟨h1, h2⟩ := List.pairwise_cons.1 ha
    unfold putM
    split
    · rename_i hc
      have e : p.1 = q := by simpa using hc
      exact List.pairwise_cons.2 ⟨fun x hx => by rw [← e]; exact h1 x hx, h2⟩
    · rename_i hc
      refine List.pairwise_cons.2 ⟨fun x hx => ?_, Apart.put h2⟩
      rcases putM_keys hx with rfl | hx
      · simpa using hc
      · exact h1 x hx
theorem get_put_same (q : κ) (v : Value) : ∀ m : List (κ × Value), getM q (putM q v m) = some v
  | [] => by simp [putM, getM]
  | p :: m => by
    unfold putM
    split
    · simp [getM]
    · rename_i hc
      unfold getM
      rw [if_neg hc, get_put_same q v m]
theorem get_put_other {q q' : κ} (h : q ≠ q') (v : Value) : ∀ m : List (κ × Value), getM q' (putM q v m) = getM q' m
  | [] => by simp [putM, getM, h]
  | p :: m => by
    unfold putM
    split
    · rename_i hc
      have e : p.1 = q := by simpa using hc
      unfold getM
      rw [if_neg (by simpa using h), if_neg (by rw [e]; simpa using h)]
    · unfold getM
      rw [get_put_other h v m]
end

section
variable {κ : Type} {P : Program} {k : TypeId} {enc : κ → Value}
/-- Block b is a map whose entries are these. -/
structure MapAt (P : Program) (k : TypeId) (enc : κ → Value) (w : World) (b : Nat) (m : List (κ × Value)) : Prop where
  blk : ∃ es clock, w.heap[b]? = some (.map es clock) ∧ es.toList.map (fun e => (e.key, e.val)) = m.map fun p => (enc p.1, p.2)
  apart : Apart m
/-- A way to write keys. -/
structure EncOk (P : Program) (k : TypeId) (enc : κ → Value) (Dom : κ → Prop) : Prop where
  keyed : Keyed P k
  key : ∀ q, Dom q → ∃ kl, keyOf P k (enc q) = some kl
  inj : ∀ q q', enc q = enc q' → q = q'
variable {Dom : κ → Prop} {w w' : World} {b : Nat} {m : List (κ × Value)}
theorem MapAt.lt (h : MapAt P k enc w b m) : b < w.heap.size := by
  obtain ⟨es, clock, hb, _⟩ := h.blk
  exact (Array.getElem?_eq_some_iff.1 hb).1
theorem MapAt.of_block (h : MapAt P k enc w b m) (e : w'.heap[b]? = w.heap[b]?) : MapAt P k enc w' b m := by
  obtain ⟨es, clock, hb, hm⟩ := h.blk
  exact ⟨⟨es, clock, e.trans hb, hm⟩, h.apart⟩
theorem MapAt.below {B : Nat} (h : MapAt P k enc w b m) (hb : b < B) (hB : Below B w w') : MapAt P k enc w' b m := h.of_block (hB.block b hb)
theorem MapAt.alloc (h : MapAt P k enc w b m) (o : Obj) : MapAt P k enc (w.alloc o) b m := h.of_block (heap_alloc_old' w o h.lt)
theorem MapAt.drew (h : MapAt P k enc w b m) : MapAt P k enc w.drew b m := ⟨h.blk, h.apart⟩
theorem MapAt.grown (h : MapAt P k enc w b m) {row : Option Nat} (hg : w.grownBy w' row) (hne : some b ≠ row) : MapAt P k enc w' b m := h.of_block (hg.block b h.lt hne)
theorem MapAt.setCell (h : MapAt P k enc w b m) {a : Addr} (ha : b ≠ a.block) (u : Value) : MapAt P k enc (w.setCell a u) b m := h.of_block (RowKit.Below.heap_setCell _ _ _ _ ha)
theorem MapAt.made (P : Program) (k : TypeId) (enc : κ → Value) (w : World) : MapAt P k enc (w.alloc (.map #[] 0)) w.heap.size [] := ⟨⟨#[], 0, heap_alloc_new w _, by simp⟩, by simp [Apart]⟩
theorem MapAt.find (K : EncOk P k enc Dom) {es : Array MapEntry} (hm : es.toList.map (fun e => (e.key, e.val)) = m.map fun p => (enc p.1, p.2)) (hd : ∀ p ∈ m, Dom p.1) {q : κ} (hq : Dom q) (w : World) :
    ((Instr.findKey k (enc q) es.toList).run P w = .ok none w ∧ ∀ p ∈ m, p.1 ≠ q) ∨ ∃ j v0, (Instr.findKey k (enc q) es.toList).run P w = .ok (some (j, v0)) w ∧ m[j]? = some (q, v0) ∧ ∃ e0, es[j]? = some e0 ∧ e0.key = enc q ∧ e0.val = v0 := by
  obtain ⟨kl, hkl⟩ := K.key q hq
  have hkeys : ∀ x ∈ es.toList, ∃ kl, keyOf P k x.key = some kl := by
    intro x hx
    have h1 : (x.key, x.val) ∈ m.map fun p => (enc p.1, p.2) := by rw [← hm]; exact List.mem_map_of_mem hx
    obtain ⟨p, hp, e⟩ := List.mem_map.1 h1
    injection e with e1 e2
    obtain ⟨kl, h⟩ := K.key p.1 (hd p hp)
    exact ⟨kl, by rw [← e1]; exact h⟩
  rcases K.keyed.find w hkl es.toList hkeys with ⟨h1, h2⟩ | ⟨j, e0, h1, h2, h3⟩
  · refine .inl ⟨h1, fun p hp e => ?_⟩
    have h4 : (enc p.1, p.2) ∈ es.toList.map (fun e => (e.key, e.val)) := by rw [hm]; exact List.mem_map.2 ⟨p, hp, rfl⟩
    obtain ⟨x, hx, e'⟩ := List.mem_map.1 h4
    injection e' with e1 e2
    exact h2 x hx (by rw [e1, e])
  · refine .inr ⟨j, e0.val, h1, ?_, e0, by simpa using h2, h3, rfl⟩
    have h4 : (es.toList.map (fun e => (e.key, e.val)))[j]? = some (enc q, e0.val) := by rw [List.getElem?_map, h2]; simp [h3]
    rw [hm, List.getElem?_map] at h4
    cases hj : m[j]? with
    | none => rw [hj] at h4; cases h4
    | some p =>
      rw [hj] at h4
      simp at h4
      obtain ⟨a1, a2⟩ := h4
      have := K.inj _ _ a1
      obtain ⟨x, y⟩ := p
      simp at this a2
      rw [this, a2]
variable [BEq κ] [LawfulBEq κ]
/-- 'm[k]', and 'v, ok := m[k]'. -/
theorem MapAt.look (c : Bool) (K : EncOk P k enc Dom) {t e : TypeId} (ht : P.underlying t = some (.map k e)) {z : Value} (hz : (zeroValue e).run P w = .ok z w) (h : MapAt P k enc w b m) (hd : ∀ p ∈ m, Dom p.1) {q : κ} (hq : Dom q) :
    (Instr.lookup t (.map (some b)) (enc q) c).run P w = .ok (if c then .tuple #[(getM q m).getD z, .bool (getM q m).isSome] else (getM q m).getD z) w := by
  obtain ⟨es, clock, hb, hm⟩ := h.blk
  obtain ⟨kl, hkl⟩ := K.key q hq
  rcases MapAt.find K hm hd hq w with ⟨h1, h2⟩ | ⟨j, v0, h1, h2, _⟩
  · rw [getM_none h2]
    simp [Instr.lookup, run_underlying ht, MapKept.run_getObj_map hb, K.keyed.check w _ hkl, h1, hz, Result.andThen]
  · rw [getM_some h.apart h2]
    simp [Instr.lookup, run_underlying ht, MapKept.run_getObj_map hb, K.keyed.check w _ hkl, h1, Result.andThen]
/-- 'm[k] = v'. -/
theorem MapAt.store (K : EncOk P k enc Dom) {t e : TypeId} (ht : P.underlying t = some (.map k e)) (h : MapAt P k enc w b m) (hd : ∀ p ∈ m, Dom p.1) {q : κ} (hq : Dom q) (v : Value) :
    ∃ w', (Instr.mapUpdate t (.map (some b)) (enc q) v).run P w = .ok () w' ∧ MapAt P k enc w' b (putM q v m) ∧ w.grownBy w' (some b) := by
  obtain ⟨es, clock, hb, hm⟩ := h.blk
  obtain ⟨kl, hkl⟩ := K.key q hq
  rcases MapAt.find K hm hd hq w with ⟨h1, h2⟩ | ⟨j, v0, h1, h2, e0, h3, h4, h5⟩
  · refine ⟨setBlock w b (.map (es.push ⟨enc q, v, clock⟩) (clock + 1)), ?_, ⟨⟨_, _, heap_setBlock_same hb _, ?_⟩, h.apart.put⟩, ⟨rfl, rfl, rfl, by simp [setBlock], fun i _ hi => heap_setBlock_other hb _ (fun e => hi (by rw [e]))⟩⟩
    · simp [Instr.mapUpdate, run_underlying ht, MapKept.run_getObj_map hb, K.keyed.check w false hkl, h1, MapKept.run_setObj_map _ hb, Result.andThen, setBlock]
    · rw [putM_none v h2]
      simp [hm]
  · have h2' : es.toList[j]? = some e0 := by simpa using h3
    refine ⟨setBlock w b (.map (es.modify j (fun e' => { e' with key := enc q, val := v })) clock), ?_, ⟨⟨_, _, heap_setBlock_same hb _, ?_⟩, h.apart.put⟩, ⟨rfl, rfl, rfl, by simp [setBlock], fun i _ hi => heap_setBlock_other hb _ (fun e => hi (by rw [e]))⟩⟩
    · simp [Instr.mapUpdate, run_underlying ht, MapKept.run_getObj_map hb, K.keyed.check w false hkl, h1, h3, h4, K.keyed.stays w hkl, MapKept.run_setObj_map _ hb, Result.andThen, setBlock]
    · rw [putM_some v h.apart h2, Array.toList_modify, modify_eq_set _ _ _ _ h2', List.map_set, List.map_set, hm]
end
theorem wpList_store {P : Program} (W : World) {ops : Array Oper} {rest : List Oper} {o : Oper} {a : Act} {Q : Exit → Act → World → Prop} (hg : o.guard = none) (t : TypeId) (mo xo vo : Operand) (hop : o.op = Op.mapUpdate t mo xo vo)
    {k e : TypeId} {κ : Type} [BEq κ] [LawfulBEq κ] {enc : κ → Value} {Dom : κ → Prop} (E : EncOk P k enc Dom) (ht : P.underlying t = some (.map k e)) {b : Nat} {q : κ} {v : Value} (hm : a.eval mo = .map (some b)) (hx : a.eval xo = enc q) (hv : a.eval vo = v)
    {m : List (κ × Value)} (hM : MapAt P k enc W b m) (hD : ∀ p ∈ m, Dom p.1) (hq : Dom q) (h : ∀ W', MapAt P k enc W' b (putM q v m) → W.grownBy W' (some b) → wpList P ops Q rest (a.put o.dst undef) W') : wpList P ops Q (o :: rest) a W := by
  refine wpList_plain hg fun K' hK' => ?_
  obtain ⟨W', hrun, r1, r2⟩ := hM.store E ht hD hq v
  unfold Oper.wp
  simp [execOp, hop, hm, hx, hv, hrun, Result.andThen]
  exact hK' _ _ (h W' r1 r2)
end Go.Proofs.Ytgkidjjijgegmaa
