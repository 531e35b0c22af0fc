/-
  A map from sides (two ints) to five lists of amounts each, that the call itself fills.
-/
import Derived.Test.YtgkidjjijgegmaaMapIt
import Derived.Test.YtgkidjjijgegmaaMoneyDef
import Derived.Test.YtgkidjjijgegmaaFrame
import Derived.DeepKeys4
import Derived.Maps.OwnRows
namespace Go.Proofs.Ytgkidjjijgegmaa
open Go.RowKit Go.Maps Go.MapKept Go.ChangeMaps

theorem i64_wf {x : Int} (h : I64 x) : (Lit.int .i64 x).wf = true := by
  unfold I64 at h
  have h1 : IntKind.i64.min = -9223372036854775808 := rfl
  have h2 : IntKind.i64.max = 9223372036854775807 := rfl
  simp only [Lit.wf, Bool.and_eq_true, decide_eq_true_eq, h1, h2]
  exact h
def encS (q : Int × Int) : Value := .agg #[.int .i64 q.1, .int .i64 q.2]
def DomS (q : Int × Int) : Prop := I64 q.1 ∧ I64 q.2
theorem encS_inj (q q' : Int × Int) (h : encS q = encS q') : q = q' := by
  unfold encS at h
  obtain ⟨a, b⟩ := q
  obtain ⟨c, d⟩ := q'
  simp at h
  rw [h.1, h.2]
theorem keyS (q : Int × Int) (hq : DomS q) : ∃ kl, keyOf Try.prog 60 (encS q) = some kl := by
  have hu := Try.underlying60
  have h1 : Try.prog.keyType 60 = true := by kernel_rfl
  have w1 := i64_wf hq.1
  have w2 := i64_wf hq.2
  have h2 : (encS q).formed Try.prog 60 = true := by kernel_rfl
  have h3 : Try.prog.keyLits (Try.prog.types.size + 1) 60 (encS q).cells.toList = some [.int .i64 q.1, .int .i64 q.2] := by
    have hi : ∀ d n, (Lit.int .i64 n).wf = true → Try.prog.keyLits (d + 1) 3 [.int .i64 n] = some [.int .i64 n] := fun d n hn => by
      unfold Program.keyLits
      rw [Try.underlying3]
      simp [hn]
    have hs := hi
    have k3 : Try.prog.cellsOf 3 = 1 := by kernel_rfl
    have k6 : Try.prog.cellsOf 60 = 2 := by kernel_rfl
    obtain ⟨d, hd⟩ : ∃ d, Try.prog.types.size = d + 1 := ⟨Try.prog.types.size - 1, by have : 0 < Try.prog.types.size := of_decide_eq_true (by kernel_rfl); omega⟩
    rw [hd]
    unfold Program.keyLits
    rw [hu]
    have hx := hi d q.1 w1
    have hy := hi d q.2 w2
    simp [encS, Value.cells, k3, k6, hx, hy]
  exact ⟨_, by unfold keyOf; rw [hu]; simp only [h1, h2, Bool.and_self, if_true, h3]; rfl⟩
theorem s_enc : EncOk Try.prog 60 encS DomS where
  keyed := Go.Maps.Keyed.of_law (deep_law_laid laid_out (m := 2) (by omega) (of_decide_eq_true (by kernel_rfl)) (by kernel_rfl) (by kernel_rfl))
  key := keyS
  inj := encS_inj
/-- The five lists that stand at a side, as a value. -/
def agg5 (c : Nat → Value) : Value := .agg #[c 0, c 1, c 2, c 3, c 4]
/-- One of them turned. -/
def upd {α : Type} (f : Int × Int → Nat → α) (q : Int × Int) (j : Nat) (v : α) : Int × Int → Nat → α := fun q' j' => if q' = q ∧ j' = j then v else f q' j'
abbrev mapS : TypeId := 56
/-- Block b is a map from sides to five rows each; the row of side q, column j, is the slice cf q j and holds f q j. -/
structure Gr5 (w : World) (base b : Nat) (m : List ((Int × Int) × Value)) (cf : Int × Int → Nat → Value) (f : Int × Int → Nat → List Int) : Prop where
  map : MapAt Try.prog 60 encS w b m
  stm : ∃ es clock, w.heap[b]? = some (.map es clock) ∧ Stamped es clock
  low : b < base
  val : ∀ p ∈ m, p.2 = agg5 (cf p.1)
  rows : ∀ q j, j < 5 → w.ownsRow base 2 1 (cf q j) (f q j).length ((f q j).map (Value.int .i64))
  far : ∀ q q' i j, i < 5 → j < 5 → (q ≠ q' ∨ i ≠ j) → (cf q i).ownBlock = none ∨ (cf q i).ownBlock ≠ (cf q' j).ownBlock
  off : ∀ q, (∀ p ∈ m, p.1 ≠ q) → ∀ j, cf q j = .slice none 0 0 ∧ f q j = []
  dom : ∀ p ∈ m, DomS p.1
section
variable {w w' w1 : World} {base b : Nat} {m : List ((Int × Int) × Value)} {cf : Int × Int → Nat → Value} {f : Int × Int → Nat → List Int}
theorem Gr5.made (w : World) : Gr5 (w.alloc (.map #[] 0)) (w.heap.size + 1) w.heap.size [] (fun _ _ => .slice none 0 0) (fun _ _ => []) :=
  ⟨MapAt.made _ _ _ _, ⟨#[], 0, heap_alloc_new w _, stamped_empty 0⟩, Nat.lt_succ_self _, by simp, fun _ _ _ => World.ownsRow_nil _ _ _ _, fun _ _ _ _ _ _ _ => .inl rfl, fun _ _ _ => ⟨rfl, rfl⟩, by simp⟩
theorem own_not_low {e : TypeId} {size n : Nat} {v : Value} {xs : List Value} (h : w.ownsRow base e size v n xs) {g : Nat} (hg : g < base) : v.ownBlock ≠ some g := fun e => by
  have := (h.lt _ e).1
  omega
theorem none_or5 (x : Value) : x.ownBlock = none ∨ x.ownBlock ≠ none := by cases x.ownBlock <;> simp
theorem Gr5.lt (h : Gr5 w base b m cf f) : b < w.heap.size := h.map.lt
/-- Behind whatever turns none of its blocks. -/
theorem Gr5.kept (h : Gr5 w base b m cf f) {row : Option Nat} (hg : w.grownBy w' row) (hr : ∀ g, row = some g → g < base ∧ g ≠ b) : Gr5 w' base b m cf f := by
  have hne : some b ≠ row := fun e => (hr b e.symm).2 rfl
  obtain ⟨es, clock, hb, hs⟩ := h.stm
  have hlt := h.map.lt
  refine ⟨h.map.grown hg hne, ⟨es, clock, (hg.block b hlt hne).trans hb, hs⟩, h.low, h.val, fun q j hj => (h.rows q j hj).kept hg ?_, h.far, h.off, h.dom⟩
  cases hr' : row with
  | none => exact none_or5 _
  | some g => exact .inr (own_not_low (h.rows q j hj) (hr g hr').1)
theorem Gr5.below (h : Gr5 w base b m cf f) (hb : Below w.heap.size w w') : Gr5 w' base b m cf f :=
  h.kept ⟨hb.os, hb.tape, hb.output, hb.size, fun k hk _ => hb.block k hk⟩ (row := none) (fun g hg => by cases hg)
theorem mem_getS {q : Int × Int} {v : Value} : ∀ {m : List ((Int × Int) × Value)}, getM q m = some v → (q, v) ∈ m
  | [], h => by simp [getM] at h
  | p :: m, h => by
    unfold getM at h
    split at h
    · rename_i hc
      have e : p.1 = q := by simpa using hc
      obtain ⟨a, c⟩ := p
      simp at e h
      subst e h
      exact List.mem_cons_self ..
    · exact List.mem_cons_of_mem _ (mem_getS h)
theorem getS_none' {q : Int × Int} : ∀ {m : List ((Int × Int) × Value)}, getM q m = none → ∀ p ∈ m, p.1 ≠ q
  | [], _, p, hp => by simp at hp
  | p :: m, h, x, hx => by
    unfold getM at h
    split at h
    · cases h
    · rename_i hc
      rcases List.mem_cons.1 hx with rfl | hx
      · simpa using hc
      · exact getS_none' h x hx
theorem Gr5.slot (h : Gr5 w base b m cf f) (q : Int × Int) : (getM q m).getD (agg5 fun _ => .slice none 0 0) = agg5 (cf q) := by
  cases hg : getM q m with
  | none =>
    have := h.off q (getS_none' hg)
    rw [Option.getD_none]
    unfold agg5
    rw [(this 0).1, (this 1).1, (this 2).1, (this 3).1, (this 4).1]
  | some v => exact h.val _ (mem_getS hg)
theorem Gr5.look (h : Gr5 w base b m cf f) {q : Int × Int} (hq : DomS q) : (Instr.lookup mapS (.map (some b)) (encS q) false).run Try.prog w = .ok (agg5 (cf q)) w := by
  rw [← h.slot q]
  exact MapAt.look (P := Try.prog) false s_enc Try.underlying56 (z := agg5 fun _ => .slice none 0 0) (by kernel_rfl) h.map h.dom hq
theorem putS_mem {q : Int × Int} {v : Value} (ha : Apart m) {x : (Int × Int) × Value} (hx : x ∈ putM q v m) : x = (q, v) ∨ (x ∈ m ∧ x.1 ≠ q) := by
  induction m with
  | nil => simp [putM] at hx; exact .inl hx
  | cons p m ih =>
    obtain ⟨h1, h2⟩ := List.pairwise_cons.1 ha
    unfold putM at hx
    split at hx
    · rename_i hc
      have e : p.1 = q := by simpa using hc
      rcases List.mem_cons.1 hx with hx | hx
      · exact .inl hx
      · exact .inr ⟨List.mem_cons_of_mem _ hx, fun e' => h1 x hx (e.trans e'.symm)⟩
    · rename_i hc
      rcases List.mem_cons.1 hx with hx | hx
      · subst hx
        exact .inr ⟨List.mem_cons_self .., by simpa using hc⟩
      · rcases ih h2 hx with h | ⟨h, h'⟩
        · exact .inl h
        · exact .inr ⟨List.mem_cons_of_mem _ h, h'⟩
theorem putS_length {q : Int × Int} {v : Value} : ∀ (m : List ((Int × Int) × Value)), (putM q v m).length ≤ m.length + 1
  | [] => by simp [putM]
  | p :: m => by
    unfold putM
    split
    · simp
    · have := putS_length (q := q) (v := v) m
      simp
      omega
theorem putS_mono {q : Int × Int} {v : Value} {x : (Int × Int) × Value} (hx : x ∈ m) : ∃ u, (x.1, u) ∈ putM q v m := by
  induction m with
  | nil => simp at hx
  | cons p m ih =>
    unfold putM
    split
    · rename_i hc
      have e : p.1 = q := by simpa using hc
      rcases List.mem_cons.1 hx with rfl | hx
      · exact ⟨v, by rw [e]; exact List.mem_cons_self ..⟩
      · exact ⟨x.2, List.mem_cons_of_mem _ hx⟩
    · rcases List.mem_cons.1 hx with rfl | hx
      · exact ⟨x.2, List.mem_cons_self ..⟩
      · obtain ⟨u, hu⟩ := ih hx
        exact ⟨u, List.mem_cons_of_mem _ hu⟩
theorem putS_new {q : Int × Int} {v : Value} : ∀ (m : List ((Int × Int) × Value)), (q, v) ∈ putM q v m
  | [] => by simp [putM]
  | p :: m => by
    unfold putM
    split
    · exact List.mem_cons_self ..
    · exact List.mem_cons_of_mem _ (putS_new m)
/-- The store keeps the stamps. -/
theorem storeS_stm (h : MapAt Try.prog 60 encS w b m) (hs : ∃ es clock, w.heap[b]? = some (.map es clock) ∧ Stamped es clock) (hd : ∀ p ∈ m, DomS p.1) {q : Int × Int} (hq : DomS q) (v : Value) :
    ∃ w', (Instr.mapUpdate mapS (.map (some b)) (encS q) v).run Try.prog w = .ok () w' ∧ MapAt Try.prog 60 encS w' b (putM q v m) ∧ w.grownBy w' (some b) ∧ ∃ es clock, w'.heap[b]? = some (.map es clock) ∧ Stamped es clock := by
  have ht := Try.underlying56
  obtain ⟨w', hrun, hM, hg⟩ := h.store s_enc ht hd hq v
  refine ⟨w', hrun, hM, hg, ?_⟩
  obtain ⟨es, clock, hb, hs⟩ := hs
  obtain ⟨es0, clock0, hb0, hm⟩ := h.blk
  obtain ⟨rfl, rfl⟩ : es = es0 ∧ clock = clock0 := by rw [hb] at hb0; simpa using hb0
  obtain ⟨kl, hkl⟩ := s_enc.key q hq
  change (Instr.mapUpdate 56 (.map (some b)) (encS q) v).run Try.prog w = .ok () w' at hrun
  rcases MapAt.find s_enc hm hd hq w with ⟨h1, h2⟩ | ⟨j, v0, h1, h2, e0, h3, h4, h5⟩
  · simp [Instr.mapUpdate, run_underlying ht, MapKept.run_getObj_map hb, s_enc.keyed.check w false hkl, h1, MapKept.run_setObj_map _ hb, Result.andThen] at hrun
    have hk : ∀ x ∈ es.toList, x.key ≠ encS q := by
      intro x hx e
      have h1 : (x.key, x.val) ∈ m.map fun p => (encS p.1, p.2) := by rw [← hm]; exact List.mem_map_of_mem (f := fun e => (e.key, e.val)) hx
      obtain ⟨p, hp, e'⟩ := List.mem_map.1 h1
      injection e' with e1 e2
      exact h2 p hp (s_enc.inj _ _ (e1.trans e))
    exact ⟨_, _, by rw [← hrun]; exact heap_setBlock_same hb _, stamped_push hs hk⟩
  · simp [Instr.mapUpdate, run_underlying ht, MapKept.run_getObj_map hb, s_enc.keyed.check w false hkl, h1, h3, h4, s_enc.keyed.stays w hkl, MapKept.run_setObj_map _ hb, Result.andThen] at hrun
    refine ⟨_, _, by rw [← hrun]; exact heap_setBlock_same hb _, stamped_modify hs j (fun e' => { e' with key := encS q, val := v }) (fun _ _ => rfl) (fun e _ h6 => ?_)⟩
    have h7 : e0 = e := Option.some.inj (h3.symm.trans h6)
    have h8 : e.key = encS q := h7 ▸ h4
    exact h8.symm
/-- 'all[j] = append(all[j], ..); by[q] = all', once the row has grown: the store. -/
theorem Gr5.put (h : Gr5 w base b m cf f) {q : Int × Int} (hq : DomS q) {j : Nat} (hj : j < 5) (hg : w.grownBy w1 (cf q j).ownBlock) {v' : Value} {ys : List Int} (hown : w1.ownsRow base 2 1 v' ys.length (ys.map (Value.int .i64)))
    (hloc : v'.ownBlock = (cf q j).ownBlock ∨ ∃ g, v'.ownBlock = some g ∧ w.heap.size ≤ g) :
    ∃ w2, (Instr.mapUpdate mapS (.map (some b)) (encS q) (agg5 (upd cf q j v' q))).run Try.prog w1 = .ok () w2 ∧ Gr5 w2 base b (putM q (agg5 (upd cf q j v' q)) m) (upd cf q j v') (upd f q j ys) ∧ w1.grownBy w2 (some b) := by
  have hsl := h.rows q j hj
  have hnb : some b ≠ (cf q j).ownBlock := fun e => own_not_low hsl h.low e.symm
  obtain ⟨es, clock, hb, hs⟩ := h.stm
  have hlt := h.map.lt
  obtain ⟨w2, hrun, hM, hg2, hst⟩ := storeS_stm (h.map.grown hg hnb) ⟨es, clock, (hg.block b hlt hnb).trans hb, hs⟩ h.dom hq (agg5 (upd cf q j v' q))
  have same : ∀ q' i, ¬ (q' = q ∧ i = j) → upd cf q j v' q' i = cf q' i := fun q' i hne => if_neg hne
  have samef : ∀ q' i, ¬ (q' = q ∧ i = j) → upd f q j ys q' i = f q' i := fun q' i hne => if_neg hne
  have at1 : upd cf q j v' q j = v' := if_pos ⟨rfl, rfl⟩
  have at2 : upd f q j ys q j = ys := if_pos ⟨rfl, rfl⟩
  have apart : ∀ q' i, i < 5 → ¬ (q' = q ∧ i = j) → (cf q' i).ownBlock = none ∨ (cf q' i).ownBlock ≠ (cf q j).ownBlock := fun q' i hi hne => h.far q' q i j hi hj (by
    by_cases e : q' = q
    · exact .inr fun e2 => hne ⟨e, e2⟩
    · exact .inl e)
  have apart' : ∀ q' i, i < 5 → ¬ (q' = q ∧ i = j) → (cf q' i).ownBlock = none ∨ (cf q' i).ownBlock ≠ v'.ownBlock := by
    intro q' i hi hne
    rcases hloc with e | ⟨g, e, hge⟩
    · rw [e]; exact apart q' i hi hne
    · cases hx : (cf q' i).ownBlock with
      | none => exact .inl rfl
      | some gx =>
        refine .inr fun e' => ?_
        have := ((h.rows q' i hi).lt gx hx).2
        rw [e] at e'
        cases e'
        omega
  refine ⟨w2, hrun, ⟨hM, hst, h.low, fun p hp => ?_, fun q' i hi => ?_, fun q1 q2 i i' hi hi' hne => ?_, fun q' hk i => ?_, fun p hp => ?_⟩, hg2⟩
  · rcases putS_mem h.map.apart hp with rfl | ⟨hp, hne⟩
    · rfl
    · rw [h.val p hp]
      unfold agg5
      rw [same p.1 0 (fun e => hne e.1), same p.1 1 (fun e => hne e.1), same p.1 2 (fun e => hne e.1), same p.1 3 (fun e => hne e.1), same p.1 4 (fun e => hne e.1)]
  · by_cases c : q' = q ∧ i = j
    · obtain ⟨rfl, rfl⟩ := c
      rw [at1, at2]
      exact hown.kept hg2 (.inr (own_not_low hown h.low))
    · rw [same q' i c, samef q' i c]
      have h1 := (h.rows q' i hi).kept hg (apart q' i hi c)
      exact h1.kept hg2 (.inr (own_not_low h1 h.low))
  · by_cases c1 : q1 = q ∧ i = j
    · by_cases c2 : q2 = q ∧ i' = j
      · exact absurd hne (by rintro (h1 | h1); exact h1 (c1.1.trans c2.1.symm); exact h1 (c1.2.trans c2.2.symm))
      · obtain ⟨rfl, rfl⟩ := c1
        rw [at1, same q2 i' c2]
        rcases apart' q2 i' hi' c2 with e | e
        · cases hv : v'.ownBlock with
          | none => exact .inl rfl
          | some g => exact .inr (by rw [e]; simp)
        · exact .inr fun e' => e e'.symm
    · rw [same q1 i c1]
      by_cases c2 : q2 = q ∧ i' = j
      · obtain ⟨rfl, rfl⟩ := c2
        rw [at1]
        exact apart' q1 i hi c1
      · rw [same q2 i' c2]
        exact h.far q1 q2 i i' hi hi' hne
  · have hkq : ¬ (q' = q ∧ i = j) := fun e => hk _ (putS_new m) e.1.symm
    have h0 := h.off q' (fun p hp e => by
      obtain ⟨u, hu⟩ := putS_mono (q := q) (v := agg5 (upd cf q j v' q)) hp
      exact hk _ hu e) i
    rw [same q' i hkq, samef q' i hkq]
    exact h0
  · rcases putS_mem h.map.apart hp with rfl | ⟨hp, _⟩
    · exact hq
    · exact h.dom p hp
end
end Go.Proofs.Ytgkidjjijgegmaa
