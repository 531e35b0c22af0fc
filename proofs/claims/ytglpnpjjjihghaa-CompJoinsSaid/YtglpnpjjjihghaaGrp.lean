/-
  A map from ints to slices of amounts that the call itself fills: the lists that stand in it, and its keys.
-/
import Derived.Test.YtglpnpjjjihghaaMapR
import Derived.Test.YtglpnpjjjihghaaMoneyDef
import Derived.Maps.OwnRows
import Derived.Lib.SlKeysI
import Derived.WideShapes
namespace Go.Proofs.Ytglpnpjjjihghaa
open Go.RowKit Go.Maps Go.MapKept Go.ChangeMaps
open Go.WideElems (Fit)

theorem i64_wf {x : Int} (h : I64 x) : (Lit.int .i64 x).wf = true := by
  unfold I64 at h
  have h1 : IntKind.i64.min = -9223372036854775808 := rfl
  have h2 : IntKind.i64.max = 9223372036854775807 := rfl
  simp only [Lit.wf, Bool.and_eq_true, decide_eq_true_eq, h1, h2]
  exact h
def encI (n : Int) : Value := .int .i64 n
theorem i_enc : EncOk Try.prog 3 encI I64 where
  keyed := Go.Maps.int_keyed Try.underlying3
  key := fun q hq => ⟨_, Go.Maps.keyOf_int_mk Try.underlying3 (i64_wf hq)⟩
  inj := fun q q' h => by
    unfold encI at h
    simpa using h
/-- What stands at a key: nil, where there is none. -/
def slotV (q : Int) (m : List (Int × Value)) : Value := (getM q m).getD (.slice none 0 0)
structure Grp (w : World) (base b : Nat) (m : List (Int × Value)) (f : Int → List Int) : Prop where
  map : MapAt Try.prog 3 encI w b m
  stm : ∃ es clock, w.heap[b]? = some (.map es clock) ∧ Stamped es clock
  low : b < base
  rows : ∀ p ∈ m, w.ownsRow base 2 1 p.2 (f p.1).length ((f p.1).map encI)
  far : ∀ p ∈ m, ∀ q ∈ m, p.1 ≠ q.1 → p.2.ownBlock = none ∨ p.2.ownBlock ≠ q.2.ownBlock
  off : ∀ q, (∀ p ∈ m, p.1 ≠ q) → f q = []
  dom : ∀ p ∈ m, I64 p.1
section
variable {w w' w1 : World} {base b : Nat} {m : List (Int × Value)} {f : Int → List Int}
theorem Grp.made (w : World) : Grp (w.alloc (.map #[] 0)) (w.heap.size + 1) w.heap.size [] (fun _ => []) :=
  ⟨MapAt.made _ _ _ _, ⟨#[], 0, heap_alloc_new w _, stamped_empty 0⟩, Nat.lt_succ_self _, by simp, by simp, fun _ _ => rfl, by simp⟩
theorem own_not_low {e : TypeId} {size n : Nat} {v : Value} {xs : List Value} (h : w.ownsRow base e size v n xs) {g : Nat} (hg : g < base) : v.ownBlock ≠ some g := fun e => by
  have := (h.lt _ e).1
  omega
theorem Grp.kept (h : Grp w base b m f) {row : Option Nat} (hg : w.grownBy w' row) (hr : ∀ g, row = some g → g < base ∧ g ≠ b) : Grp w' base b m f := by
  have hne : some b ≠ row := fun e => (hr b e.symm).2 rfl
  obtain ⟨es, clock, hb, hs⟩ := h.stm
  have hlt := h.map.lt
  refine ⟨h.map.grown hg hne, ⟨es, clock, (hg.block b hlt hne).trans hb, hs⟩, h.low, fun p hp => (h.rows p hp).kept hg ?_, h.far, h.off, h.dom⟩
  cases hr' : row with
  | none => cases p.2.ownBlock <;> simp
  | some g => exact .inr (own_not_low (h.rows p hp) (hr g hr').1)
theorem Grp.below {B : Nat} (h : Grp w base b m f) (hB : w.heap.size ≤ B) (hb : Below B w w') : Grp w' base b m f := by
  obtain ⟨es, clock, hb', hs⟩ := h.stm
  have hlt := h.map.lt
  refine ⟨h.map.below (by omega) hb, ⟨es, clock, (hb.block b (by omega)).trans hb', hs⟩, h.low, fun p hp => (h.rows p hp).kept ⟨hb.os, hb.tape, hb.output, hb.size, fun k hk _ => hb.block k (Nat.lt_of_lt_of_le hk hB)⟩ (by cases p.2.ownBlock <;> simp : p.2.ownBlock = none ∨ p.2.ownBlock ≠ none), h.far, h.off, h.dom⟩
theorem Grp.drew (h : Grp w base b m f) : Grp w.drew base b m f := h.below (Nat.le_refl _) (Below.refl _ _).drew
theorem mem_getM {q : Int} {v : Value} : ∀ {m : List (Int × Value)}, getM q m = some v → (q, v) ∈ m
  | [], h => by simp [getM] at h
  | p :: m, h => by
    unfold getM at h
    split at h
    · rename_i hc
      have e : p.1 = q := by simpa using hc
      obtain ⟨a, c⟩ := p
      simp at e h
      subst e h
      exact List.mem_cons_self ..
    · exact List.mem_cons_of_mem _ (mem_getM h)
theorem getM_none' {q : Int} : ∀ {m : List (Int × Value)}, getM q m = none → ∀ p ∈ m, p.1 ≠ q
  | [], _, p, hp => by simp at hp
  | p :: m, h, x, hx => by
    unfold getM at h
    split at h
    · cases h
    · rename_i hc
      rcases List.mem_cons.1 hx with rfl | hx
      · simpa using hc
      · exact getM_none' h x hx
theorem Grp.slot (h : Grp w base b m f) (q : Int) : w.ownsRow base 2 1 (slotV q m) (f q).length ((f q).map encI) := by
  unfold slotV
  cases hg : getM q m with
  | none => rw [h.off q (getM_none' hg)]; exact World.ownsRow_nil _ _ _ _
  | some v => exact h.rows _ (mem_getM hg)
theorem Grp.look (h : Grp w base b m f) {q : Int} (hq : I64 q) {t : TypeId} (ht : Try.prog.underlying t = some (.map 3 35)) : (Instr.lookup t (.map (some b)) (.int .i64 q) false).run Try.prog w = .ok (slotV q m) w :=
  MapAt.look (P := Try.prog) false i_enc ht (z := .slice none 0 0) (by kernel_rfl) h.map h.dom hq
theorem putM_mem {q : Int} {v : Value} (ha : Apart m) {x : Int × Value} (hx : x ∈ putM q v m) : x = (q, v) ∨ (x ∈ m ∧ x.1 ≠ q) := by
  induction m with
  | nil => simp [putM] at hx; exact .inl hx
  | cons p m ih =>
    obtain ⟨h1, h2⟩ := List.pairwise_cons.1 ha
    unfold putM at hx
    split at hx
    · rename_i hc
      have e : p.1 = q := by simpa using hc
      rcases List.mem_cons.1 hx with hx | hx
      · exact .inl hx
      · exact .inr ⟨List.mem_cons_of_mem _ hx, fun e' => h1 x hx (e.trans e'.symm)⟩
    · rename_i hc
      rcases List.mem_cons.1 hx with hx | hx
      · subst hx
        exact .inr ⟨List.mem_cons_self .., by simpa using hc⟩
      · rcases ih h2 hx with h | ⟨h, h'⟩
        · exact .inl h
        · exact .inr ⟨List.mem_cons_of_mem _ h, h'⟩
theorem putM_length {q : Int} {v : Value} : ∀ (m : List (Int × Value)), (putM q v m).length ≤ m.length + 1
  | [] => by simp [putM]
  | p :: m => by
    unfold putM
    split
    · simp
    · have := putM_length (q := q) (v := v) m
      simp
      omega
theorem putM_mono {q : Int} {v : Value} {x : Int × Value} (hx : x ∈ m) : ∃ u, (x.1, u) ∈ putM q v m := by
  induction m with
  | nil => simp at hx
  | cons p m ih =>
    unfold putM
    split
    · rename_i hc
      have e : p.1 = q := by simpa using hc
      rcases List.mem_cons.1 hx with rfl | hx
      · exact ⟨v, by rw [e]; exact List.mem_cons_self ..⟩
      · exact ⟨x.2, List.mem_cons_of_mem _ hx⟩
    · rcases List.mem_cons.1 hx with rfl | hx
      · exact ⟨x.2, List.mem_cons_self ..⟩
      · obtain ⟨u, hu⟩ := ih hx
        exact ⟨u, List.mem_cons_of_mem _ hu⟩
theorem putM_new {q : Int} {v : Value} : ∀ (m : List (Int × Value)), (q, v) ∈ putM q v m
  | [] => by simp [putM]
  | p :: m => by
    unfold putM
    split
    · exact List.mem_cons_self ..
    · exact List.mem_cons_of_mem _ (putM_new m)
/-- The store keeps the stamps. -/
theorem store_stm {t : TypeId} (ht : Try.prog.underlying t = some (.map 3 35)) (h : MapAt Try.prog 3 encI w b m) (hs : ∃ es clock, w.heap[b]? = some (.map es clock) ∧ Stamped es clock) (hd : ∀ p ∈ m, I64 p.1) {q : Int} (hq : I64 q) (v : Value) :
    ∃ w', (Instr.mapUpdate t (.map (some b)) (.int .i64 q) v).run Try.prog w = .ok () w' ∧ MapAt Try.prog 3 encI w' b (putM q v m) ∧ w.grownBy w' (some b) ∧ ∃ es clock, w'.heap[b]? = some (.map es clock) ∧ Stamped es clock := by
  obtain ⟨w', hrun, hM, hg⟩ := h.store i_enc ht hd hq v
  refine ⟨w', hrun, hM, hg, ?_⟩
  obtain ⟨es, clock, hb, hs⟩ := hs
  obtain ⟨es0, clock0, hb0, hm⟩ := h.blk
  obtain ⟨rfl, rfl⟩ : es = es0 ∧ clock = clock0 := by rw [hb] at hb0; simpa using hb0
  obtain ⟨kl, hkl⟩ := i_enc.key q hq
  change (Instr.mapUpdate t (.map (some b)) (encI q) v).run Try.prog w = .ok () w' at hrun
  rcases MapAt.find i_enc hm hd hq w with ⟨h1, h2⟩ | ⟨j, v0, h1, h2, e0, h3, h4, h5⟩
  · simp [Instr.mapUpdate, run_underlying ht, MapKept.run_getObj_map hb, i_enc.keyed.check w false hkl, h1, MapKept.run_setObj_map _ hb, Result.andThen] at hrun
    have hk : ∀ x ∈ es.toList, x.key ≠ encI q := by
      intro x hx e
      have h1 : (x.key, x.val) ∈ m.map fun p => (encI p.1, p.2) := by rw [← hm]; exact List.mem_map_of_mem (f := fun e => (e.key, e.val)) hx
      obtain ⟨p, hp, e'⟩ := List.mem_map.1 h1
      injection e' with e1 e2
      exact h2 p hp (i_enc.inj _ _ (e1.trans e))
    exact ⟨_, _, by rw [← hrun]; exact heap_setBlock_same hb _, stamped_push hs hk⟩
  · simp [Instr.mapUpdate, run_underlying ht, MapKept.run_getObj_map hb, i_enc.keyed.check w false hkl, h1, h3, h4, i_enc.keyed.stays w hkl, MapKept.run_setObj_map _ hb, Result.andThen] at hrun
    refine ⟨_, _, by rw [← hrun]; exact heap_setBlock_same hb _, stamped_modify hs j (fun e' => { e' with key := encI q, val := v }) (fun _ _ => rfl) (fun e _ h6 => ?_)⟩
    have h7 : e0 = e := Option.some.inj (h3.symm.trans h6)
    have h8 : e.key = encI q := h7 ▸ h4
    exact h8.symm
/-- 'm[q] = append(m[q], x)', once the row has grown: the store. -/
theorem Grp.put {t : TypeId} (ht : Try.prog.underlying t = some (.map 3 35)) (h : Grp w base b m f) {q : Int} (hq : I64 q) (hg : w.grownBy w1 (slotV q m).ownBlock) {v' : Value} {ys : List Int} (hown : w1.ownsRow base 2 1 v' ys.length (ys.map encI))
    (hloc : v'.ownBlock = (slotV q m).ownBlock ∨ ∃ g, v'.ownBlock = some g ∧ w.heap.size ≤ g) :
    ∃ w2, (Instr.mapUpdate t (.map (some b)) (.int .i64 q) v').run Try.prog w1 = .ok () w2 ∧ Grp w2 base b (putM q v' m) (fun k => if k = q then ys else f k) ∧ w1.grownBy w2 (some b) := by
  have hsl := h.slot q
  have hnb : some b ≠ (slotV q m).ownBlock := fun e => own_not_low hsl h.low e.symm
  obtain ⟨es, clock, hb, hs⟩ := h.stm
  have hlt := h.map.lt
  obtain ⟨w2, hrun, hM, hg2, hst⟩ := store_stm ht (h.map.grown hg hnb) ⟨es, clock, (hg.block b hlt hnb).trans hb, hs⟩ h.dom hq v'
  -- old rows at other keys lie apart from the slot's row
  have apart : ∀ p ∈ m, p.1 ≠ q → p.2.ownBlock = none ∨ p.2.ownBlock ≠ (slotV q m).ownBlock := by
    intro p hp hne
    unfold slotV
    cases hgm : getM q m with
    | none => cases p.2.ownBlock <;> simp [Value.ownBlock]
    | some v => exact h.far p hp _ (mem_getM hgm) hne
  have apart' : ∀ p ∈ m, p.1 ≠ q → p.2.ownBlock = none ∨ p.2.ownBlock ≠ v'.ownBlock := by
    intro p hp hne
    rcases hloc with e | ⟨g, e, hge⟩
    · rw [e]; exact apart p hp hne
    · cases hx : p.2.ownBlock with
      | none => exact .inl rfl
      | some gx =>
        refine .inr fun e' => ?_
        have := ((h.rows p hp).lt gx hx).2
        rw [e] at e'
        cases e'
        omega
  refine ⟨w2, hrun, ⟨hM, hst, h.low, fun p hp => ?_, fun p hp p' hp' hne => ?_, fun k hk => ?_, fun p hp => ?_⟩, hg2⟩
  · rcases putM_mem h.map.apart hp with rfl | ⟨hp, hne⟩
    · simp only [if_pos]
      exact hown.kept hg2 (.inr (own_not_low hown h.low))
    · simp only [if_neg hne]
      have h1 := (h.rows p hp).kept hg (apart p hp hne)
      exact h1.kept hg2 (.inr (own_not_low h1 h.low))
  · rcases putM_mem h.map.apart hp with rfl | ⟨hp, hp1⟩
    · rcases putM_mem h.map.apart hp' with rfl | ⟨hp', hp1'⟩
      · exact absurd rfl hne
      · rcases apart' p' hp' hp1' with e | e
        · cases hv : v'.ownBlock with
          | none => exact .inl rfl
          | some g => exact .inr (by rw [e]; simp)
        · exact .inr fun e' => e e'.symm
    · rcases putM_mem h.map.apart hp' with rfl | ⟨hp', hp1'⟩
      · exact apart' p hp hp1
      · exact h.far p hp p' hp' hne
  · have hkq : k ≠ q := fun e => hk _ (putM_new m) e.symm
    simp only [if_neg hkq]
    refine h.off k fun p hp e => ?_
    obtain ⟨u, hu⟩ := putM_mono (q := q) (v := v') hp
    exact hk _ hu e
  · rcases putM_mem h.map.apart hp with rfl | ⟨hp, _⟩
    · exact hq
    · exact h.dom p hp
/-- The map as the library's contracts ask for it: its keys are these. -/
theorem Grp.keys (h : Grp w base b m f) (hl : m.length ≤ maxLen) : ∃ D : DataW Unit, w.ownsMap Try.prog 3 (fun _ => some (.nil, [])) b m.length D ∧ Maps.size D = m.length ∧ (m.map (·.1)).Perm (intKeys D) := by
  obtain ⟨es, clock, hb, hs⟩ := h.stm
  obtain ⟨es0, clock0, hb0, hm⟩ := h.map.blk
  obtain ⟨rfl, rfl⟩ : es = es0 ∧ clock = clock0 := by rw [hb] at hb0; simpa using hb0
  have hsz : es.size = m.length := by
    have := congrArg List.length hm
    simpa using this
  have hkey : ∀ x ∈ es.toList, ∃ p ∈ m, x.key = encI p.1 := by
    intro x hx
    have h1 : (x.key, x.val) ∈ m.map fun p => (encI p.1, p.2) := by rw [← hm]; exact List.mem_map_of_mem (f := fun e => (e.key, e.val)) hx
    obtain ⟨p, hp, e'⟩ := List.mem_map.1 h1
    injection e' with e1 e2
    exact ⟨p, hp, e1.symm⟩
  have hkl : ∀ q, I64 q → keyOf Try.prog 3 (encI q) = some (.int .i64 q) := fun q hq => Go.Maps.keyOf_int_mk Try.underlying3 (i64_wf hq)
  have F : Fit (H := Unit) Try.prog 3 (fun _ => some (.nil, [])) es clock := ⟨by rw [hsz]; exact hl, hs, fun x hx => by
    obtain ⟨p, hp, e⟩ := hkey x hx
    exact ⟨(.int .i64 p.1, .nil), by simp [WideElems.rd, e, hkl p.1 (h.dom p hp)]⟩⟩
  have hrg : es.toList.map (WideElems.rg (H := Unit) Try.prog 3 (fun _ => some (.nil, []))) = m.map fun p => (Lit.int .i64 p.1, DataW.nil) := by
    have e1 : es.toList.map (fun e => (e.key)) = m.map fun p => encI p.1 := by
      have := congrArg (List.map Prod.fst) hm
      simpa [List.map_map, Function.comp_def] using this
    have e2 : es.toList.map (WideElems.rg (H := Unit) Try.prog 3 (fun _ => some (.nil, []))) = (es.toList.map (fun e => e.key)).map fun v => ((keyOf Try.prog 3 v).map fun kl => (kl, (DataW.nil : DataW Unit))).getD (.bool false, .nil) := by
      rw [List.map_map]
      refine List.map_congr_left fun x _ => ?_
      simp only [WideElems.rg, WideElems.rd, Function.comp]
      cases keyOf Try.prog 3 x.key <;> rfl
    rw [e2, e1, List.map_map]
    refine List.map_congr_left fun p hp => ?_
    simp [hkl p.1 (h.dom p hp)]
  refine ⟨.map ((es.toList.map (WideElems.rg Try.prog 3 (fun _ => some (.nil, [])))).foldr DataW.insert []), ⟨es, clock, hb, F, by omega, rfl⟩, ?_, ?_⟩
  · rw [Maps.size_eq, length_sorted]
    simp [hsz]
  · have hp := (Go.WideShapes.sorted_perm (es.toList.map (WideElems.rg (H := Unit) Try.prog 3 (fun _ => some (.nil, [])))))
    have h2 := (hp.map fun p : Lit × DataW Unit => intOf p.1).symm
    refine List.Perm.trans ?_ h2
    rw [hrg, List.map_map]
    exact List.Perm.of_eq (List.map_congr_left fun p _ => rfl)
end
end Go.Proofs.Ytglpnpjjjihghaa
