/-
  slices.SortFunc at tallies of one's own: the sort's contract.
-/
import Derived.Test.YtgkidjjijgegmaaCW4
import Derived.Test.YtgkidjjijgegmaaShelf
import Derived.Shelf.SlSortCmp.WholeK
import Derived.Shelf.SlSortCmp.NoneTotal
namespace Go.Proofs.Ytgkidjjijgegmaa
open Go.RowKit Go.Shelf Go.Lib Go.Sort

instance : Inhabited Tl := ⟨noTl⟩
instance (p q : Int × Int) : Decidable (sideLt p q) := inferInstanceAs (Decidable (_ ∨ _))
/-- The order of tallies, as the closure tells it. -/
def tlCmp (x y : Tl) : Int := if x.q.1 = y.q.1 then Lib.compareInt x.q.2 y.q.2 else Lib.compareInt x.q.1 y.q.1
theorem cmpI_lt (x y : Int) : decide (Lib.compareInt x y < 0) = decide (x < y) := by
  unfold Lib.compareInt
  by_cases h1 : x < y
  · simp [h1]
  · by_cases h2 : y < x <;> simp [h1, h2]
theorem tl_lt (x y : Tl) : ltOf tlCmp x y = decide (sideLt x.q y.q) := by
  unfold ltOf tlCmp sideLt
  by_cases h : x.q.1 = y.q.1
  · rw [if_pos h, cmpI_lt]
    simp [h]
  · rw [if_neg h, cmpI_lt]
    simp [h]
theorem tl_swo : SWO (ltOf tlCmp) where
  irrefl x := by rw [tl_lt]; simpa using sideLt_irrefl x.q
  trans x y z h1 h2 := by rw [tl_lt] at *; simp only [decide_eq_true_eq] at *; exact sideLt_trans h1 h2
  ntrans x y z h1 h2 := by
    rw [tl_lt] at *
    simp only [decide_eq_false_iff_not] at *
    unfold sideLt at *
    omega
set_option maxHeartbeats 1000000 in
theorem tl_closure (x y : Tl) (W : World) : Calls Try.prog 33 #[.agg x.cells.toArray, .agg y.cells.toArray] W fun e w' => e = .returned (.int .i64 (tlCmp x y)) ∧ ∃ q os', w' = grow (W.drewN q) os' := by
  obtain ⟨⟨x1, x2⟩, xa, xb, xc, xd, xe⟩ := x
  obtain ⟨⟨y1, y2⟩, ya, yb, yc, yd, ye⟩ := y
  unfold tlCmp Tl.cells
  simp only
  by_cases h : x1 = y1
  · rw [if_pos h]
    have hb : (x1 != y1) = false := by simpa using h
    have hcon := fun W' => Try.cmp_Compare_int x2 y2 W'
    generalize Lib.compareInt x2 y2 = r at hcon ⊢
    clear h
    go_enter Try.func33, Try.ntmps33
    go_wp2_with (go_at_call 34; refine (hcon _).mono ?_; rintro e w' ⟨rfl, rfl⟩)
    go_ret
    exact ⟨rfl, 0, _, by rw [alloc_eq_grow, alloc_eq_grow, grow_grow]; rfl⟩
  · rw [if_neg h]
    have hb : (x1 != y1) = true := by simpa using h
    have hcon := fun W' => Try.cmp_Compare_int x1 y1 W'
    generalize Lib.compareInt x1 y1 = r at hcon ⊢
    clear h
    go_enter Try.func33, Try.ntmps33
    go_wp2_with (go_at_call 34; refine (hcon _).mono ?_; rintro e w' ⟨rfl, rfl⟩)
    go_ret
    exact ⟨rfl, 0, _, by rw [alloc_eq_grow, alloc_eq_grow, grow_grow]; rfl⟩
/-- Cells one behind the other, as the kit's flat row has them. -/
theorem flatK_list {α : Type} [Inhabited α] (enc : α → List Value) (k : Nat) (hk : ∀ x, (enc x).length = k) (d : List α) : (flatK enc k d.toArray).toList = d.flatMap enc := by
  apply List.ext_getElem?
  intro t
  have hlen : (d.flatMap enc).length = d.length * k := by
    induction d with
    | nil => simp
    | cons a d ih => rw [List.flatMap_cons, List.length_append, ih, hk, List.length_cons, Nat.succ_mul]; omega
  by_cases ht : t < d.length * k
  · have k0 : 0 < k := by
      rcases Nat.eq_zero_or_pos k with h | h
      · subst h; simp at ht
      · exact h
    have hq : t / k < d.length := (Nat.div_lt_iff_lt_mul k0).2 ht
    have hr : t % k < k := Nat.mod_lt _ k0
    have h1 := get_flatK enc k d.toArray t (by simpa using ht)
    have hsz : t < (flatK enc k d.toArray).size := by simpa using ht
    rw [getElem!_pos _ t hsz] at h1
    rw [Array.getElem?_toList, Array.getElem?_eq_getElem hsz, h1]
    have h2 : (enc d[t / k])[t % k]? = some ((enc d[t / k])[t % k]'(by rw [hk]; exact hr)) := List.getElem?_eq_getElem _
    have h3 := flat_at enc k hk d (t / k) hq (t % k) _ h2
    have e : t / k * k + t % k = t := Nat.div_add_mod' t k
    rw [e] at h3
    rw [h3]
    have h4 : d.toArray[t / k]! = d[t / k] := by rw [getElem!_pos d.toArray (t / k) (by simpa using hq)]; simp
    rw [h4, getElem!_pos (enc d[t / k]) (t % k) (by rw [hk]; exact hr)]
  · rw [List.getElem?_eq_none (by simp; omega), List.getElem?_eq_none (by rw [hlen]; omega)]
theorem tl_len (x : Tl) : x.cells.length = 7 := rfl
theorem holds_row {w : World} {g : Nat} {cur : Array Value} {e : TypeId} {T : List Tl} (hb : w.heap[g]? = some (.cells cur e (0, 0))) (ht : cur.toList.take (T.length * 7) = tlRows T) : HoldsK Tl.cells 7 w g 0 T.toArray := by
  intro j hj
  have hj' : j < T.length * 7 := by simpa using hj
  refine ⟨?_, by simp [World.frozen?, hb]⟩
  have hf := flatK_list Tl.cells 7 tl_len T
  have h1 : (cur.toList.take (T.length * 7))[j]? = (flatK Tl.cells 7 T.toArray).toList[j]? := by rw [ht, hf]; rfl
  rw [List.getElem?_take_of_lt hj'] at h1
  simp only [World.cell?, hb, Nat.zero_add]
  simp only [Option.isSome_none, Bool.false_eq_true, if_false]
  rw [← Array.getElem?_toList, h1, Array.getElem?_toList, Array.getElem?_eq_getElem hj, getElem!_pos _ j hj]
  rfl
theorem heap_sortedK {w : World} {g n : Nat} {os : Array Obj} {cur : Array Value} {e : TypeId} {fr : Nat × Nat} (F : Array Value) (hb : w.heap[g]? = some (.cells cur e fr)) :
    (grow (putRow id (Sort.ahead w n) g 0 F) os).heap[g]? = some (.cells (putCells id 0 F cur) e fr) := by
  have hg : g < w.heap.size := (Array.getElem?_eq_some_iff.1 hb).1
  rw [heap_grow_old _ _ (by simpa using hg)]
  simp [putRow, mapBlock, Sort.ahead, Array.getElem?_modify, hb, onCells]
theorem grownBy_sortedK {w : World} {g n : Nat} {os : Array Obj} (F : Array Value) : w.grownBy (grow (putRow id (Sort.ahead w n) g 0 F) os) (some g) := by
  refine ⟨rfl, rfl, rfl, by simp, fun k hk hne => ?_⟩
  rw [heap_grow_old _ _ (by simpa using hk)]
  have : g ≠ k := fun e => hne (by rw [e])
  simp [putRow, mapBlock, Sort.ahead, Array.getElem?_modify, this]
theorem take_putCellsK (cur F : Array Value) (h : F.size ≤ cur.size) : (putCells id 0 F cur).toList.take F.size = F.toList := by
  apply List.ext_getElem?
  intro j
  by_cases hj : j < F.size
  · rw [List.getElem?_take_of_lt hj, Array.getElem?_toList]
    simp [putCells, hj, show j < cur.size by omega]
  · rw [List.getElem?_take_eq_none (by omega), List.getElem?_eq_none (by simp; omega)]
/-- **The sort's contract.** -/
theorem sort_any : SortC := by
  intro T0 A cap base W hown hlen
  by_cases h0 : T0 = []
  · subst h0
    refine (AnyF.slices_SortFunc_none Try.sortT A cap (.func (.func 33) #[] #[]) W).mono ?_
    rintro e w' ⟨rfl, rfl⟩
    exact ⟨rfl, [], List.Perm.refl _, List.Pairwise.nil, hown, ⟨rfl, rfl, rfl, Nat.le_refl _, fun _ _ _ => rfl⟩⟩
  · have hn : 0 < T0.length := List.length_pos_iff.2 h0
    rcases hown.2 with ⟨_, h⟩ | ⟨g, cp, cur, hv, hbase, hb, h1, h2, h3, h4⟩
    · omega
    · injection hv with hA _ hc
      subst hA hc
      have eg : ∀ args w, (callFunc 33 args).run Try.prog w = .ok (.enter 33 args) w := enters_of Try.func33 (by kernel_rfl) rfl
      have hgl : g < W.heap.size := (Array.getElem?_eq_some_iff.1 hb).1
      have hsz : T0.toArray.size = T0.length := by simp
      have hH := holds_row hb h4
      have hcon := AnyQ.slices_SortFunc Try.sortT 7 Try.isAgg42 Try.sizeOf42 Tl.cells tl_len tl_one tlCmp tl_swo 33 #[] g 0 cap T0.toArray W eg (fun _ _ _ _ x y => tl_closure x y _) hH hgl (by rw [hsz]; omega)
      rw [hsz] at hcon
      refine hcon.mono ?_
      rintro e w' ⟨rfl, d', n, os, ⟨hp1, _, hp3⟩, hs, rfl⟩
      have hd : d'.size = T0.length := by rw [hp1, hsz]
      have hperm : d'.toList.Perm T0 := by
        have e1 : d'.extract 0 T0.length = d' := by rw [← hd]; exact Array.extract_size
        have e2 : T0.toArray.extract 0 T0.length = T0.toArray := by rw [← hsz]; exact Array.extract_size
        rw [e1, e2] at hp3
        simpa using hp3
      have hfl : (flatK Tl.cells 7 d').toList = tlRows d'.toList := by
        have := flatK_list Tl.cells 7 tl_len d'.toList
        simpa [tlRows] using this
      have hfs : (flatK Tl.cells 7 d').size = T0.length * 7 := by rw [size_flatK, hd]
      refine ⟨rfl, d'.toList, hperm, ?_, ?_, grownBy_sortedK _⟩
      · rw [List.pairwise_iff_getElem]
        intro i j hi hj hij
        have hi' : i < d'.size := by simpa using hi
        have hj' : j < d'.size := by simpa using hj
        have := hs i j (Nat.zero_le _) hij (by omega)
        rw [getElem!_pos d' j hj', getElem!_pos d' i hi', tl_lt] at this
        simpa using this
      · refine ⟨?_, .inr ⟨g, cap, _, rfl, hbase, heap_sortedK _ hb, h1, h2, by simp [putCells, h3], ?_⟩⟩
        · rw [← hfl, Array.length_toList, hfs]
        · rw [← hfs, take_putCellsK cur _ (by rw [hfs, h3]; exact Nat.mul_le_mul_right 7 h1), hfl]
end Go.Proofs.Ytgkidjjijgegmaa
