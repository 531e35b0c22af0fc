/-
  The keys of a map of slices, sorted: what maps.Keys and slices.Sorted come to, over this seat's translation.
-/
import Derived.Test.YtglpnpjjjihghaaGrp
import Derived.Test.YtglpnpjjjihghaaIntsW
import Derived.Test.YtglpnpjjjihghaaShelf
import Derived.Shelf.SlIterI.Nil
namespace Go.Proofs.Ytglpnpjjjihghaa
open Go.RowKit Go.Maps Go.Sort Go.Shelf

theorem keys_call (mb : Option Nat) (W : World) : Calls Try.prog 68 #[.map mb] W fun e w' => e = .returned (.func (.func 91) #[] #[.pointer (some ⟨W.heap.size, 0, none⟩)]) ∧ w' = W.alloc (.cells #[.map mb] 79) :=
  callsIn_wide.1 (AnyZI.keys_in Try.keysA Fence.wide 5 trivial rfl mb W)
theorem sort_calls (m : Nat) : AnyZI.SortsIn Try.prog Try.sortedA_ren Fence.wide m :=
  ⟨fun blk off cap ss W hH hblk hsz => callsIn_wide.2 (Try.slices_Sort_int blk off cap ss W hH hblk hsz),
   fun p cap W => callsIn_wide.2 (Try.slices_Sort_int_none p cap W)⟩
def keysL (m : List (Int × Value)) : List Int := (m.map (·.1)).mergeSort fun x y => decide (x ≤ y)
theorem keysL_len (m : List (Int × Value)) : (keysL m).length = m.length := by simp [keysL]
set_option maxHeartbeats 1000000 in
theorem sorted_call {w : World} {base b : Nat} {m : List (Int × Value)} {f : Int → List Int} (h : Grp w base b m f) (hl : m.length ≤ 1000000) :
    Calls Try.prog 67 #[.func (.func 91) #[] #[.pointer (some ⟨w.heap.size, 0, none⟩)]] (w.alloc (.cells #[.map (some b)] 79)) fun e w' =>
      ∃ A c, e = .returned (.slice A m.length c) ∧ Seg w' w'.heap.size A ((keysL m).map (Value.int .i64)) ∧ Below (w.heap.size + 1) (w.alloc (.cells #[.map (some b)] 79)) w' := by
  obtain ⟨D, hown, hsz, hperm⟩ := h.keys (by unfold maxLen; omega)
  have hbl := hown.lt
  have hseq : SeqGives Fence.wide 2 Try.prog 91 #[.pointer (some ⟨w.heap.size, 0, none⟩)] encZ (fun ss => ss.Perm (intKeys D)) (Maps.size D) (w.alloc (.cells #[.map (some b)] 79)) :=
    AnyZI.keys_gives (ρ := Try.keysA_ren) { Try.keysA with } Fence.wide _ trivial rfl (by omega) w.heap.size b _ D _ (by simp) (by simp) (by
      obtain ⟨es, clock, hb, Ft, hs, hD⟩ := hown
      exact ⟨es, clock, (Below.heap_alloc _ _ b hbl).trans hb, Ft, hs, hD⟩)
  have cS := AnyZI.sorted_in Try.sortedA Fence.wide 5 trivial trivial trivial trivial rfl (by omega) (sort_calls _) (enters_of Try.func90 (by kernel_rfl) rfl) 91 #[.pointer (some ⟨w.heap.size, 0, none⟩)] trivial (enters_of Try.func91 (by kernel_rfl) rfl) _ _ (by rw [hsz]; unfold maxLen; omega) (by rw [hsz]; omega) _ hseq
  have cS' := callsIn_wide.1 cS
  change Calls Try.prog 67 _ _ _ at cS'
  refine cS'.mono ?_
  rintro e w' ⟨v, ss, rfl, hp, hrow, -, hb⟩
  have hlen : ss.length = m.length := by
    have := (hp.trans hperm.symm).length_eq
    simpa using this
  have hks : ss.mergeSort (fun x y => decide (x ≤ y)) = keysL m := mergeSort_of_perm_i (hp.trans hperm.symm)
  rw [hks, hlen] at hrow
  obtain ⟨A, c, rfl⟩ := own_form hrow
  exact ⟨A, c, rfl, Seg.of_own hrow, by simpa using hb⟩
end Go.Proofs.Ytglpnpjjjihghaa
