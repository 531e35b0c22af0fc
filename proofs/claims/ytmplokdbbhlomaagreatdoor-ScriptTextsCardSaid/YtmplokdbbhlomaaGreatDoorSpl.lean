/-
  strings.Split at one byte is the plain cut.
-/
import Derived.Lib.SplitLaws
import Derived.Lib.Split
import Derived.Test.YtmplokdbbhlomaaGreatDoorSdA
namespace Go.Proofs.YtmplokdbbhlomaaGreatDoor
open Go.RowKit

theorem splitK_L (c : UInt8) : ∀ l : List UInt8, Lib.splitK [c] 0 (Lib.count l [c]) l = splitL c l
  | [] => by
    rw [Lib.count_miss (by simp [Lib.index])]
    rfl
  | b :: l => by
    have ih := splitK_L c l
    by_cases h : b = c
    · subst h
      have hix : Lib.index (b :: l) [b] = ((0 : Nat) : Int) := by rw [Lib.index]; simp [List.isPrefixOf]
      rw [Lib.count_cons_eq, splitL, if_pos rfl, ← ih, Nat.add_comm, Lib.splitK, hix, if_neg (by decide)]
      rfl
    · have hp : ([c] : List UInt8).isPrefixOf (b :: l) = false := by simp [List.isPrefixOf, Ne.symm h]
      have hix : Lib.index (b :: l) [c] = if Lib.index l [c] == -1 then -1 else Lib.index l [c] + 1 := by rw [Lib.index, hp]; simp
      rw [Lib.count_cons_ne b c l h, splitL, if_neg h, ← ih]
      by_cases hm : Lib.index l [c] = -1
      · rw [Lib.count_miss hm]
        rfl
      · obtain ⟨i, hi⟩ : ∃ i : Nat, Lib.index l [c] = i := ⟨(Lib.index l [c]).toNat, by have := Lib.index_ge l [c]; omega⟩
        rw [Lib.count_hit (by simp) hi, Nat.add_comm, Lib.splitK, Lib.splitK, hix, hi]
        have e1 : ¬ (((i : Int)) == -1) = true := by simp
        rw [if_neg e1, if_neg (by simp; omega), if_neg e1]
        have e2 : ((i : Int) + 1).toNat = i + 1 := by omega
        have e3 : ((i : Int)).toNat = i := by omega
        rw [e2, e3]
        have e4 : i + 1 + ([c] : List UInt8).length = (i + ([c] : List UInt8).length) + 1 := by simp
        rw [e4]
        rfl
theorem split_shelf (c : UInt8) (l : List UInt8) : Lib.splitB ⟨#[c]⟩ 0 (Lib.countB (bs l) ⟨#[c]⟩) (bs l) = (splitL c l).map fun t => bs t := by
  have h1 := Lib.splitB_data ⟨#[c]⟩ 0 (Lib.countB (bs l) ⟨#[c]⟩) (bs l)
  have h2 : Lib.countB (bs l) ⟨#[c]⟩ = Lib.count l [c] := rfl
  rw [h2] at h1 ⊢
  have h3 : (⟨#[c]⟩ : ByteArray).data.toList = [c] := rfl
  have h4 : (bs l).data.toList = l := rfl
  rw [h3, h4, splitK_L] at h1
  rw [← h1, List.map_map]
  have : ∀ s : ByteArray, ((fun t => bs t) ∘ fun x => x.data.toList) s = s := fun s => rfl
  exact (List.map_id _).symm
theorem count_shelf (c : UInt8) (l : List UInt8) : Lib.countB (bs l) ⟨#[c]⟩ + 1 = (splitL c l).length := by
  have h := congrArg List.length (split_shelf c l)
  rw [List.length_map] at h
  rw [← h]
  exact (Lib.splitB_all ⟨#[c]⟩ (Nat.le_refl 1) 0 _ _ rfl).symm
theorem splitL_len (c : UInt8) : ∀ l : List UInt8, (splitL c l).length ≤ l.length + 1
  | [] => by simp [splitL]
  | b :: l => by
    have ih := splitL_len c l
    unfold splitL
    split
    · simp; omega
    · obtain ⟨h, t, hs⟩ := splitL_cons c l
      rw [hs] at ih ⊢
      simp at ih ⊢
      omega
theorem splitL_piece (c : UInt8) : ∀ (l : List UInt8), ∀ t ∈ splitL c l, t.length ≤ l.length
  | [], t, h => by
    simp [splitL] at h
    subst h
    simp
  | b :: l, t, h => by
    have ih := splitL_piece c l
    unfold splitL at h
    split at h
    · rcases List.mem_cons.1 h with rfl | h
      · simp
      · have := ih t h
        simp
        omega
    · obtain ⟨h0, t0, hs⟩ := splitL_cons c l
      rw [hs] at h ih
      simp only at h
      rcases List.mem_cons.1 h with rfl | h
      · have := ih h0 (List.mem_cons_self ..)
        simp
        omega
      · have := ih t (List.mem_cons_of_mem _ h)
        simp
        omega
end Go.Proofs.YtmplokdbbhlomaaGreatDoor
