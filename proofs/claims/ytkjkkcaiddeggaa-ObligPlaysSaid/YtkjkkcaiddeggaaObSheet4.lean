/-
  What the method Open of oblig.Sheet comes to, over this seat's translation: a contract for callers.
-/
import Derived.Test.YtkjkkcaiddeggaaObSheet3
import Derived.Deep.RegionHeld3
import Derived.Deep.RegionLaw
namespace Go.Proofs.Ytkjkkcaiddeggaa
open Go.RowKit

set_option maxHeartbeats 400000 in
theorem cyc1_any (x : Ob) (cy : Int) (bc : Nat) (w : World) (hc : w.cell? ⟨bc, 0, none⟩ = some (.int .i64 cy)) (h1 : bc < w.heap.size) :
    Calls Try.prog 26 #[x.val, .pointer (some ⟨bc, 0, none⟩)] w fun e w' => e = .returned (.bool (decide (cy ≤ x.c))) ∧ Below w.heap.size w w' := by
  obtain ⟨c, xm, xa, net, done, st⟩ := x
  unfold Ob.val
  go_enter Try.func26, Try.ntmps26
  go_wp2
  go_ret
  exact ⟨rfl, (Below.refl _ _).alloc (Nat.le_refl _) _⟩

theorem idx_any {α : Type} (p : α → Bool) (l : List α) : decide (0 ≤ idxI p l) = l.any p := by
  rw [Bool.eq_iff_iff, decide_eq_true_eq, List.any_eq_true]
  unfold idxI
  constructor
  · intro h
    split at h
    · rename_i hl
      exact ⟨_, List.getElem_mem hl, List.findIdx_getElem (w := hl)⟩
    · omega
  · rintro ⟨x, hx, hp⟩
    rw [if_pos (List.findIdx_lt_length_of_exists ⟨x, hx, hp⟩)]
    omega

set_option maxHeartbeats 400000 in
theorem has_cyc (L : List Ob) (A : Option Addr) (c : Nat) (c1 : Value) (p : Ob → Bool) (w : World) (hs : Seg w w.heap.size A (obRows L)) (hl : L.length ≤ 1000000)
    (hp : ∀ (x : Ob) (W : World), Below w.heap.size w W → Calls Try.prog 26 #[x.val, c1] W fun e w' => e = .returned (.bool (p x)) ∧ Below W.heap.size W w') :
    Calls Try.prog 25 #[.slice A L.length c, .func (.func 26) #[] #[c1]] w fun e w' => e = .returned (.bool (L.any p)) ∧ Below w.heap.size w w' := by
  have HI := Lib.hid (index_cyc L A c c1 p w hs hl hp)
  have HA := Lib.hid (idx_any p L)
  clear hs hp
  go_enter Try.func25, Try.ntmps25
  go_wp2_with (go_at_call 43; refine HI.out.mono ?_; rintro e w1 ⟨rfl, hb1⟩; have HB1 := Lib.hid hb1; clear hb1)
  go_ret
  exact ⟨ret_bool HA.out, HB1.out⟩

set_option maxHeartbeats 400000 in
theorem has_like (L : List Lg) (A : Option Addr) (c : Nat) (c1 : Value) (p : Lg → Bool) (w : World) (hs : Seg w w.heap.size A (lgRows L)) (hl : L.length ≤ 1000000)
    (hp : ∀ (x : Lg) (W : World), Below w.heap.size w W → Calls Try.prog 46 #[x.val, c1] W fun e w' => e = .returned (.bool (p x)) ∧ Below W.heap.size W w') :
    Calls Try.prog 45 #[.slice A L.length c, .func (.func 46) #[] #[c1]] w fun e w' => e = .returned (.bool (L.any p)) ∧ Below w.heap.size w w' := by
  have HI := Lib.hid (index_like L A c c1 p w hs hl hp)
  have HA := Lib.hid (idx_any p L)
  clear hs hp
  go_enter Try.func45, Try.ntmps45
  go_wp2_with (go_at_call 51; refine HI.out.mono ?_; rintro e w1 ⟨rfl, hb1⟩; have HB1 := Lib.hid hb1; clear hb1)
  go_ret
  exact ⟨ret_bool HA.out, HB1.out⟩

set_option maxHeartbeats 400000 in
theorem like1_any (x y : Lg) (by_ : Nat) (w : World) (h0 : w.cell? ⟨by_, 0, none⟩ = some (.int .i64 y.m)) (h1 : w.cell? ⟨by_, 1, none⟩ = some (.int .i64 y.a)) (hb : by_ < w.heap.size) :
    Calls Try.prog 46 #[x.val, .pointer (some ⟨by_, 0, none⟩)] w fun e w' => e = .returned (.bool (likeB y x)) ∧ Below w.heap.size w w' := by
  obtain ⟨xm, xa, xn⟩ := x
  unfold Lg.val
  go_enter Try.func46, Try.ntmps46
  go_wp2
  all_goals
    go_ret
    refine ⟨ret_bool ?_, (Below.refl _ _).alloc (Nat.le_refl _) _⟩
    rw [Bool.eq_iff_iff]
    simp_all [likeB]

theorem amtE_neg (n : Int) (h : I64 n) : (amtE (-n) != 0) = (n == minI) := by
  rw [Bool.eq_iff_iff]
  unfold amtE minI
  unfold I64 at h
  by_cases hI : I64 (-n)
  · rw [if_pos hI]
    unfold I64 at hI
    simp
    omega
  · rw [if_neg hI]
    unfold I64 at hI
    simp
    omega

theorem Seg.left {w : World} {B : Nat} {A : Option Addr} {xs ys : List Value} (h : Seg w B A (xs ++ ys)) : Seg w B A xs := fun j u hu =>
  h j u (by rw [List.getElem?_append_left (List.getElem?_eq_some_iff.1 hu).1]; exact hu)
theorem lg_take (nets : List Lg) (i : Nat) : lgRows nets = lgRows (nets.take i) ++ lgRows (nets.drop i) := by
  unfold lgRows
  rw [← List.flatMap_append, List.take_append_drop]

set_option maxRecDepth 100000 in
set_option maxHeartbeats 800000 in
theorem twice_any (nets : List Lg) (A : Option Addr) (c i : Nat) (w : World) (hs : Seg w w.heap.size A (lgRows nets)) (hi : i < nets.length) (hl : nets.length ≤ 1000000) (hc : nets.length ≤ c) (hI : I64 nets[i].n) :
    Calls Try.prog 27 #[.slice A nets.length c, .int .i64 i] w fun e w' => e = .returned (.bool (twiceB nets i hi)) ∧ Below w.heap.size w w' := by
  have HS := Lib.hid hs
  have HI := Lib.hid hI
  have HE := Lib.hid (amtE_neg _ hI)
  obtain ⟨b, o, rfl, hb, d0, d1, d2⟩ := lg_at hs hi
  clear hs hI
  have hl2 : (nets.take i).length = i := List.length_take_of_le (by omega)
  have hcall : Calls Try.prog 45 #[.slice (some ⟨b, o, none⟩) i c, .func (.func 46) #[] #[.pointer (some ⟨w.heap.size, 0, none⟩)]] (w.alloc (.cells #[.int .i64 nets[i].m, .int .i64 nets[i].a, .int .i64 nets[i].n] 52)) fun e w' => e = .returned (.bool ((nets.take i).any (likeB nets[i]))) ∧ Below (w.heap.size + 1) (w.alloc (.cells #[.int .i64 nets[i].m, .int .i64 nets[i].a, .int .i64 nets[i].n] 52)) w' := by
    have hseg : Seg (w.alloc (.cells #[.int .i64 nets[i].m, .int .i64 nets[i].a, .int .i64 nets[i].n] 52)) (w.alloc (.cells #[.int .i64 nets[i].m, .int .i64 nets[i].a, .int .i64 nets[i].n] 52)).heap.size (some ⟨b, o, none⟩) (lgRows (nets.take i)) := by
      have h1 := HS.out
      rw [lg_take nets i] at h1
      exact (h1.left.below ((Below.refl _ _).alloc (Nat.le_refl _) _)).mono (by simp)
    have h := has_like (nets.take i) (some ⟨b, o, none⟩) c (.pointer (some ⟨w.heap.size, 0, none⟩)) (likeB nets[i]) (w.alloc (.cells #[.int .i64 nets[i].m, .int .i64 nets[i].a, .int .i64 nets[i].n] 52)) hseg (by omega) (fun x W hbW => by
      have hz := hbW.size
      simp at hz
      have hcell := fun j => (hbW.cell (p := ⟨w.heap.size, j, none⟩) (by simp)).trans (cell_new _ _ _ j rfl)
      exact like1_any x nets[i] _ W (hcell 0) (hcell 1) (by omega))
    rw [hl2] at h
    exact h.mono fun e w' ⟨h1, h2⟩ => ⟨h1, h2.mono (by simp)⟩
  have HC := Lib.hid hcall
  have hW0 : Below w.heap.size w (w.alloc (.cells #[.int .i64 nets[i].m, .int .i64 nets[i].a, .int .i64 nets[i].n] 52)) := (Below.refl _ _).alloc (Nat.le_refl _) _
  have HW0 := Lib.hid hW0
  clear hcall hl2 hW0
  go_enter Try.func27, Try.ntmps27
  go_wp2_with fail
  refine (neg_any nets[i].n _ HI.out).mono ?_
  rintro e w1 ⟨rfl, rfl⟩
  cases hz : (nets[i].n == 0)
  · cases hm : (nets[i].n == minI)
    · have hE : (amtE (-nets[i].n) != 0) = false := HE.out.trans hm
      have hT : (nets.take i).any (likeB nets[i]) = twiceB nets i hi := by unfold twiceB zeroB; rw [hz, hm]; rfl
      have HT := Lib.hid hT
      clear hT
      go_wp2_with (go_at_call 45; refine HC.out.mono ?_; rintro e w2 ⟨rfl, hb2⟩; have HB2 := Lib.hid hb2; clear hb2)
      go_ret
      exact ⟨ret_bool HT.out, HW0.out.trans (HB2.out.mono (by omega))⟩
    · have hE : (amtE (-nets[i].n) != 0) = true := HE.out.trans hm
      have hT : true = twiceB nets i hi := by unfold twiceB zeroB; rw [hz, hm]; rfl
      have HT := Lib.hid hT
      clear hT
      go_wp2_with fail
      go_ret
      exact ⟨ret_bool HT.out, HW0.out⟩
  · have hT : true = twiceB nets i hi := by unfold twiceB zeroB; rw [hz]; rfl
    have HT := Lib.hid hT
    clear hT
    go_wp2_with fail
    go_ret
    exact ⟨ret_bool HT.out, HW0.out⟩
end Go.Proofs.Ytkjkkcaiddeggaa
