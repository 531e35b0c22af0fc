/-
  What the methods of oblig.Sheet come to that change nothing, over this seat's translation: contracts for callers.
-/
import Derived.Test.YtkjkkcaiddeggaaObLib
import Derived.Test.YtkjkkcaiddeggaaMoneySub
namespace Go.Proofs.Ytkjkkcaiddeggaa
open Go.RowKit

/-- A sheet lies at a block. -/
structure ShAt (w : World) (bs base : Nat) (v : Value) (L : List Ob) : Prop where
  s : w.heap[bs]? = some (.cells #[v] 54 (0, 0))
  own : w.ownsRow base 37 6 v L.length (obRows L)

section
variable {w w' : World} {bs base : Nat} {v : Value} {L : List Ob}
theorem ShAt.lt (h : ShAt w bs base v L) : bs < w.heap.size := (Array.getElem?_eq_some_iff.1 h.s).1
theorem ShAt.c0 (h : ShAt w bs base v L) : w.cell? ⟨bs, 0, none⟩ = some v := cell_of_row _ _ _ _ _ (0, 0) h.s
theorem ShAt.f0 (h : ShAt w bs base v L) : w.frozen? ⟨bs, 0, none⟩ = false := by simp [World.frozen?, h.s]
theorem ShAt.below (h : ShAt w bs base v L) (hb : Below w.heap.size w w') : ShAt w' bs base v L := by
  refine ⟨(hb.block _ h.lt).trans h.s, ?_⟩
  have hg : w.grownBy w' none := ⟨hb.os, hb.tape, hb.output, hb.size, fun i hi _ => hb.block i hi⟩
  exact h.own.kept hg (by cases v.ownBlock <;> simp)
theorem ShAt.ne (h : ShAt w bs base v L) : v.ownBlock ≠ some bs := by
  rcases h.own.2 with ⟨rfl, _⟩ | ⟨g, cap, cur, rfl, _, hh, _⟩
  · simp [Value.ownBlock]
  · intro e
    have e' : g = bs := by simpa [Value.ownBlock] using e
    subst e'
    rw [h.s] at hh
    injection hh with hh
    injection hh with _ ht
    exact absurd ht (by decide)
end

set_option maxHeartbeats 400000 in
theorem all_any (L : List Ob) (v : Value) (bs base : Nat) (w : World) (h : ShAt w bs base v L) (hl : L.length ≤ 1000000) :
    Calls Try.prog 9 #[.pointer (some ⟨bs, 0, none⟩)] w (GotObs w L) := by
  have c0 := h.c0
  have HO := Lib.hid h.own
  clear h
  go_enter Try.func9, Try.ntmps9
  go_wp2_with (go_at_call 24; refine (clone_any L v base _ HO.out hl).mono ?_; rintro e w1 ⟨v1, rfl, ho1, hb1⟩; have HO1 := Lib.hid ho1; have HB1 := Lib.hid hb1; clear ho1 hb1)
  go_ret
  exact ⟨v1, rfl, HO1.out, HB1.out⟩

/-- How many have a status. -/
def countI (s : Int) (L : List Ob) : Int := (L.filter fun x => x.st == s).length
theorem count_snoc (s : Int) {L : List Ob} {k : Nat} (hk : k < L.length) : countI s (L.take (k + 1)) = countI s (L.take k) + (if L[k].st == s then 1 else 0) := by
  unfold countI
  rw [List.take_succ_eq_append_getElem hk, List.filter_append, List.length_append]
  by_cases h : (L[k].st == s) = true <;> simp [h]
theorem count_bd (s : Int) (L : List Ob) (k : Nat) : 0 ≤ countI s (L.take k) ∧ countI s (L.take k) ≤ k := by
  unfold countI
  have h1 := List.length_filter_le (fun x : Ob => x.st == s) (L.take k)
  have h2 := List.length_take_le k L
  omega
theorem count_open (L : List Ob) : (decide (0 < countI 1 L)) = L.any isOpen := by
  rw [Bool.eq_iff_iff]
  unfold countI
  rw [decide_eq_true_eq, List.any_eq_true]
  constructor
  · intro h
    have hp : 0 < (L.filter fun x => x.st == 1).length := by omega
    obtain ⟨x, hx⟩ := List.exists_mem_of_length_pos hp
    exact ⟨x, (List.mem_filter.1 hx).1, (List.mem_filter.1 hx).2⟩
  · rintro ⟨x, hx, hp⟩
    have : 0 < (L.filter fun x => x.st == 1).length := List.length_pos_of_mem (List.mem_filter.2 ⟨hx, hp⟩)
    omega

set_option maxHeartbeats 400000 in
theorem count_any (L : List Ob) (s : Int) (v : Value) (bs base : Nat) (w : World) (h : ShAt w bs base v L) (hl : L.length ≤ 1000000) :
    Calls Try.prog 23 #[.pointer (some ⟨bs, 0, none⟩), .int .i64 s] w fun e w' => e = .returned (.int .i64 (countI s L)) ∧ Below w.heap.size w w' := by
  have HH := Lib.hid h
  clear h
  go_enter Try.func23, Try.ntmps23
  go_wp2_with fail
  refine (all_any L v bs base _ HH.out hl).mono ?_
  rintro e w1 ⟨v1, rfl, ho1, hb1⟩
  obtain ⟨A1, c1, rfl⟩ := own_form ho1
  have HS := Lib.hid (Seg.of_own ho1)
  have HB1 := Lib.hid hb1
  clear ho1 hb1
  go_wp2_with fail
  go_loopw [5, 11] (fun n i wr => ∃ k : Nat, k ≤ L.length ∧ i = .int .i64 k ∧ n = .int .i64 (countI s (L.take k)) ∧ Hid (Below w1.heap.size w1 wr)) (fun _ i _ => L.length - (intOf i).toNat)
  case atStart => exact ⟨0, Nat.zero_le _, rfl, rfl, Below.refl _ _⟩
  case round =>
    obtain ⟨k, hk, rfl, rfl, HB⟩ := hrel
    have hsz := HB.out.size
    obtain ⟨n0, n1⟩ := count_bd s L k
    by_cases hlt : k < L.length
    · obtain ⟨b, o, rfl, hb, d0, d1, d2, d3, d4, d5⟩ := ob_at (HS.out.below HB.out) hlt
      have HC := Lib.hid (count_snoc s hlt)
      cases hp : (L[k].st == s)
      · go_wp2_with fail
        go_roundw
        case rel => exact ⟨k + 1, by omega, by go_num, by rw [HC.out, hp]; go_num, HB.out.alloc hsz _⟩
        case measure => simp [intOf]; omega
      · go_wp2_with fail
        go_roundw
        case rel => exact ⟨k + 1, by omega, by go_num, by rw [HC.out, hp]; go_num, HB.out.alloc hsz _⟩
        case measure => simp [intOf]; omega
    · obtain rfl : k = L.length := by omega
      rw [List.take_length]
      go_wp2_with fail
      go_ret
      exact ⟨rfl, HB1.out.trans (HB.out.mono HB1.out.size)⟩

set_option maxHeartbeats 400000 in
theorem find1_any (x : Ob) (m a : Int) (bm ba : Nat) (w : World) (hm : w.cell? ⟨bm, 0, none⟩ = some (.int .i64 m)) (ha : w.cell? ⟨ba, 0, none⟩ = some (.int .i64 a)) (h1 : bm < w.heap.size) (h2 : ba < w.heap.size) :
    Calls Try.prog 47 #[x.val, .pointer (some ⟨bm, 0, none⟩), .pointer (some ⟨ba, 0, none⟩)] w fun e w' => e = .returned (.bool (mineB m a x)) ∧ Below w.heap.size w w' := by
  obtain ⟨c, xm, xa, net, done, st⟩ := x
  unfold Ob.val
  go_enter Try.func47, Try.ntmps47
  go_wp2
  all_goals
    go_ret
    refine ⟨ret_bool ?_, (Below.refl _ _).alloc (Nat.le_refl _) _⟩
    rw [Bool.eq_iff_iff]
    simp_all [mineB]

set_option maxHeartbeats 400000 in
theorem find_any (L : List Ob) (m a : Int) (v : Value) (bs base : Nat) (w : World) (h : ShAt w bs base v L) (hl : L.length ≤ 1000000) :
    Calls Try.prog 29 #[.pointer (some ⟨bs, 0, none⟩), .int .i64 m, .int .i64 a] w fun e w' => e = .returned (.int .i64 (idxI (mineB m a) L)) ∧ Below w.heap.size w w' := by
  have hlt := h.lt
  have hb2 : Below w.heap.size w ((w.alloc (.cells #[.int .i64 m] 3)).alloc (.cells #[.int .i64 a] 3)) := ((Below.refl _ _).alloc (Nat.le_refl _) _).alloc (by simp) _
  have h' := h.below hb2
  have c0 := h.c0
  obtain ⟨A, c, rfl⟩ := own_form h'.own
  have HS := Lib.hid (Seg.of_own h'.own)
  have hp : ∀ (x : Ob) (W : World), Below ((w.alloc (.cells #[.int .i64 m] 3)).alloc (.cells #[.int .i64 a] 3)).heap.size ((w.alloc (.cells #[.int .i64 m] 3)).alloc (.cells #[.int .i64 a] 3)) W →
      Calls Try.prog 47 #[x.val, .pointer (some ⟨w.heap.size, 0, none⟩), .pointer (some ⟨w.heap.size + 1, 0, none⟩)] W fun e w' => e = .returned (.bool (mineB m a x)) ∧ Below W.heap.size W w' := by
    intro x W hb
    have hz := hb.size
    simp at hz
    refine find1_any x m a _ _ W ?_ ?_ (by omega) (by omega)
    · rw [hb.cell (p := ⟨w.heap.size, 0, none⟩) (by simp; omega), cell_old _ _ _ (by simp), cell_new _ _ _ _ rfl]; rfl
    · rw [hb.cell (p := ⟨w.heap.size + 1, 0, none⟩) (by simp), cell_new _ _ _ _ (by simp)]; rfl
  have HP := Lib.hid hp
  have HB2 := Lib.hid hb2
  clear h h' hb2 hp
  go_enter Try.func29, Try.ntmps29
  go_wp2_with (go_at_call 43; refine (index_find L A c _ _ (mineB m a) _ HS.out hl HP.out).mono ?_; rintro e w1 ⟨rfl, hb1⟩; have HB1 := Lib.hid hb1; clear hb1)
  go_ret
  exact ⟨rfl, HB2.out.trans (HB1.out.mono (by simp; omega))⟩
end Go.Proofs.Ytkjkkcaiddeggaa
