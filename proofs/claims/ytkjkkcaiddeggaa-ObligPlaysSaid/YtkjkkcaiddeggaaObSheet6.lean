/-
  What the methods Debts, Claims, Copy of oblig.Sheet come to; and what all methods come to where there is no sheet, over this seat's translation: contracts for callers.
-/
import Derived.Test.YtkjkkcaiddeggaaObRef3
namespace Go.Proofs.Ytkjkkcaiddeggaa
open Go.RowKit

set_option maxHeartbeats 400000 in
theorem debts1_any (x : Ob) (w : World) :
    Calls Try.prog 39 #[x.val] w fun e w' => e = .returned (.bool (decide (0 < x.net))) ∧ Below w.heap.size w w' := by
  obtain ⟨c, m, a, net, done, st⟩ := x
  unfold Ob.val
  go_enter Try.func39, Try.ntmps39
  go_wp2
  go_ret
  exact ⟨rfl, (Below.refl _ _).alloc (Nat.le_refl _) _⟩
set_option maxHeartbeats 400000 in
theorem claims1_any (x : Ob) (w : World) :
    Calls Try.prog 40 #[x.val] w fun e w' => e = .returned (.bool (decide (x.net < 0))) ∧ Below w.heap.size w w' := by
  obtain ⟨c, m, a, net, done, st⟩ := x
  unfold Ob.val
  go_enter Try.func40, Try.ntmps40
  go_wp2
  go_ret
  exact ⟨rfl, (Below.refl _ _).alloc (Nat.le_refl _) _⟩

theorem own_mono {w : World} {base base' : Nat} {e : TypeId} {size n : Nat} {v : Value} {xs : List Value} (h : w.ownsRow base e size v n xs) (hb : base' ≤ base) : w.ownsRow base' e size v n xs := by
  rcases h.2 with ⟨rfl, rfl⟩ | ⟨g, cap, cur, rfl, hg, hh, hnc, hcm, hcs, htk⟩
  · exact ⟨h.1, Or.inl ⟨rfl, rfl⟩⟩
  · exact ⟨h.1, Or.inr ⟨g, cap, cur, rfl, Nat.le_trans hb hg, hh, hnc, hcm, hcs, htk⟩⟩

set_option maxRecDepth 100000 in
set_option maxHeartbeats 800000 in
theorem opensd_any (L : List Ob) (p : Ob → Bool) (v : Value) (bs base : Nat) (w : World) (h : ShAt w bs base v L) (hl : L.length ≤ 1000000)
    (hp : ∀ (x : Ob) (W : World), Calls Try.prog 39 #[x.val] W fun e w' => e = .returned (.bool (p x)) ∧ Below W.heap.size W w') :
    Calls Try.prog 38 #[.pointer (some ⟨bs, 0, none⟩), .func (.func 39) #[] #[]] w (GotObs w (L.filter fun x => x.st == 1 && p x)) := by
  have HH := Lib.hid h
  have HP := Lib.hid hp
  obtain ⟨i0, hi0, hz0, hz1', hz2⟩ := info_parts ob_info
  clear h hp
  go_enter Try.func38, Try.ntmps38
  go_wp2_with fail
  refine (all_any L v bs base _ HH.out hl).mono ?_
  rintro e w1 ⟨v1, rfl, ho1, hb1⟩
  obtain ⟨A1, c1, rfl⟩ := own_form ho1
  have HS := Lib.hid (Seg.of_own ho1)
  have HB1 := Lib.hid hb1
  have hz1 := hb1.size
  clear ho1 hb1
  go_wp2_with fail
  go_loopw [5, 7, 11] (fun u _ i wr => ∃ k : Nat, k ≤ L.length ∧ i = .int .i64 k ∧ Hid (wr.ownsRow w1.heap.size 37 6 u ((L.take k).filter fun x => x.st == 1 && p x).length (obRows ((L.take k).filter fun x => x.st == 1 && p x))) ∧ Hid (Below w1.heap.size w1 wr)) (fun _ _ i _ => L.length - (intOf i).toNat)
  case atStart => exact ⟨0, Nat.zero_le _, rfl, ⟨by simp [obRows], Or.inl ⟨rfl, rfl⟩⟩, Below.refl _ _⟩
  case round =>
    obtain ⟨k, hk, rfl, HO, HB⟩ := hrel
    have hsz := HB.out.size
    have hfl := filter_len (fun x : Ob => x.st == 1 && p x) L k
    by_cases hlt : k < L.length
    · obtain ⟨b, o, rfl, hb, d0, d1, d2, d3, d4, d5⟩ := ob_at (HS.out.below HB.out) hlt
      have HF := Lib.hid (filter_snoc (fun x : Ob => x.st == 1 && p x) hlt)
      cases h1 : (L[k].st == 1)
      · have hF : (L.take (k + 1)).filter (fun x => x.st == 1 && p x) = (L.take k).filter (fun x => x.st == 1 && p x) := by rw [HF.out, h1]; simp
        have hO2 := HO.out
        rw [← hF] at hO2
        have HO1 := Lib.hid hO2
        clear hO2 hF
        go_wp2_with fail
        go_roundw
        case rel => exact ⟨k + 1, by omega, by go_num, HO1.out.alloc _, HB.out.alloc hsz _⟩
        case measure => simp [intOf]; omega
      · cases h2 : p L[k]
        · have hF : (L.take (k + 1)).filter (fun x => x.st == 1 && p x) = (L.take k).filter (fun x => x.st == 1 && p x) := by rw [HF.out, h1, h2]; simp
          have hO2 := HO.out
          rw [← hF] at hO2
          have HO1 := Lib.hid hO2
          clear hO2 hF
          have HPK : Hid (∀ W : World, Calls Try.prog 39 #[L[k].val] W fun e w' => e = .returned (.bool false) ∧ Below W.heap.size W w') := fun W => by have := HP.out L[k] W; rw [h2] at this; exact this
          clear h2
          go_wp2_with fail
          refine (HPK.out _).mono ?_
          rintro e w3 ⟨rfl, hb3⟩
          have HB3 : Hid (Below w1.heap.size w1 w3) := (HB.out.alloc hsz _).trans (hb3.mono (by simp; omega))
          have hg3 : wr.grownBy w3 none := ⟨hb3.os, hb3.tape, hb3.output, by have := hb3.size; simp at this; omega, fun i hi _ => (hb3.block i (by simp; omega)).trans (heap_alloc_old' _ _ hi)⟩
          have HO3 := Lib.hid (HO1.out.kept hg3 (by cases (Value.ownBlock _) <;> simp))
          clear hb3 hg3
          go_wp2_with fail
          go_roundw
          case rel => exact ⟨k + 1, by omega, by go_num, HO3, HB3⟩
          case measure => simp [intOf]; omega
        · have hF : (L.take (k + 1)).filter (fun x => x.st == 1 && p x) = (L.take k).filter (fun x => x.st == 1 && p x) ++ [L[k]] := by rw [HF.out, h1, h2]; simp
          have HF1 := Lib.hid hF
          clear hF
          have HPK : Hid (∀ W : World, Calls Try.prog 39 #[L[k].val] W fun e w' => e = .returned (.bool true) ∧ Below W.heap.size W w') := fun W => by have := HP.out L[k] W; rw [h2] at this; exact this
          clear h2
          generalize (L.take k).filter (fun x => x.st == 1 && p x) = ys at *
          go_wp2_with fail
          refine (HPK.out _).mono ?_
          rintro e w3 ⟨rfl, hb3⟩
          have HB3 : Hid (Below w1.heap.size w1 w3) := (HB.out.alloc hsz _).trans (hb3.mono (by simp; omega))
          have hz3 := hb3.size
          simp at hz3
          have hg3 : wr.grownBy w3 none := ⟨hb3.os, hb3.tape, hb3.output, by omega, fun i hi _ => (hb3.block i (by simp; omega)).trans (heap_alloc_old' _ _ hi)⟩
          have HO3 := Lib.hid (HO.out.kept hg3 (by cases (Value.ownBlock _) <;> simp))
          have hc := fun j => (hb3.cell (p := ⟨wr.heap.size, j, none⟩) (by simp)).trans (cell_new _ _ _ j rfl)
          have e0 := hc 0
          have e1 := hc 1
          have e2 := hc 2
          have e3 := hc 3
          have e4 := hc 4
          have e5 := hc 5
          simp at e0 e1 e2 e3 e4 e5
          clear hb3 hg3 hc
          go_wp2_with (at_builtin; refine wpList_append_own _ rfl _ _ 27 rfl w1.heap.size 37 i0 _ 6 48 Try.underlying27 hi0 hz0 hz1' hz2 rfl (by decide) _ ys.length (obRows ys) rfl (HO3.out.alloc _) ⟨w3.heap.size, 0, none⟩ 1 1 L[k].cells rfl rfl ?c1 ?c2 ?c3 ?c4 ?c5 ?_)
          case c1 => exact new_cells _ _ #[_, _, _, _, _, _] rfl
          case c2 => intro u hu; simp [Ob.cells] at hu; rcases hu with rfl | rfl | rfl | rfl | rfl | rfl <;> rfl
          case c3 => simp only [maxLen]; omega
          case c4 => omega
          case c5 => simp; omega
          intro v' w4 hown1 hgrow1 _
          have HO4 : Hid (w4.ownsRow w1.heap.size 37 6 v' ((L.take (k + 1)).filter fun x => x.st == 1 && p x).length (obRows ((L.take (k + 1)).filter fun x => x.st == 1 && p x))) := by
            show World.ownsRow _ _ _ _ _ _ _
            rw [HF1.out, obRows_snoc, List.length_append, List.length_singleton]
            exact hown1
          have HG4 : Hid (Below w1.heap.size w1 w4) := (HB3.out.alloc (by omega) _).grown hgrow1 (by simp; omega) (fun j hj => own_base HO3.out j hj)
          clear hown1 hgrow1
          go_wp2_with fail
          go_roundw
          case rel => exact ⟨k + 1, by omega, by go_num, HO4, HG4⟩
          case measure => simp [intOf]; omega
    · obtain rfl : k = L.length := by omega
      have hO := HO.out
      rw [List.take_length] at hO
      have HO2 := Lib.hid hO
      clear hO
      go_wp2_with fail
      go_ret
      refine ⟨_, rfl, ?_, HB1.out.trans (HB.out.mono hz1)⟩
      exact own_mono HO2.out hz1

set_option maxRecDepth 100000 in
set_option maxHeartbeats 800000 in
theorem opensc_any (L : List Ob) (p : Ob → Bool) (v : Value) (bs base : Nat) (w : World) (h : ShAt w bs base v L) (hl : L.length ≤ 1000000)
    (hp : ∀ (x : Ob) (W : World), Calls Try.prog 40 #[x.val] W fun e w' => e = .returned (.bool (p x)) ∧ Below W.heap.size W w') :
    Calls Try.prog 38 #[.pointer (some ⟨bs, 0, none⟩), .func (.func 40) #[] #[]] w (GotObs w (L.filter fun x => x.st == 1 && p x)) := by
  have HH := Lib.hid h
  have HP := Lib.hid hp
  obtain ⟨i0, hi0, hz0, hz1', hz2⟩ := info_parts ob_info
  clear h hp
  go_enter Try.func38, Try.ntmps38
  go_wp2_with fail
  refine (all_any L v bs base _ HH.out hl).mono ?_
  rintro e w1 ⟨v1, rfl, ho1, hb1⟩
  obtain ⟨A1, c1, rfl⟩ := own_form ho1
  have HS := Lib.hid (Seg.of_own ho1)
  have HB1 := Lib.hid hb1
  have hz1 := hb1.size
  clear ho1 hb1
  go_wp2_with fail
  go_loopw [5, 7, 11] (fun u _ i wr => ∃ k : Nat, k ≤ L.length ∧ i = .int .i64 k ∧ Hid (wr.ownsRow w1.heap.size 37 6 u ((L.take k).filter fun x => x.st == 1 && p x).length (obRows ((L.take k).filter fun x => x.st == 1 && p x))) ∧ Hid (Below w1.heap.size w1 wr)) (fun _ _ i _ => L.length - (intOf i).toNat)
  case atStart => exact ⟨0, Nat.zero_le _, rfl, ⟨by simp [obRows], Or.inl ⟨rfl, rfl⟩⟩, Below.refl _ _⟩
  case round =>
    obtain ⟨k, hk, rfl, HO, HB⟩ := hrel
    have hsz := HB.out.size
    have hfl := filter_len (fun x : Ob => x.st == 1 && p x) L k
    by_cases hlt : k < L.length
    · obtain ⟨b, o, rfl, hb, d0, d1, d2, d3, d4, d5⟩ := ob_at (HS.out.below HB.out) hlt
      have HF := Lib.hid (filter_snoc (fun x : Ob => x.st == 1 && p x) hlt)
      cases h1 : (L[k].st == 1)
      · have hF : (L.take (k + 1)).filter (fun x => x.st == 1 && p x) = (L.take k).filter (fun x => x.st == 1 && p x) := by rw [HF.out, h1]; simp
        have hO2 := HO.out
        rw [← hF] at hO2
        have HO1 := Lib.hid hO2
        clear hO2 hF
        go_wp2_with fail
        go_roundw
        case rel => exact ⟨k + 1, by omega, by go_num, HO1.out.alloc _, HB.out.alloc hsz _⟩
        case measure => simp [intOf]; omega
      · cases h2 : p L[k]
        · have hF : (L.take (k + 1)).filter (fun x => x.st == 1 && p x) = (L.take k).filter (fun x => x.st == 1 && p x) := by rw [HF.out, h1, h2]; simp
          have hO2 := HO.out
          rw [← hF] at hO2
          have HO1 := Lib.hid hO2
          clear hO2 hF
          have HPK : Hid (∀ W : World, Calls Try.prog 40 #[L[k].val] W fun e w' => e = .returned (.bool false) ∧ Below W.heap.size W w') := fun W => by have := HP.out L[k] W; rw [h2] at this; exact this
          clear h2
          go_wp2_with fail
          refine (HPK.out _).mono ?_
          rintro e w3 ⟨rfl, hb3⟩
          have HB3 : Hid (Below w1.heap.size w1 w3) := (HB.out.alloc hsz _).trans (hb3.mono (by simp; omega))
          have hg3 : wr.grownBy w3 none := ⟨hb3.os, hb3.tape, hb3.output, by have := hb3.size; simp at this; omega, fun i hi _ => (hb3.block i (by simp; omega)).trans (heap_alloc_old' _ _ hi)⟩
          have HO3 := Lib.hid (HO1.out.kept hg3 (by cases (Value.ownBlock _) <;> simp))
          clear hb3 hg3
          go_wp2_with fail
          go_roundw
          case rel => exact ⟨k + 1, by omega, by go_num, HO3, HB3⟩
          case measure => simp [intOf]; omega
        · have hF : (L.take (k + 1)).filter (fun x => x.st == 1 && p x) = (L.take k).filter (fun x => x.st == 1 && p x) ++ [L[k]] := by rw [HF.out, h1, h2]; simp
          have HF1 := Lib.hid hF
          clear hF
          have HPK : Hid (∀ W : World, Calls Try.prog 40 #[L[k].val] W fun e w' => e = .returned (.bool true) ∧ Below W.heap.size W w') := fun W => by have := HP.out L[k] W; rw [h2] at this; exact this
          clear h2
          generalize (L.take k).filter (fun x => x.st == 1 && p x) = ys at *
          go_wp2_with fail
          refine (HPK.out _).mono ?_
          rintro e w3 ⟨rfl, hb3⟩
          have HB3 : Hid (Below w1.heap.size w1 w3) := (HB.out.alloc hsz _).trans (hb3.mono (by simp; omega))
          have hz3 := hb3.size
          simp at hz3
          have hg3 : wr.grownBy w3 none := ⟨hb3.os, hb3.tape, hb3.output, by omega, fun i hi _ => (hb3.block i (by simp; omega)).trans (heap_alloc_old' _ _ hi)⟩
          have HO3 := Lib.hid (HO.out.kept hg3 (by cases (Value.ownBlock _) <;> simp))
          have hc := fun j => (hb3.cell (p := ⟨wr.heap.size, j, none⟩) (by simp)).trans (cell_new _ _ _ j rfl)
          have e0 := hc 0
          have e1 := hc 1
          have e2 := hc 2
          have e3 := hc 3
          have e4 := hc 4
          have e5 := hc 5
          simp at e0 e1 e2 e3 e4 e5
          clear hb3 hg3 hc
          go_wp2_with (at_builtin; refine wpList_append_own _ rfl _ _ 27 rfl w1.heap.size 37 i0 _ 6 48 Try.underlying27 hi0 hz0 hz1' hz2 rfl (by decide) _ ys.length (obRows ys) rfl (HO3.out.alloc _) ⟨w3.heap.size, 0, none⟩ 1 1 L[k].cells rfl rfl ?c1 ?c2 ?c3 ?c4 ?c5 ?_)
          case c1 => exact new_cells _ _ #[_, _, _, _, _, _] rfl
          case c2 => intro u hu; simp [Ob.cells] at hu; rcases hu with rfl | rfl | rfl | rfl | rfl | rfl <;> rfl
          case c3 => simp only [maxLen]; omega
          case c4 => omega
          case c5 => simp; omega
          intro v' w4 hown1 hgrow1 _
          have HO4 : Hid (w4.ownsRow w1.heap.size 37 6 v' ((L.take (k + 1)).filter fun x => x.st == 1 && p x).length (obRows ((L.take (k + 1)).filter fun x => x.st == 1 && p x))) := by
            show World.ownsRow _ _ _ _ _ _ _
            rw [HF1.out, obRows_snoc, List.length_append, List.length_singleton]
            exact hown1
          have HG4 : Hid (Below w1.heap.size w1 w4) := (HB3.out.alloc (by omega) _).grown hgrow1 (by simp; omega) (fun j hj => own_base HO3.out j hj)
          clear hown1 hgrow1
          go_wp2_with fail
          go_roundw
          case rel => exact ⟨k + 1, by omega, by go_num, HO4, HG4⟩
          case measure => simp [intOf]; omega
    · obtain rfl : k = L.length := by omega
      have hO := HO.out
      rw [List.take_length] at hO
      have HO2 := Lib.hid hO
      clear hO
      go_wp2_with fail
      go_ret
      refine ⟨_, rfl, ?_, HB1.out.trans (HB.out.mono hz1)⟩
      exact own_mono HO2.out hz1

set_option maxHeartbeats 400000 in
theorem debts_any (L : List Ob) (v : Value) (bs base : Nat) (w : World) (h : ShAt w bs base v L) (hl : L.length ≤ 1000000) :
    Calls Try.prog 20 #[.pointer (some ⟨bs, 0, none⟩)] w (GotObs w (L.filter fun x => x.st == 1 && (fun x => decide (0 < x.net)) x)) := by
  have HC := Lib.hid (opensd_any L (fun x => decide (0 < x.net)) v bs base w h hl debts1_any)
  clear h
  go_enter Try.func20, Try.ntmps20
  go_wp2_with fail
  refine HC.out.mono ?_
  rintro e w1 ⟨v1, rfl, ho1, hb1⟩
  have HO1 := Lib.hid ho1
  have HB1 := Lib.hid hb1
  clear ho1 hb1
  go_wp2_with fail
  go_ret
  exact ⟨v1, rfl, HO1.out, HB1.out⟩

set_option maxHeartbeats 400000 in
theorem claims_any (L : List Ob) (v : Value) (bs base : Nat) (w : World) (h : ShAt w bs base v L) (hl : L.length ≤ 1000000) :
    Calls Try.prog 21 #[.pointer (some ⟨bs, 0, none⟩)] w (GotObs w (L.filter fun x => x.st == 1 && (fun x => decide (x.net < 0)) x)) := by
  have HC := Lib.hid (opensc_any L (fun x => decide (x.net < 0)) v bs base w h hl claims1_any)
  clear h
  go_enter Try.func21, Try.ntmps21
  go_wp2_with fail
  refine HC.out.mono ?_
  rintro e w1 ⟨v1, rfl, ho1, hb1⟩
  have HO1 := Lib.hid ho1
  have HB1 := Lib.hid hb1
  clear ho1 hb1
  go_wp2_with fail
  go_ret
  exact ⟨v1, rfl, HO1.out, HB1.out⟩

/-- A sheet of its own has come back. -/
def GotSheet (w : World) (L : List Ob) (e : Ending) (w' : World) : Prop := ∃ bc v, e = .returned (.pointer (some ⟨bc, 0, none⟩)) ∧ ShAt w' bc w.heap.size v L ∧ w.heap.size ≤ bc ∧ Below w.heap.size w w'
set_option maxHeartbeats 400000 in
theorem copy_any (L : List Ob) (v : Value) (bs base : Nat) (w : World) (h : ShAt w bs base v L) (hl : L.length ≤ 1000000) :
    Calls Try.prog 18 #[.pointer (some ⟨bs, 0, none⟩)] w (GotSheet w L) := by
  have c0 := h.c0
  have HO := Lib.hid h.own
  clear h
  go_enter Try.func18, Try.ntmps18
  go_wp2_with fail
  refine (clone_any L v base _ HO.out hl).mono ?_
  rintro e w1 ⟨v1, rfl, ho1, hb1⟩
  have HO1 := Lib.hid ho1
  have HB1 := Lib.hid hb1
  have hz := hb1.size
  obtain ⟨A1, c1, rfl⟩ := own_form ho1
  clear ho1 hb1
  go_wp2_with fail
  go_ret
  exact ⟨w1.heap.size, _, rfl, ⟨heap_alloc_new _ _, HO1.out.alloc _⟩, hz, HB1.out.alloc hz _⟩

set_option maxHeartbeats 400000 in
theorem nil_all  (w : World) : Calls Try.prog 9 #[.pointer none] w fun e w' => e = .returned (.slice none 0 0) ∧ Below w.heap.size w w' := by
  go_enter Try.func9, Try.ntmps9
  go_wp2_with fail
  go_ret
  exact ⟨rfl, Below.refl _ _⟩
set_option maxHeartbeats 400000 in
theorem nil_find (m a : Int) (w : World) : Calls Try.prog 29 #[.pointer none, .int .i64 m, .int .i64 a] w fun e w' => e = .returned (.int .i64 (-1)) ∧ Below w.heap.size w w' := by
  go_enter Try.func29, Try.ntmps29
  go_wp2_with fail
  go_ret
  exact ⟨rfl, ((Below.refl _ _).alloc (Nat.le_refl _) _).alloc (by simp) _⟩
set_option maxHeartbeats 400000 in
theorem nil_debt (m a n : Int) (w : World) : Calls Try.prog 28 #[.pointer none, .int .i64 m, .int .i64 a, .int .i64 n] w fun e w' => e = .returned (.tuple #[.int .i64 0, .int .i64 8]) ∧ Below w.heap.size w w' := by
  go_enter Try.func28, Try.ntmps28
  go_wp2_with fail
  refine (nil_find m a _).mono ?_
  rintro e w1 ⟨rfl, hb1⟩
  have HB1 := Lib.hid hb1
  clear hb1
  go_wp2_with fail
  go_ret2
  exact ⟨rfl, HB1.out⟩
set_option maxHeartbeats 400000 in
theorem nil_left (m a : Int) (w : World) : Calls Try.prog 19 #[.pointer none, .int .i64 m, .int .i64 a] w fun e w' => e = .returned (.tuple #[.int .i64 0, .int .i64 8]) ∧ Below w.heap.size w w' := by
  go_enter Try.func19, Try.ntmps19
  go_wp2_with fail
  refine (nil_find m a _).mono ?_
  rintro e w1 ⟨rfl, hb1⟩
  have HB1 := Lib.hid hb1
  clear hb1
  go_wp2_with fail
  go_ret2
  exact ⟨rfl, HB1.out⟩
set_option maxHeartbeats 400000 in
theorem nil_pay (m a n : Int) (w : World) : Calls Try.prog 11 #[.pointer none, .int .i64 m, .int .i64 a, .int .i64 n] w fun e w' => e = .returned (.int .i64 8) ∧ Below w.heap.size w w' := by
  go_enter Try.func11, Try.ntmps11
  go_wp2_with fail
  refine (nil_debt m a n _).mono ?_
  rintro e w1 ⟨rfl, hb1⟩
  have HB1 := Lib.hid hb1
  clear hb1
  go_wp2_with fail
  go_ret
  exact ⟨rfl, HB1.out⟩
set_option maxHeartbeats 400000 in
theorem nil_take (m a n : Int) (w : World) : Calls Try.prog 12 #[.pointer none, .int .i64 m, .int .i64 a, .int .i64 n] w fun e w' => e = .returned (.int .i64 8) ∧ Below w.heap.size w w' := by
  go_enter Try.func12, Try.ntmps12
  go_wp2_with fail
  refine (nil_debt m a n _).mono ?_
  rintro e w1 ⟨rfl, hb1⟩
  have HB1 := Lib.hid hb1
  clear hb1
  go_wp2_with fail
  go_ret
  exact ⟨rfl, HB1.out⟩
set_option maxHeartbeats 400000 in
theorem nil_mark (m a s n : Int) (w : World) : Calls Try.prog 13 #[.pointer none, .int .i64 m, .int .i64 a, .int .i64 s, .int .i64 n] w fun e w' => e = .returned (.int .i64 8) ∧ Below w.heap.size w w' := by
  go_enter Try.func13, Try.ntmps13
  go_wp2_with fail
  refine (nil_find m a _).mono ?_
  rintro e w1 ⟨rfl, hb1⟩
  have HB1 := Lib.hid hb1
  clear hb1
  go_wp2_with fail
  go_ret
  exact ⟨rfl, HB1.out⟩
set_option maxHeartbeats 400000 in
theorem nil_open (c : Int) (w : World) : Calls Try.prog 10 #[.pointer none, .int .i64 c, .slice none 0 0] w fun e w' => e = .returned (.int .i64 8) ∧ Below w.heap.size w w' := by
  go_enter Try.func10, Try.ntmps10
  go_wp2_with fail
  go_ret
  exact ⟨rfl, (Below.refl _ _).alloc (Nat.le_refl _) _⟩
set_option maxHeartbeats 400000 in
theorem nil_copy  (w : World) : Calls Try.prog 18 #[.pointer none] w fun e w' => e = .returned (.pointer none) ∧ Below w.heap.size w w' := by
  go_enter Try.func18, Try.ntmps18
  go_wp2_with fail
  go_ret
  exact ⟨rfl, Below.refl _ _⟩
set_option maxHeartbeats 400000 in
theorem nil_count (s : Int) (w : World) : Calls Try.prog 23 #[.pointer none, .int .i64 s] w fun e w' => e = .returned (.int .i64 0) ∧ Below w.heap.size w w' := by
  go_enter Try.func23, Try.ntmps23
  go_wp2_with fail
  refine (nil_all _).mono ?_
  rintro e w1 ⟨rfl, hb1⟩
  have HB1 := Lib.hid hb1
  clear hb1
  go_wp2_with fail
  refine wp_loop_rounds 1 ?_
  rw [rounds_succ]
  go_wp2_with fail
  go_ret
  exact ⟨rfl, HB1.out⟩
set_option maxHeartbeats 400000 in
theorem nil_opens (f : FuncId) (w : World) : Calls Try.prog 38 #[.pointer none, .func (.func f) #[] #[]] w fun e w' => e = .returned (.slice none 0 0) ∧ Below w.heap.size w w' := by
  go_enter Try.func38, Try.ntmps38
  go_wp2_with fail
  refine (nil_all _).mono ?_
  rintro e w1 ⟨rfl, hb1⟩
  have HB1 := Lib.hid hb1
  clear hb1
  go_wp2_with fail
  refine wp_loop_rounds 1 ?_
  rw [rounds_succ]
  go_wp2_with fail
  go_ret
  exact ⟨rfl, HB1.out⟩
set_option maxHeartbeats 400000 in
theorem nil_debts  (w : World) : Calls Try.prog 20 #[.pointer none] w fun e w' => e = .returned (.slice none 0 0) ∧ Below w.heap.size w w' := by
  go_enter Try.func20, Try.ntmps20
  go_wp2_with fail
  refine (nil_opens 39 _).mono ?_
  rintro e w1 ⟨rfl, hb1⟩
  have HB1 := Lib.hid hb1
  clear hb1
  go_wp2_with fail
  go_ret
  exact ⟨rfl, HB1.out⟩
set_option maxHeartbeats 400000 in
theorem nil_claims  (w : World) : Calls Try.prog 21 #[.pointer none] w fun e w' => e = .returned (.slice none 0 0) ∧ Below w.heap.size w w' := by
  go_enter Try.func21, Try.ntmps21
  go_wp2_with fail
  refine (nil_opens 40 _).mono ?_
  rintro e w1 ⟨rfl, hb1⟩
  have HB1 := Lib.hid hb1
  clear hb1
  go_wp2_with fail
  go_ret
  exact ⟨rfl, HB1.out⟩
end Go.Proofs.Ytkjkkcaiddeggaa
