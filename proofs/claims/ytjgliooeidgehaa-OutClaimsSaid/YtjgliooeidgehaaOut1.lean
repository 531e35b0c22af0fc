/-
  What package out comes to, over this seat's translation: contracts for callers.
-/
import Derived.Test.YtjgliooeidgehaaInts
import Derived.Test.YtjgliooeidgehaaObPlain
import Derived.Test.YtjgliooeidgehaaMoneySumD
namespace Go.Proofs.Ytjgliooeidgehaa
open Go.RowKit

theorem ob_info : (Try.prog.info? 34).map (fun i => (i.zero, i.size, i.bytes)) = some (some (.agg #[.int .i64 0, .int .i64 0, .int .i64 0, .int .i64 0, .int .i64 0, .int .i64 0]), 6, 48) := by kernel_rfl
theorem lg_info : (Try.prog.info? 46).map (fun i => (i.zero, i.size, i.bytes)) = some (some (.agg #[.int .i64 0, .int .i64 0, .int .i64 0]), 3, 24) := by kernel_rfl
theorem i64_info : (Try.prog.info? 2).map (fun i => (i.zero, i.size, i.bytes)) = some (some (.int .i64 0), 1, 8) := by kernel_rfl
theorem obRows_snoc (L : List Ob) (x : Ob) : obRows (L ++ [x]) = obRows L ++ x.cells := by
  unfold obRows; simp
theorem lgRows_snoc (L : List Lg) (x : Lg) : lgRows (L ++ [x]) = lgRows L ++ x.cells := by
  unfold lgRows; simp
/-- A slice of obligations of one's own has come back. -/
def GotObs (w : World) (L : List Ob) (e : Ending) (w' : World) : Prop :=
  ∃ v, e = .returned v ∧ w'.ownsRow w.heap.size 34 6 v L.length (obRows L) ∧ Below w.heap.size w w'
/-- A slice of legs of one's own has come back. -/
def GotLegs (w : World) (L : List Lg) (e : Ending) (w' : World) : Prop :=
  ∃ v, e = .returned v ∧ w'.ownsRow w.heap.size 46 3 v L.length (lgRows L) ∧ Below w.heap.size w w'

def failB (x : Ob) : Bool := decide (0 < x.net) && decide (x.done < x.net)
set_option maxHeartbeats 400000 in
theorem failed1_any (x : Ob) (w : World) : Calls Try.prog 20 #[x.val] w fun e w' => e = .returned (.bool (failB x)) ∧ Below w.heap.size w w' := by
  obtain ⟨c, m, a, net, done, st⟩ := x
  unfold Ob.val
  go_enter Try.func20, Try.ntmps20
  go_wp2
  all_goals
    go_ret
    refine ⟨ret_bool ?_, (Below.refl _ _).alloc (Nat.le_refl _) _⟩
    rw [Bool.eq_iff_iff]
    simp_all [failB] <;> omega
def paidB (asset : Int) (x : Ob) : Bool := decide (0 < x.net) && x.a == asset
set_option maxHeartbeats 400000 in
theorem paid1_any (x : Ob) (asset : Int) (ba : Nat) (w : World) (h0 : w.cell? ⟨ba, 0, none⟩ = some (.int .i64 asset)) (hb : ba < w.heap.size) : Calls Try.prog 24 #[x.val, .pointer (some ⟨ba, 0, none⟩)] w fun e w' => e = .returned (.bool (paidB asset x)) ∧ Below w.heap.size w w' := by
  obtain ⟨c, m, a, net, done, st⟩ := x
  unfold Ob.val
  go_enter Try.func24, Try.ntmps24
  go_wp2
  all_goals
    go_ret
    refine ⟨ret_bool ?_, (Below.refl _ _).alloc (Nat.le_refl _) _⟩
    rw [Bool.eq_iff_iff]
    simp_all [paidB] <;> omega

set_option maxRecDepth 100000 in
set_option maxHeartbeats 800000 in
theorem openf_any (L : List Ob) (A : Option Addr) (c : Nat) (p : Ob → Bool) (w : World) (hs : Seg w w.heap.size A (obRows L)) (hl : L.length ≤ 1000000)
    (hp : ∀ (x : Ob) (W : World), Below w.heap.size w W → Calls Try.prog 20 #[x.val] W fun e w' => e = .returned (.bool (p x)) ∧ Below W.heap.size W w') :
    Calls Try.prog 19 #[.slice A L.length c, .func (.func 20) #[] #[]] w (GotObs w (L.filter fun x => x.st == 1 && p x)) := by
  have HS := Lib.hid hs
  have HP := Lib.hid hp
  obtain ⟨i0, hi0, hz0, hz1', hz2⟩ := info_parts ob_info
  clear hs hp
  go_enter Try.func19, Try.ntmps19
  go_wp2_with fail
  go_loopw [5, 7, 10] (fun u _ i wr => ∃ k : Nat, k ≤ L.length ∧ i = .int .i64 k ∧ Hid (wr.ownsRow w.heap.size 34 6 u ((L.take k).filter fun x => x.st == 1 && p x).length (obRows ((L.take k).filter fun x => x.st == 1 && p x))) ∧ Hid (Below w.heap.size w wr)) (fun _ _ i _ => L.length - (intOf i).toNat)
  case atStart => exact ⟨0, Nat.zero_le _, rfl, ⟨by simp [obRows], Or.inl ⟨rfl, rfl⟩⟩, Below.refl _ _⟩
  case round =>
    obtain ⟨k, hk, rfl, HO, HB⟩ := hrel
    have hsz := HB.out.size
    have hfl := filter_len (fun x : Ob => x.st == 1 && p x) L k
    by_cases hlt : k < L.length
    · obtain ⟨b, o, rfl, hb, d0, d1, d2, d3, d4, d5⟩ := ob_at (HS.out.below HB.out) hlt
      have HF := Lib.hid (filter_snoc (fun x : Ob => x.st == 1 && p x) hlt)
      cases h1 : (L[k].st == 1)
      · have hF : (L.take (k + 1)).filter (fun x => x.st == 1 && p x) = (L.take k).filter (fun x => x.st == 1 && p x) := by rw [HF.out, h1]; simp
        have hO2 := HO.out
        rw [← hF] at hO2
        have HO1 := Lib.hid hO2
        clear hO2 hF
        go_wp2_with fail
        go_roundw
        case rel => exact ⟨k + 1, by omega, by go_num, HO1.out.alloc _, HB.out.alloc hsz _⟩
        case measure => simp [intOf]; omega
      · cases h2 : p L[k]
        · have hF : (L.take (k + 1)).filter (fun x => x.st == 1 && p x) = (L.take k).filter (fun x => x.st == 1 && p x) := by rw [HF.out, h1, h2]; simp
          have hO2 := HO.out
          rw [← hF] at hO2
          have HO1 := Lib.hid hO2
          clear hO2 hF
          have HPK : Hid (∀ W : World, Below w.heap.size w W → Calls Try.prog 20 #[L[k].val] W fun e w' => e = .returned (.bool false) ∧ Below W.heap.size W w') := fun W hW => by have := HP.out L[k] W hW; rw [h2] at this; exact this
          clear h2
          go_wp2_with fail
          refine (HPK.out _ (HB.out.alloc hsz _)).mono ?_
          rintro e w3 ⟨rfl, hb3⟩
          have HB3 : Hid (Below w.heap.size w w3) := (HB.out.alloc hsz _).trans (hb3.mono (by simp; omega))
          have hg3 : wr.grownBy w3 none := ⟨hb3.os, hb3.tape, hb3.output, by have := hb3.size; simp at this; omega, fun i hi _ => (hb3.block i (by simp; omega)).trans (heap_alloc_old' _ _ hi)⟩
          have HO3 := Lib.hid (HO1.out.kept hg3 (by cases (Value.ownBlock _) <;> simp))
          clear hb3 hg3
          go_wp2_with fail
          go_roundw
          case rel => exact ⟨k + 1, by omega, by go_num, HO3, HB3⟩
          case measure => simp [intOf]; omega
        · have hF : (L.take (k + 1)).filter (fun x => x.st == 1 && p x) = (L.take k).filter (fun x => x.st == 1 && p x) ++ [L[k]] := by rw [HF.out, h1, h2]; simp
          have HF1 := Lib.hid hF
          clear hF
          have HPK : Hid (∀ W : World, Below w.heap.size w W → Calls Try.prog 20 #[L[k].val] W fun e w' => e = .returned (.bool true) ∧ Below W.heap.size W w') := fun W hW => by have := HP.out L[k] W hW; rw [h2] at this; exact this
          clear h2
          generalize (L.take k).filter (fun x => x.st == 1 && p x) = ys at *
          go_wp2_with fail
          refine (HPK.out _ (HB.out.alloc hsz _)).mono ?_
          rintro e w3 ⟨rfl, hb3⟩
          have HB3 : Hid (Below w.heap.size w w3) := (HB.out.alloc hsz _).trans (hb3.mono (by simp; omega))
          have hz3 := hb3.size
          simp at hz3
          have hg3 : wr.grownBy w3 none := ⟨hb3.os, hb3.tape, hb3.output, by omega, fun i hi _ => (hb3.block i (by simp; omega)).trans (heap_alloc_old' _ _ hi)⟩
          have HO3 := Lib.hid (HO.out.kept hg3 (by cases (Value.ownBlock _) <;> simp))
          have hc := fun j => (hb3.cell (p := ⟨wr.heap.size, j, none⟩) (by simp)).trans (cell_new _ _ _ j rfl)
          have e0 := hc 0
          have e1 := hc 1
          have e2 := hc 2
          have e3 := hc 3
          have e4 := hc 4
          have e5 := hc 5
          simp at e0 e1 e2 e3 e4 e5
          clear hb3 hg3 hc
          go_wp2_with (at_builtin; refine wpList_append_own _ rfl _ _ 22 rfl w.heap.size 34 i0 _ 6 48 Try.underlying22 hi0 hz0 hz1' hz2 rfl (by decide) _ ys.length (obRows ys) rfl (HO3.out.alloc _) ⟨w3.heap.size, 0, none⟩ 1 1 L[k].cells rfl rfl ?c1 ?c2 ?c3 ?c4 ?c5 ?_)
          case c1 => exact new_cells _ _ #[_, _, _, _, _, _] rfl
          case c2 => intro u hu; simp [Ob.cells] at hu; rcases hu with rfl | rfl | rfl | rfl | rfl | rfl <;> rfl
          case c3 => simp only [maxLen]; omega
          case c4 => omega
          case c5 => simp; omega
          intro v' w4 hown1 hgrow1 _
          have HO4 : Hid (w4.ownsRow w.heap.size 34 6 v' ((L.take (k + 1)).filter fun x => x.st == 1 && p x).length (obRows ((L.take (k + 1)).filter fun x => x.st == 1 && p x))) := by
            show World.ownsRow _ _ _ _ _ _ _
            rw [HF1.out, obRows_snoc, List.length_append, List.length_singleton]
            exact hown1
          have HG4 : Hid (Below w.heap.size w w4) := (HB3.out.alloc (by omega) _).grown hgrow1 (by simp; omega) (fun j hj => own_base HO3.out j hj)
          clear hown1 hgrow1
          go_wp2_with fail
          go_roundw
          case rel => exact ⟨k + 1, by omega, by go_num, HO4, HG4⟩
          case measure => simp [intOf]; omega
    · obtain rfl : k = L.length := by omega
      have hO := HO.out
      rw [List.take_length] at hO
      have HO2 := Lib.hid hO
      clear hO
      go_wp2_with fail
      go_ret
      exact ⟨_, rfl, HO2.out, HB.out⟩

set_option maxRecDepth 100000 in
set_option maxHeartbeats 800000 in
theorem openc_any (L : List Ob) (A : Option Addr) (c : Nat) (c1 : Value) (p : Ob → Bool) (w : World) (hs : Seg w w.heap.size A (obRows L)) (hl : L.length ≤ 1000000)
    (hp : ∀ (x : Ob) (W : World), Below w.heap.size w W → Calls Try.prog 38 #[x.val, c1] W fun e w' => e = .returned (.bool (p x)) ∧ Below W.heap.size W w') :
    Calls Try.prog 19 #[.slice A L.length c, .func (.func 38) #[] #[c1]] w (GotObs w (L.filter fun x => x.st == 1 && p x)) := by
  have HS := Lib.hid hs
  have HP := Lib.hid hp
  obtain ⟨i0, hi0, hz0, hz1', hz2⟩ := info_parts ob_info
  clear hs hp
  go_enter Try.func19, Try.ntmps19
  go_wp2_with fail
  go_loopw [5, 7, 10] (fun u _ i wr => ∃ k : Nat, k ≤ L.length ∧ i = .int .i64 k ∧ Hid (wr.ownsRow w.heap.size 34 6 u ((L.take k).filter fun x => x.st == 1 && p x).length (obRows ((L.take k).filter fun x => x.st == 1 && p x))) ∧ Hid (Below w.heap.size w wr)) (fun _ _ i _ => L.length - (intOf i).toNat)
  case atStart => exact ⟨0, Nat.zero_le _, rfl, ⟨by simp [obRows], Or.inl ⟨rfl, rfl⟩⟩, Below.refl _ _⟩
  case round =>
    obtain ⟨k, hk, rfl, HO, HB⟩ := hrel
    have hsz := HB.out.size
    have hfl := filter_len (fun x : Ob => x.st == 1 && p x) L k
    by_cases hlt : k < L.length
    · obtain ⟨b, o, rfl, hb, d0, d1, d2, d3, d4, d5⟩ := ob_at (HS.out.below HB.out) hlt
      have HF := Lib.hid (filter_snoc (fun x : Ob => x.st == 1 && p x) hlt)
      cases h1 : (L[k].st == 1)
      · have hF : (L.take (k + 1)).filter (fun x => x.st == 1 && p x) = (L.take k).filter (fun x => x.st == 1 && p x) := by rw [HF.out, h1]; simp
        have hO2 := HO.out
        rw [← hF] at hO2
        have HO1 := Lib.hid hO2
        clear hO2 hF
        go_wp2_with fail
        go_roundw
        case rel => exact ⟨k + 1, by omega, by go_num, HO1.out.alloc _, HB.out.alloc hsz _⟩
        case measure => simp [intOf]; omega
      · cases h2 : p L[k]
        · have hF : (L.take (k + 1)).filter (fun x => x.st == 1 && p x) = (L.take k).filter (fun x => x.st == 1 && p x) := by rw [HF.out, h1, h2]; simp
          have hO2 := HO.out
          rw [← hF] at hO2
          have HO1 := Lib.hid hO2
          clear hO2 hF
          have HPK : Hid (∀ W : World, Below w.heap.size w W → Calls Try.prog 38 #[L[k].val, c1] W fun e w' => e = .returned (.bool false) ∧ Below W.heap.size W w') := fun W hW => by have := HP.out L[k] W hW; rw [h2] at this; exact this
          clear h2
          go_wp2_with fail
          refine (HPK.out _ (HB.out.alloc hsz _)).mono ?_
          rintro e w3 ⟨rfl, hb3⟩
          have HB3 : Hid (Below w.heap.size w w3) := (HB.out.alloc hsz _).trans (hb3.mono (by simp; omega))
          have hg3 : wr.grownBy w3 none := ⟨hb3.os, hb3.tape, hb3.output, by have := hb3.size; simp at this; omega, fun i hi _ => (hb3.block i (by simp; omega)).trans (heap_alloc_old' _ _ hi)⟩
          have HO3 := Lib.hid (HO1.out.kept hg3 (by cases (Value.ownBlock _) <;> simp))
          clear hb3 hg3
          go_wp2_with fail
          go_roundw
          case rel => exact ⟨k + 1, by omega, by go_num, HO3, HB3⟩
          case measure => simp [intOf]; omega
        · have hF : (L.take (k + 1)).filter (fun x => x.st == 1 && p x) = (L.take k).filter (fun x => x.st == 1 && p x) ++ [L[k]] := by rw [HF.out, h1, h2]; simp
          have HF1 := Lib.hid hF
          clear hF
          have HPK : Hid (∀ W : World, Below w.heap.size w W → Calls Try.prog 38 #[L[k].val, c1] W fun e w' => e = .returned (.bool true) ∧ Below W.heap.size W w') := fun W hW => by have := HP.out L[k] W hW; rw [h2] at this; exact this
          clear h2
          generalize (L.take k).filter (fun x => x.st == 1 && p x) = ys at *
          go_wp2_with fail
          refine (HPK.out _ (HB.out.alloc hsz _)).mono ?_
          rintro e w3 ⟨rfl, hb3⟩
          have HB3 : Hid (Below w.heap.size w w3) := (HB.out.alloc hsz _).trans (hb3.mono (by simp; omega))
          have hz3 := hb3.size
          simp at hz3
          have hg3 : wr.grownBy w3 none := ⟨hb3.os, hb3.tape, hb3.output, by omega, fun i hi _ => (hb3.block i (by simp; omega)).trans (heap_alloc_old' _ _ hi)⟩
          have HO3 := Lib.hid (HO.out.kept hg3 (by cases (Value.ownBlock _) <;> simp))
          have hc := fun j => (hb3.cell (p := ⟨wr.heap.size, j, none⟩) (by simp)).trans (cell_new _ _ _ j rfl)
          have e0 := hc 0
          have e1 := hc 1
          have e2 := hc 2
          have e3 := hc 3
          have e4 := hc 4
          have e5 := hc 5
          simp at e0 e1 e2 e3 e4 e5
          clear hb3 hg3 hc
          go_wp2_with (at_builtin; refine wpList_append_own _ rfl _ _ 22 rfl w.heap.size 34 i0 _ 6 48 Try.underlying22 hi0 hz0 hz1' hz2 rfl (by decide) _ ys.length (obRows ys) rfl (HO3.out.alloc _) ⟨w3.heap.size, 0, none⟩ 1 1 L[k].cells rfl rfl ?c1 ?c2 ?c3 ?c4 ?c5 ?_)
          case c1 => exact new_cells _ _ #[_, _, _, _, _, _] rfl
          case c2 => intro u hu; simp [Ob.cells] at hu; rcases hu with rfl | rfl | rfl | rfl | rfl | rfl <;> rfl
          case c3 => simp only [maxLen]; omega
          case c4 => omega
          case c5 => simp; omega
          intro v' w4 hown1 hgrow1 _
          have HO4 : Hid (w4.ownsRow w.heap.size 34 6 v' ((L.take (k + 1)).filter fun x => x.st == 1 && p x).length (obRows ((L.take (k + 1)).filter fun x => x.st == 1 && p x))) := by
            show World.ownsRow _ _ _ _ _ _ _
            rw [HF1.out, obRows_snoc, List.length_append, List.length_singleton]
            exact hown1
          have HG4 : Hid (Below w.heap.size w w4) := (HB3.out.alloc (by omega) _).grown hgrow1 (by simp; omega) (fun j hj => own_base HO3.out j hj)
          clear hown1 hgrow1
          go_wp2_with fail
          go_roundw
          case rel => exact ⟨k + 1, by omega, by go_num, HO4, HG4⟩
          case measure => simp [intOf]; omega
    · obtain rfl : k = L.length := by omega
      have hO := HO.out
      rw [List.take_length] at hO
      have HO2 := Lib.hid hO
      clear hO
      go_wp2_with fail
      go_ret
      exact ⟨_, rfl, HO2.out, HB.out⟩

set_option maxRecDepth 100000 in
set_option maxHeartbeats 800000 in
theorem openp_any (L : List Ob) (A : Option Addr) (c : Nat) (c1 : Value) (p : Ob → Bool) (w : World) (hs : Seg w w.heap.size A (obRows L)) (hl : L.length ≤ 1000000)
    (hp : ∀ (x : Ob) (W : World), Below w.heap.size w W → Calls Try.prog 24 #[x.val, c1] W fun e w' => e = .returned (.bool (p x)) ∧ Below W.heap.size W w') :
    Calls Try.prog 19 #[.slice A L.length c, .func (.func 24) #[] #[c1]] w (GotObs w (L.filter fun x => x.st == 1 && p x)) := by
  have HS := Lib.hid hs
  have HP := Lib.hid hp
  obtain ⟨i0, hi0, hz0, hz1', hz2⟩ := info_parts ob_info
  clear hs hp
  go_enter Try.func19, Try.ntmps19
  go_wp2_with fail
  go_loopw [5, 7, 10] (fun u _ i wr => ∃ k : Nat, k ≤ L.length ∧ i = .int .i64 k ∧ Hid (wr.ownsRow w.heap.size 34 6 u ((L.take k).filter fun x => x.st == 1 && p x).length (obRows ((L.take k).filter fun x => x.st == 1 && p x))) ∧ Hid (Below w.heap.size w wr)) (fun _ _ i _ => L.length - (intOf i).toNat)
  case atStart => exact ⟨0, Nat.zero_le _, rfl, ⟨by simp [obRows], Or.inl ⟨rfl, rfl⟩⟩, Below.refl _ _⟩
  case round =>
    obtain ⟨k, hk, rfl, HO, HB⟩ := hrel
    have hsz := HB.out.size
    have hfl := filter_len (fun x : Ob => x.st == 1 && p x) L k
    by_cases hlt : k < L.length
    · obtain ⟨b, o, rfl, hb, d0, d1, d2, d3, d4, d5⟩ := ob_at (HS.out.below HB.out) hlt
      have HF := Lib.hid (filter_snoc (fun x : Ob => x.st == 1 && p x) hlt)
      cases h1 : (L[k].st == 1)
      · have hF : (L.take (k + 1)).filter (fun x => x.st == 1 && p x) = (L.take k).filter (fun x => x.st == 1 && p x) := by rw [HF.out, h1]; simp
        have hO2 := HO.out
        rw [← hF] at hO2
        have HO1 := Lib.hid hO2
        clear hO2 hF
        go_wp2_with fail
        go_roundw
        case rel => exact ⟨k + 1, by omega, by go_num, HO1.out.alloc _, HB.out.alloc hsz _⟩
        case measure => simp [intOf]; omega
      · cases h2 : p L[k]
        · have hF : (L.take (k + 1)).filter (fun x => x.st == 1 && p x) = (L.take k).filter (fun x => x.st == 1 && p x) := by rw [HF.out, h1, h2]; simp
          have hO2 := HO.out
          rw [← hF] at hO2
          have HO1 := Lib.hid hO2
          clear hO2 hF
          have HPK : Hid (∀ W : World, Below w.heap.size w W → Calls Try.prog 24 #[L[k].val, c1] W fun e w' => e = .returned (.bool false) ∧ Below W.heap.size W w') := fun W hW => by have := HP.out L[k] W hW; rw [h2] at this; exact this
          clear h2
          go_wp2_with fail
          refine (HPK.out _ (HB.out.alloc hsz _)).mono ?_
          rintro e w3 ⟨rfl, hb3⟩
          have HB3 : Hid (Below w.heap.size w w3) := (HB.out.alloc hsz _).trans (hb3.mono (by simp; omega))
          have hg3 : wr.grownBy w3 none := ⟨hb3.os, hb3.tape, hb3.output, by have := hb3.size; simp at this; omega, fun i hi _ => (hb3.block i (by simp; omega)).trans (heap_alloc_old' _ _ hi)⟩
          have HO3 := Lib.hid (HO1.out.kept hg3 (by cases (Value.ownBlock _) <;> simp))
          clear hb3 hg3
          go_wp2_with fail
          go_roundw
          case rel => exact ⟨k + 1, by omega, by go_num, HO3, HB3⟩
          case measure => simp [intOf]; omega
        · have hF : (L.take (k + 1)).filter (fun x => x.st == 1 && p x) = (L.take k).filter (fun x => x.st == 1 && p x) ++ [L[k]] := by rw [HF.out, h1, h2]; simp
          have HF1 := Lib.hid hF
          clear hF
          have HPK : Hid (∀ W : World, Below w.heap.size w W → Calls Try.prog 24 #[L[k].val, c1] W fun e w' => e = .returned (.bool true) ∧ Below W.heap.size W w') := fun W hW => by have := HP.out L[k] W hW; rw [h2] at this; exact this
          clear h2
          generalize (L.take k).filter (fun x => x.st == 1 && p x) = ys at *
          go_wp2_with fail
          refine (HPK.out _ (HB.out.alloc hsz _)).mono ?_
          rintro e w3 ⟨rfl, hb3⟩
          have HB3 : Hid (Below w.heap.size w w3) := (HB.out.alloc hsz _).trans (hb3.mono (by simp; omega))
          have hz3 := hb3.size
          simp at hz3
          have hg3 : wr.grownBy w3 none := ⟨hb3.os, hb3.tape, hb3.output, by omega, fun i hi _ => (hb3.block i (by simp; omega)).trans (heap_alloc_old' _ _ hi)⟩
          have HO3 := Lib.hid (HO.out.kept hg3 (by cases (Value.ownBlock _) <;> simp))
          have hc := fun j => (hb3.cell (p := ⟨wr.heap.size, j, none⟩) (by simp)).trans (cell_new _ _ _ j rfl)
          have e0 := hc 0
          have e1 := hc 1
          have e2 := hc 2
          have e3 := hc 3
          have e4 := hc 4
          have e5 := hc 5
          simp at e0 e1 e2 e3 e4 e5
          clear hb3 hg3 hc
          go_wp2_with (at_builtin; refine wpList_append_own _ rfl _ _ 22 rfl w.heap.size 34 i0 _ 6 48 Try.underlying22 hi0 hz0 hz1' hz2 rfl (by decide) _ ys.length (obRows ys) rfl (HO3.out.alloc _) ⟨w3.heap.size, 0, none⟩ 1 1 L[k].cells rfl rfl ?c1 ?c2 ?c3 ?c4 ?c5 ?_)
          case c1 => exact new_cells _ _ #[_, _, _, _, _, _] rfl
          case c2 => intro u hu; simp [Ob.cells] at hu; rcases hu with rfl | rfl | rfl | rfl | rfl | rfl <;> rfl
          case c3 => simp only [maxLen]; omega
          case c4 => omega
          case c5 => simp; omega
          intro v' w4 hown1 hgrow1 _
          have HO4 : Hid (w4.ownsRow w.heap.size 34 6 v' ((L.take (k + 1)).filter fun x => x.st == 1 && p x).length (obRows ((L.take (k + 1)).filter fun x => x.st == 1 && p x))) := by
            show World.ownsRow _ _ _ _ _ _ _
            rw [HF1.out, obRows_snoc, List.length_append, List.length_singleton]
            exact hown1
          have HG4 : Hid (Below w.heap.size w w4) := (HB3.out.alloc (by omega) _).grown hgrow1 (by simp; omega) (fun j hj => own_base HO3.out j hj)
          clear hown1 hgrow1
          go_wp2_with fail
          go_roundw
          case rel => exact ⟨k + 1, by omega, by go_num, HO4, HG4⟩
          case measure => simp [intOf]; omega
    · obtain rfl : k = L.length := by omega
      have hO := HO.out
      rw [List.take_length] at hO
      have HO2 := Lib.hid hO
      clear hO
      go_wp2_with fail
      go_ret
      exact ⟨_, rfl, HO2.out, HB.out⟩

set_option maxRecDepth 100000 in
set_option maxHeartbeats 800000 in
theorem failed_any (L : List Ob) (A : Option Addr) (c : Nat) (w : World) (hs : Seg w w.heap.size A (obRows L)) (hl : L.length ≤ 1000000) :
    Calls Try.prog 8 #[.slice A L.length c] w (GotSeg w (onceL ((L.filter fun x => x.st == 1 && failB x).map (·.m)))) := by
  have HC := Lib.hid (openf_any L A c failB w hs hl (fun x W _ => failed1_any x W))
  have hDl : (L.filter fun x => x.st == 1 && failB x).length ≤ L.length := List.length_filter_le _ _
  obtain ⟨i0, hi0, hz0, hz1', hz2⟩ := info_parts int_info
  generalize hzs : onceL ((L.filter fun x => x.st == 1 && failB x).map (·.m)) = zs
  have HZ := Lib.hid hzs
  clear hs hzs
  go_enter Try.func8, Try.ntmps8
  go_wp2_with fail
  refine HC.out.mono ?_
  rintro e w1 ⟨v1, rfl, ho1, hb1⟩
  generalize (L.filter fun x => x.st == 1 && failB x) = D at *
  obtain ⟨A1, c1, rfl⟩ := own_form ho1
  have HS := Lib.hid (Seg.of_own ho1)
  have HB1 := Lib.hid hb1
  have hz1 := hb1.size
  clear ho1 hb1
  go_wp2_with fail
  go_loopw [3, 5, 9] (fun u _ i wr => ∃ k : Nat, k ≤ D.length ∧ i = .int .i64 k ∧ Hid (wr.ownsRow w1.heap.size 3 1 u ((D.take k).map (·.m)).length (((D.take k).map (·.m)).map (Value.int .i64))) ∧ Hid (Below w1.heap.size w1 wr)) (fun _ _ i _ => D.length - (intOf i).toNat)
  case atStart => exact ⟨0, Nat.zero_le _, rfl, ⟨by simp, Or.inl ⟨rfl, rfl⟩⟩, Below.refl _ _⟩
  case round =>
    obtain ⟨k, hk, rfl, HO, HB⟩ := hrel
    have hsz := HB.out.size
    by_cases hlt : k < D.length
    · obtain ⟨b, o, rfl, hb, d0, d1, d2, d3, d4, d5⟩ := ob_at (HS.out.below HB.out) hlt
      have HF1 : Hid ((D.take (k + 1)).map (·.m) = (D.take k).map (·.m) ++ [D[k].m]) := by show _ = _; rw [List.take_succ_eq_append_getElem hlt, List.map_append]; rfl
      have hyl : ((D.take k).map (·.m)).length ≤ k := by rw [List.length_map]; exact List.length_take_le _ _
      generalize (D.take k).map (·.m) = ys at *
      go_wp2_with (at_builtin; refine wpList_append_own _ rfl _ _ 23 rfl w1.heap.size 3 i0 _ 1 8 Try.underlying23 hi0 hz0 hz1' hz2 rfl (by decide) _ ys.length (ys.map (Value.int .i64)) rfl ((HO.out.alloc _).alloc _) ⟨wr.heap.size + 1, 0, none⟩ 1 1 [.int .i64 D[k].m] rfl rfl ?c1 one_int ?c3 ?c4 ?c5 ?_)
      case c1 => exact new_cells _ _ #[_] (by simp)
      case c3 => simp only [maxLen]; omega
      case c4 => omega
      case c5 => simp; omega
      intro v' w4 hown1 hgrow1 _
      have HO4 : Hid (w4.ownsRow w1.heap.size 3 1 v' ((D.take (k + 1)).map (·.m)).length (((D.take (k + 1)).map (·.m)).map (Value.int .i64))) := by
        show World.ownsRow _ _ _ _ _ _ _
        rw [HF1.out, List.map_append, List.length_append, List.length_singleton]
        exact hown1
      have HG4 : Hid (Below w1.heap.size w1 w4) := ((HB.out.alloc hsz _).alloc (by simp; omega) _).grown hgrow1 (by simp; omega) (fun j hj => own_base HO.out j hj)
      clear hown1 hgrow1
      go_wp2_with fail
      go_roundw
      case rel => exact ⟨k + 1, by omega, by go_num, HO4, HG4⟩
      case measure => simp [intOf]; omega
    · obtain rfl : k = D.length := by omega
      have hO := HO.out
      rw [List.take_length] at hO
      have hyl : (D.map (·.m)).length ≤ D.length := by rw [List.length_map]; exact Nat.le_refl _
      generalize D.map (·.m) = ys at *
      obtain ⟨A2, c2, rfl, hs2⟩ := seg_own hO rfl
      have HS2 := Lib.hid hs2
      have HBW : Hid (Below w.heap.size w wr) := HB1.out.trans (HB.out.mono hz1)
      clear hO hs2
      go_wp2_with fail
      refine (once_any ys A2 c2 _ HS2.out (by omega)).mono ?_
      rintro e w5 ⟨A5, c5, rfl, hs5, hb5⟩
      rw [HZ.out] at hs5 ⊢
      have HS5 := Lib.hid hs5
      have HB5 : Hid (Below w.heap.size w w5) := HBW.out.trans (hb5.mono HBW.out.size)
      clear hs5 hb5
      go_wp2_with fail
      go_ret
      exact ⟨A5, c5, rfl, HS5.out, HB5.out⟩

/-- A claim as a leg. -/
def Ob.claim (x : Ob) : Lg := ⟨x.m, x.a, if x.net = minI then 9223372036854775807 else -x.net⟩
theorem claim_amt (n : Int) (h : I64 n) : (amtE (-n) != 0) = (n == minI) := by
  unfold minI
  rcases Int.decEq n (-9223372036854775808) with h1 | h1
  · have h2 : I64 (-n) := by unfold I64 at *; omega
    rw [(amt_in h2).2]
    simp [h1]
  · subst h1
    have h2 : ¬ I64 (- -9223372036854775808) := by decide
    rw [(amt_out h2).2]
    rfl
set_option maxHeartbeats 400000 in
theorem claim_any (x : Ob) (w : World) (h : I64 x.net) : Calls Try.prog 39 #[x.val] w fun e w' => e = .returned (x.claim.val) ∧ Below w.heap.size w w' := by
  have HA := Lib.hid (claim_amt x.net h)
  have HI := Lib.hid h
  have HC := Lib.hid (show x.claim = ⟨x.m, x.a, if x.net = minI then 9223372036854775807 else -x.net⟩ from rfl)
  obtain ⟨c, m, a, net, done, st⟩ := x
  simp only at HA HI HC
  by_cases hn : net = minI
  · have h1 : (amtE (-net) != 0) = true := by rw [HA.out]; simpa using hn
    have HN := Lib.hid hn
    clear h hn
    unfold Ob.val
    go_enter Try.func39, Try.ntmps39
    go_wp2_with fail
    refine (neg_any net _ HI.out).mono ?_
    rintro e w1 ⟨rfl, rfl⟩
    go_wp2_with fail
    refine bodyPost_ret (v := .agg #[.int .i64 m, .int .i64 a, .int .i64 9223372036854775807]) (by simp [results, Try.results39, go_sem]) rfl ⟨?_, ((Below.refl _ _).alloc (Nat.le_refl _) _).alloc (by simp) _⟩
    rw [HC.out, HN.out]
    rfl
  · have h1 : (amtE (-net) != 0) = false := by rw [HA.out]; simpa using hn
    have HN := Lib.hid hn
    have hv : amtV (-net) = -net := by
      have h2 : I64 (-net) := by have hi := HI.out; unfold I64 minI at *; omega
      exact (amt_in h2).1
    have HV := Lib.hid hv
    clear h hn hv
    unfold Ob.val
    go_enter Try.func39, Try.ntmps39
    go_wp2_with fail
    refine (neg_any net _ HI.out).mono ?_
    rintro e w1 ⟨rfl, rfl⟩
    go_wp2_with fail
    refine bodyPost_ret (v := .agg #[.int .i64 m, .int .i64 a, .int .i64 (amtV (-net))]) (by simp [results, Try.results39, go_sem]) rfl ⟨?_, ((Below.refl _ _).alloc (Nat.le_refl _) _).alloc (by simp) _⟩
    rw [HC.out, HV.out, if_neg HN.out]
    rfl
end Go.Proofs.Ytjgliooeidgehaa
