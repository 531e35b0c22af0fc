/-
  What script.read comes to, over this seat's translation: a contract for callers. (Printed by gen_sc13.py.)
-/
import Derived.Test.YtmplokdbbhlomaaDoorSc12
namespace Go.Proofs.YtmplokdbbhlomaaDoor
open Go.RowKit

/-- A block of cells, none frozen. -/
structure CsAt (w : World) (b : Nat) (cs : Array Value) : Prop where
  cell : ∀ j, w.cell? ⟨b, j, none⟩ = cs[j]?
  fz : ∀ j, w.frozen? ⟨b, j, none⟩ = false
theorem CsAt.kept {w w' : World} {b : Nat} {cs : Array Value} (h : CsAt w b cs) {row : Option Nat} (hg : w.grownBy w' row) (hlt : b < w.heap.size) (hne : some b ≠ row) : CsAt w' b cs := by
  have hb := hg.block b hlt hne
  refine ⟨fun j => (World.cell?_of_block (a := ⟨b, j, none⟩) hb).trans (h.cell j), fun j => ?_⟩
  have : w'.frozen? ⟨b, j, none⟩ = w.frozen? ⟨b, j, none⟩ := by unfold World.frozen?; rw [hb]
  rw [this]
  exact h.fz j
theorem CsAt.below {w w' : World} {b : Nat} {cs : Array Value} (h : CsAt w b cs) (hlt : b < w.heap.size) (hb : Below w.heap.size w w') : CsAt w' b cs := h.kept (row := none) ⟨hb.os, hb.tape, hb.output, hb.size, fun k hk _ => hb.block k hk⟩ hlt (fun e => by cases e)
theorem CsAt.made (w : World) (cs : Array Value) (t : TypeId) : CsAt (w.alloc (.cells cs t)) w.heap.size cs := ⟨fun j => cell_new _ _ _ j rfl, fun j => by go_simp⟩
theorem CsAt.set {w : World} {b : Nat} {cs : Array Value} (h : CsAt w b cs) {i : Nat} (hi : i < cs.size) (v : Value) : CsAt (w.setCell ⟨b, i, none⟩ v) b (cs.setIfInBounds i v) := by
  refine ⟨fun j => ?_, fun j => by rw [World.frozen?_setCell]; exact h.fz j⟩
  rw [Array.getElem?_setIfInBounds]
  by_cases e : i = j
  · subst e
    rw [if_pos rfl, if_pos hi]
    exact World.cell?_setCell_same' _ _ _ (by rw [h.cell, Array.getElem?_eq_getElem hi]; rfl)
  · rw [if_neg e, World.cell?_setCell_other _ _ _ _ (fun e' => e (by injection e' with _ e' _))]
    exact h.cell j
/-- A step has been stored over another. -/
theorem CsAt.over {w : World} {b : Nat} {x0 : St} (h : CsAt w b (stCells x0)) (x : St) : CsAt (World.setCell (World.setCell (World.setCell (World.setCell (World.setCell (World.setCell (World.setCell (World.setCell (World.setCell w ⟨b, 0, none⟩ (.int .i64 x.k)) ⟨b, 1, none⟩ (.int .i64 x.c.k)) ⟨b, 2, none⟩ (.int .i64 x.c.i)) ⟨b, 3, none⟩ (.int .i64 x.c.m)) ⟨b, 4, none⟩ (.int .i64 x.c.o)) ⟨b, 5, none⟩ (.int .i64 x.c.s)) ⟨b, 6, none⟩ (.int .i64 x.c.q)) ⟨b, 7, none⟩ (.int .i64 x.c.p)) ⟨b, 8, none⟩ (.int .i64 x.n)) b (stCells x) ∧ w.grownBy (World.setCell (World.setCell (World.setCell (World.setCell (World.setCell (World.setCell (World.setCell (World.setCell (World.setCell w ⟨b, 0, none⟩ (.int .i64 x.k)) ⟨b, 1, none⟩ (.int .i64 x.c.k)) ⟨b, 2, none⟩ (.int .i64 x.c.i)) ⟨b, 3, none⟩ (.int .i64 x.c.m)) ⟨b, 4, none⟩ (.int .i64 x.c.o)) ⟨b, 5, none⟩ (.int .i64 x.c.s)) ⟨b, 6, none⟩ (.int .i64 x.c.q)) ⟨b, 7, none⟩ (.int .i64 x.c.p)) ⟨b, 8, none⟩ (.int .i64 x.n)) (some b) := by
  have h1 := ((((((((h.set (i := 0) (by simp [stCells]) (.int .i64 x.k)).set (i := 1) (by simp [stCells]) (.int .i64 x.c.k)).set (i := 2) (by simp [stCells]) (.int .i64 x.c.i)).set (i := 3) (by simp [stCells]) (.int .i64 x.c.m)).set (i := 4) (by simp [stCells]) (.int .i64 x.c.o)).set (i := 5) (by simp [stCells]) (.int .i64 x.c.s)).set (i := 6) (by simp [stCells]) (.int .i64 x.c.q)).set (i := 7) (by simp [stCells]) (.int .i64 x.c.p)).set (i := 8) (by simp [stCells]) (.int .i64 x.n)
  refine ⟨by simpa only [stCells, List.setIfInBounds_toArray, List.set_cons_zero, List.set_cons_succ] using h1, ?_⟩
  exact grown_twoS (grown_twoS (grown_twoS (grown_twoS (grown_twoS (grown_twoS (grown_twoS (grown_twoS (grown_setS _ _ _ _) (grown_setS _ _ _ _)) (grown_setS _ _ _ _)) (grown_setS _ _ _ _)) (grown_setS _ _ _ _)) (grown_setS _ _ _ _)) (grown_setS _ _ _ _)) (grown_setS _ _ _ _)) (grown_setS _ _ _ _)
/-- Its command has been stored. -/
theorem CsAt.overC {w : World} {b : Nat} {x0 : St} (h : CsAt w b (stCells x0)) (c : Cm) : CsAt (World.setCell (World.setCell (World.setCell (World.setCell (World.setCell (World.setCell (World.setCell w ⟨b, 1, none⟩ (.int .i64 c.k)) ⟨b, 2, none⟩ (.int .i64 c.i)) ⟨b, 3, none⟩ (.int .i64 c.m)) ⟨b, 4, none⟩ (.int .i64 c.o)) ⟨b, 5, none⟩ (.int .i64 c.s)) ⟨b, 6, none⟩ (.int .i64 c.q)) ⟨b, 7, none⟩ (.int .i64 c.p)) b (stCells ⟨x0.k, c, x0.n⟩) ∧ w.grownBy (World.setCell (World.setCell (World.setCell (World.setCell (World.setCell (World.setCell (World.setCell w ⟨b, 1, none⟩ (.int .i64 c.k)) ⟨b, 2, none⟩ (.int .i64 c.i)) ⟨b, 3, none⟩ (.int .i64 c.m)) ⟨b, 4, none⟩ (.int .i64 c.o)) ⟨b, 5, none⟩ (.int .i64 c.s)) ⟨b, 6, none⟩ (.int .i64 c.q)) ⟨b, 7, none⟩ (.int .i64 c.p)) (some b) := by
  have h1 := ((((((h.set (i := 1) (by simp [stCells]) (.int .i64 c.k)).set (i := 2) (by simp [stCells]) (.int .i64 c.i)).set (i := 3) (by simp [stCells]) (.int .i64 c.m)).set (i := 4) (by simp [stCells]) (.int .i64 c.o)).set (i := 5) (by simp [stCells]) (.int .i64 c.s)).set (i := 6) (by simp [stCells]) (.int .i64 c.q)).set (i := 7) (by simp [stCells]) (.int .i64 c.p)
  refine ⟨by simpa only [stCells, List.setIfInBounds_toArray, List.set_cons_zero, List.set_cons_succ] using h1, ?_⟩
  exact grown_twoS (grown_twoS (grown_twoS (grown_twoS (grown_twoS (grown_twoS (grown_setS _ _ _ _) (grown_setS _ _ _ _)) (grown_setS _ _ _ _)) (grown_setS _ _ _ _)) (grown_setS _ _ _ _)) (grown_setS _ _ _ _)) (grown_setS _ _ _ _)
/-- Its kind and number have been stored. -/
theorem CsAt.overN {w : World} {b : Nat} {x0 : St} (h : CsAt w b (stCells x0)) (k n : Int) : CsAt ((w.setCell ⟨b, 0, none⟩ (.int .i64 k)).setCell ⟨b, 8, none⟩ (.int .i64 n)) b (stCells ⟨k, x0.c, n⟩) ∧ w.grownBy ((w.setCell ⟨b, 0, none⟩ (.int .i64 k)).setCell ⟨b, 8, none⟩ (.int .i64 n)) (some b) := by
  have h1 := (h.set (i := 0) (by simp [stCells]) (.int .i64 k)).set (i := 8) (by simp [stCells]) (.int .i64 n)
  exact ⟨by simpa only [stCells, List.setIfInBounds_toArray, List.set_cons_zero, List.set_cons_succ] using h1, grown_twoS (grown_setS _ _ _ _) (grown_setS _ _ _ _)⟩
/-- The blocks of script.read: the answer at s, the step at s + 1. -/
structure RsI (w : World) (g : Nat) (r : Rd) (x : St) (W : World) : Prop where
  r : RdAt W g r
  z : CsAt W w.heap.size (stCells zeroS)
  x : CsAt W (w.heap.size + 1) (stCells x)
  sz : w.heap.size + 2 ≤ W.heap.size
  gr : w.grownBy W (some g)
theorem RsI.below {w W W' : World} {g : Nat} {r : Rd} {x : St} (h : RsI w g r x W) (hb : Below W.heap.size W W') : RsI w g r x W' :=
  ⟨h.r.below hb, h.z.below (by have := h.sz; omega) hb, h.x.below (by have := h.sz; omega) hb, Nat.le_trans h.sz hb.size, grown_belowS h.gr hb⟩
theorem RsI.read {w W W' : World} {g : Nat} {r r' : Rd} {x : St} (h : RsI w g r x W) (hg : W.grownBy W' (some g)) (hr : RdAt W' g r') (hlt : g < w.heap.size) : RsI w g r' x W' :=
  ⟨hr, h.z.kept hg (by have := h.sz; omega) (fun e => by injection e with e; omega), h.x.kept hg (by have := h.sz; omega) (fun e => by injection e with e; omega), Nat.le_trans h.sz hg.size, grown_twoS h.gr hg⟩
theorem RsI.setx {w W W' : World} {g : Nat} {r : Rd} {x x' : St} (h : RsI w g r x W) (hg : W.grownBy W' (some (w.heap.size + 1))) (hx : CsAt W' (w.heap.size + 1) (stCells x')) (hlt : g < w.heap.size) : RsI w g r x' W' :=
  ⟨h.r.kept hg (fun e => by injection e with e; omega), h.z.kept hg (by have := h.sz; omega) (fun e => by injection e with e; omega), hx, Nat.le_trans h.sz hg.size, grown_newS h.gr hg (by omega)⟩
theorem readS_A {r : Rd} (h0 : (rUpto 2 r).2.e ≠ 0) : readS r = (zeroS, (rUpto 2 r).2.e, (rUpto 2 r).2) := by
  have hs : stOf r = (zeroS, (rUpto 2 r).2.e, (rUpto 2 r).2) := by
    unfold stOf
    rw [if_neg h0]
  unfold readS
  rw [hs]
  exact if_neg h0
theorem readS_T {r : Rd} (h0 : (rUpto 2 r).2.e = 0) (ht : (rUpto 2 r).1 = 0) : readS r = if (rText 1024 (rUpto 2 r).2).2.e = 0 then (if (getC (rText 1024 (rUpto 2 r).2).1).2 = 0 then (if rightS ⟨1, (getC (rText 1024 (rUpto 2 r).2).1).1, 0⟩ then (⟨1, (getC (rText 1024 (rUpto 2 r).2).1).1, 0⟩, 0, (rText 1024 (rUpto 2 r).2).2) else (zeroS, 3, (rText 1024 (rUpto 2 r).2).2)) else (zeroS, 3, (rText 1024 (rUpto 2 r).2).2)) else (zeroS, (rText 1024 (rUpto 2 r).2).2.e, (rText 1024 (rUpto 2 r).2).2) := by
  by_cases ha : (rText 1024 (rUpto 2 r).2).2.e = 0
  · by_cases hb : (getC (rText 1024 (rUpto 2 r).2).1).2 = 0
    · have hs : stOf r = (⟨1, (getC (rText 1024 (rUpto 2 r).2).1).1, 0⟩, 0, (rText 1024 (rUpto 2 r).2).2) := by
        unfold stOf
        rw [if_pos h0, if_pos ht, if_pos ha, if_pos hb]
      unfold readS
      rw [hs, if_pos ha, if_pos hb]
      rfl
    · have hs : stOf r = (zeroS, 3, (rText 1024 (rUpto 2 r).2).2) := by
        unfold stOf
        rw [if_pos h0, if_pos ht, if_pos ha, if_neg hb]
      unfold readS
      rw [hs, if_pos ha, if_neg hb]
      rfl
  · have hs : stOf r = (zeroS, (rText 1024 (rUpto 2 r).2).2.e, (rText 1024 (rUpto 2 r).2).2) := by
      unfold stOf
      rw [if_pos h0, if_pos ht, if_neg ha]
    unfold readS
    rw [hs, if_neg ha]
    exact (if_neg ha).symm
theorem readS_N {r : Rd} {t : Int} (h0 : (rUpto 2 r).2.e = 0) (ht : (rUpto 2 r).1 = t) (h1 : t ≠ 0) : readS r = if (rNum (rUpto 2 r).2).2.e = 0 then (if rightS ⟨1 + t, zeroC, (rNum (rUpto 2 r).2).1⟩ then (⟨1 + t, zeroC, (rNum (rUpto 2 r).2).1⟩, 0, (rNum (rUpto 2 r).2).2) else (zeroS, 3, (rNum (rUpto 2 r).2).2)) else (zeroS, (rNum (rUpto 2 r).2).2.e, (rNum (rUpto 2 r).2).2) := by
  subst ht
  by_cases ha : (rNum (rUpto 2 r).2).2.e = 0
  · have hs : stOf r = (⟨1 + (rUpto 2 r).1, zeroC, (rNum (rUpto 2 r).2).1⟩, 0, (rNum (rUpto 2 r).2).2) := by
      unfold stOf
      rw [if_pos h0, if_neg h1, if_pos ha]
    unfold readS
    rw [hs, if_pos ha]
    rfl
  · have hs : stOf r = (zeroS, (rNum (rUpto 2 r).2).2.e, (rNum (rUpto 2 r).2).2) := by
      unfold stOf
      rw [if_pos h0, if_neg h1, if_neg ha]
    unfold readS
    rw [hs, if_neg ha]
    exact (if_neg ha).symm
theorem rUpto_in (most : Int) (hm : 0 ≤ most) (r : Rd) : 0 ≤ (rUpto most r).1 ∧ (rUpto most r).1 ≤ most := by
  unfold rUpto rTake
  repeat' split
  all_goals first | exact ⟨Int.le_refl _, hm⟩ | (rename_i h1 h2 h3; simp [uptoB] at h3; exact h3)
theorem rText_len (most : Int) (r : Rd) : (rText most r).1.length ≤ r.s.length := by
  have hb := getB_len r.s
  have ht : (rTake (uptoB most) r).2.2.s.length ≤ r.s.length := by
    unfold rTake
    repeat' split
    all_goals first | exact hb | exact Nat.le_refl _
  unfold rText
  repeat' split
  all_goals first | exact Nat.zero_le _ | (rw [List.length_take]; omega)
theorem rUpto_off {most : Int} {r : Rd} (h : (rUpto most r).2.e ≠ 0) : (rUpto most r).1 = 0 := by
  unfold rUpto rTake at h ⊢
  repeat' split
  all_goals first | rfl | skip
  rename_i h1 h2 h3
  rw [if_pos h1, if_pos h2, if_pos h3] at h
  exact absurd rfl h
set_option maxRecDepth 100000 in
set_option maxHeartbeats 16000000 in
theorem sread_any (g : Nat) (r : Rd) (w : World) (h : RdAt w g r) : Calls Tryd.prog 23 #[.pointer (some ⟨g, 0, none⟩)] w fun e w' => e = .returned (.tuple #[stV (readS r).1, .int .i64 (readS r).2.1]) ∧ RdAt w' g (readS r).2.2 ∧ w.grownBy w' (some g) := by
  have hlt := h.lt
  have hB1 : Below w.heap.size w ((w.alloc (.cells #[.int .i64 0, .int .i64 0, .int .i64 0, .int .i64 0, .int .i64 0, .int .i64 0, .int .i64 0, .int .i64 0, .int .i64 0] TSt)).alloc (.cells #[.int .i64 1, .int .i64 0, .int .i64 0, .int .i64 0, .int .i64 0, .int .i64 0, .int .i64 0, .int .i64 0, .int .i64 0] TSt)) := ((Below.refl _ _).alloc (Nat.le_refl _) _).alloc (by simp) _
  have hZ0 : CsAt (w.alloc (.cells #[.int .i64 0, .int .i64 0, .int .i64 0, .int .i64 0, .int .i64 0, .int .i64 0, .int .i64 0, .int .i64 0, .int .i64 0] TSt)) w.heap.size #[.int .i64 0, .int .i64 0, .int .i64 0, .int .i64 0, .int .i64 0, .int .i64 0, .int .i64 0, .int .i64 0, .int .i64 0] := CsAt.made _ _ _
  have hZ1 : CsAt ((w.alloc (.cells #[.int .i64 0, .int .i64 0, .int .i64 0, .int .i64 0, .int .i64 0, .int .i64 0, .int .i64 0, .int .i64 0, .int .i64 0] TSt)).alloc (.cells #[.int .i64 1, .int .i64 0, .int .i64 0, .int .i64 0, .int .i64 0, .int .i64 0, .int .i64 0, .int .i64 0, .int .i64 0] TSt)) w.heap.size #[.int .i64 0, .int .i64 0, .int .i64 0, .int .i64 0, .int .i64 0, .int .i64 0, .int .i64 0, .int .i64 0, .int .i64 0] := hZ0.below (by simp) ((Below.refl _ _).alloc (Nat.le_refl _) _)
  have hX1 : CsAt ((w.alloc (.cells #[.int .i64 0, .int .i64 0, .int .i64 0, .int .i64 0, .int .i64 0, .int .i64 0, .int .i64 0, .int .i64 0, .int .i64 0] TSt)).alloc (.cells #[.int .i64 1, .int .i64 0, .int .i64 0, .int .i64 0, .int .i64 0, .int .i64 0, .int .i64 0, .int .i64 0, .int .i64 0] TSt)) (w.heap.size + 1) #[.int .i64 1, .int .i64 0, .int .i64 0, .int .i64 0, .int .i64 0, .int .i64 0, .int .i64 0, .int .i64 0, .int .i64 0] := by
    have hh := CsAt.made (w.alloc (.cells #[.int .i64 0, .int .i64 0, .int .i64 0, .int .i64 0, .int .i64 0, .int .i64 0, .int .i64 0, .int .i64 0, .int .i64 0] TSt)) #[.int .i64 1, .int .i64 0, .int .i64 0, .int .i64 0, .int .i64 0, .int .i64 0, .int .i64 0, .int .i64 0, .int .i64 0] TSt
    rw [show (w.alloc (.cells #[.int .i64 0, .int .i64 0, .int .i64 0, .int .i64 0, .int .i64 0, .int .i64 0, .int .i64 0, .int .i64 0, .int .i64 0] TSt)).heap.size = w.heap.size + 1 by simp] at hh
    exact hh
  have HI1 : Hid (RsI w g r ⟨1, zeroC, 0⟩ ((w.alloc (.cells #[.int .i64 0, .int .i64 0, .int .i64 0, .int .i64 0, .int .i64 0, .int .i64 0, .int .i64 0, .int .i64 0, .int .i64 0] TSt)).alloc (.cells #[.int .i64 1, .int .i64 0, .int .i64 0, .int .i64 0, .int .i64 0, .int .i64 0, .int .i64 0, .int .i64 0, .int .i64 0] TSt))) := Lib.hid ⟨h.below hB1, hZ1, hX1, by simp, grown_toS hB1 g⟩
  clear hB1 hZ0 hZ1 hX1
  obtain ⟨Q, HQ⟩ : ∃ Q, Hid (Q = readS r) := ⟨_, Lib.hid rfl⟩
  rw [← HQ.out]
  have HQA : Hid ((rUpto 2 r).2.e ≠ 0 → Q = (zeroS, (rUpto 2 r).2.e, (rUpto 2 r).2)) := Lib.hid fun h => by rw [HQ.out]; exact readS_A h
  have HQT : Hid ((rUpto 2 r).2.e = 0 → (rUpto 2 r).1 = 0 → Q = if (rText 1024 (rUpto 2 r).2).2.e = 0 then (if (getC (rText 1024 (rUpto 2 r).2).1).2 = 0 then (if rightS ⟨1, (getC (rText 1024 (rUpto 2 r).2).1).1, 0⟩ then (⟨1, (getC (rText 1024 (rUpto 2 r).2).1).1, 0⟩, 0, (rText 1024 (rUpto 2 r).2).2) else (zeroS, 3, (rText 1024 (rUpto 2 r).2).2)) else (zeroS, 3, (rText 1024 (rUpto 2 r).2).2)) else (zeroS, (rText 1024 (rUpto 2 r).2).2.e, (rText 1024 (rUpto 2 r).2).2)) := Lib.hid fun h h' => by rw [HQ.out]; exact readS_T h h'
  have HQN : Hid (∀ t, (rUpto 2 r).2.e = 0 → (rUpto 2 r).1 = t → t ≠ 0 → Q = if (rNum (rUpto 2 r).2).2.e = 0 then (if rightS ⟨1 + t, zeroC, (rNum (rUpto 2 r).2).1⟩ then (⟨1 + t, zeroC, (rNum (rUpto 2 r).2).1⟩, 0, (rNum (rUpto 2 r).2).2) else (zeroS, 3, (rNum (rUpto 2 r).2).2)) else (zeroS, (rNum (rUpto 2 r).2).2.e, (rNum (rUpto 2 r).2).2)) := Lib.hid fun t h h' h'' => by rw [HQ.out]; exact readS_N h h' h''
  clear HQ
  have HUI := rUpto_in 2 (by omega) r
  have HUO : Hid ((rUpto 2 r).2.e ≠ 0 → (rUpto 2 r).1 = 0) := Lib.hid rUpto_off
  unfold stV stCells
  go_enter Tryd.func23, Tryd.ntmps23
  go_wp2_with fail
  generalize ((w.alloc (.cells #[.int .i64 0, .int .i64 0, .int .i64 0, .int .i64 0, .int .i64 0, .int .i64 0, .int .i64 0, .int .i64 0, .int .i64 0] TSt)).alloc (.cells #[.int .i64 1, .int .i64 0, .int .i64 0, .int .i64 0, .int .i64 0, .int .i64 0, .int .i64 0, .int .i64 0, .int .i64 0] TSt)) = w1 at *
  have HU := Lib.hid (upto_any g r 2 w1 HI1.out.r)
  generalize rUpto 2 r = U at *
  obtain ⟨t, r1⟩ := U
  simp only at HQA HQT HQN HUI HUO HU
  refine HU.out.mono ?_
  rintro e w2 ⟨rfl, hr2, hg2⟩
  have HI2 := Lib.hid (HI1.out.read hg2 hr2 hlt)
  clear hr2 hg2 HU HI1 h
  by_cases h1 : r1.e = 0
  case neg =>
    obtain rfl : t = 0 := HUO.out h1
    have HQ2 : Hid (Q = (zeroS, r1.e, r1)) := Lib.hid (HQA.out h1)
    have HTX := Lib.hid (rtext_any g r1 1024 w2 HI2.out.r)
    rw [rText_bad h1] at HTX
    clear HQA HQT HQN HUI HUO
    go_wp2_with (go_at_call 39; refine HTX.out.mono ?_)
    rintro e w3 ⟨rfl, hr3, hg3⟩
    have HI3 : Hid (RsI w g r1 ⟨1, zeroC, 0⟩ w3) := Lib.hid (HI2.out.read hg3 hr3 hlt)
    clear hr3 hg3 HTX HI2
    have hbe : (r1.e != 0) = true := by simpa using h1
    have hbf : (r1.e == 0) = false := by simpa using h1
    have z0 : w3.cell? ⟨w.heap.size, 0, none⟩ = some (.int .i64 0) := HI3.out.z.cell 0
    have z1 : w3.cell? ⟨w.heap.size, 1, none⟩ = some (.int .i64 0) := HI3.out.z.cell 1
    have z2 : w3.cell? ⟨w.heap.size, 2, none⟩ = some (.int .i64 0) := HI3.out.z.cell 2
    have z3 : w3.cell? ⟨w.heap.size, 3, none⟩ = some (.int .i64 0) := HI3.out.z.cell 3
    have z4 : w3.cell? ⟨w.heap.size, 4, none⟩ = some (.int .i64 0) := HI3.out.z.cell 4
    have z5 : w3.cell? ⟨w.heap.size, 5, none⟩ = some (.int .i64 0) := HI3.out.z.cell 5
    have z6 : w3.cell? ⟨w.heap.size, 6, none⟩ = some (.int .i64 0) := HI3.out.z.cell 6
    have z7 : w3.cell? ⟨w.heap.size, 7, none⟩ = some (.int .i64 0) := HI3.out.z.cell 7
    have z8 : w3.cell? ⟨w.heap.size, 8, none⟩ = some (.int .i64 0) := HI3.out.z.cell 8
    have zf := HI3.out.z.fz
    go_wp2_with ((go_at_call 22; refine (err_any g r1 w3 HI3.out.r).mono ?_; rintro e we ⟨rfl, hwe⟩; obtain rfl := hwe.symm))
    obtain ⟨hov, hgv⟩ := HI3.out.z.over zeroS
    obtain ⟨W5, hW5⟩ : ∃ W5, W5 = (World.setCell (World.setCell (World.setCell (World.setCell (World.setCell (World.setCell (World.setCell (World.setCell (World.setCell w3 ⟨w.heap.size, 0, none⟩ (.int .i64 0)) ⟨w.heap.size, 1, none⟩ (.int .i64 0)) ⟨w.heap.size, 2, none⟩ (.int .i64 0)) ⟨w.heap.size, 3, none⟩ (.int .i64 0)) ⟨w.heap.size, 4, none⟩ (.int .i64 0)) ⟨w.heap.size, 5, none⟩ (.int .i64 0)) ⟨w.heap.size, 6, none⟩ (.int .i64 0)) ⟨w.heap.size, 7, none⟩ (.int .i64 0)) ⟨w.heap.size, 8, none⟩ (.int .i64 0)) := ⟨_, rfl⟩
    have HOV : Hid (CsAt W5 w.heap.size (stCells zeroS)) := Lib.hid (by rw [hW5]; exact hov)
    have HGV : Hid (w3.grownBy W5 (some w.heap.size)) := Lib.hid (by rw [hW5]; exact hgv)
    rw [← hW5]
    clear hov hgv hW5
    have y0 : W5.cell? ⟨w.heap.size, 0, none⟩ = some (.int .i64 0) := HOV.out.cell 0
    have y1 : W5.cell? ⟨w.heap.size, 1, none⟩ = some (.int .i64 0) := HOV.out.cell 1
    have y2 : W5.cell? ⟨w.heap.size, 2, none⟩ = some (.int .i64 0) := HOV.out.cell 2
    have y3 : W5.cell? ⟨w.heap.size, 3, none⟩ = some (.int .i64 0) := HOV.out.cell 3
    have y4 : W5.cell? ⟨w.heap.size, 4, none⟩ = some (.int .i64 0) := HOV.out.cell 4
    have y5 : W5.cell? ⟨w.heap.size, 5, none⟩ = some (.int .i64 0) := HOV.out.cell 5
    have y6 : W5.cell? ⟨w.heap.size, 6, none⟩ = some (.int .i64 0) := HOV.out.cell 6
    have y7 : W5.cell? ⟨w.heap.size, 7, none⟩ = some (.int .i64 0) := HOV.out.cell 7
    have y8 : W5.cell? ⟨w.heap.size, 8, none⟩ = some (.int .i64 0) := HOV.out.cell 8
    refine bodyPost_ret (v := .tuple #[.agg #[.int .i64 0, .int .i64 0, .int .i64 0, .int .i64 0, .int .i64 0, .int .i64 0, .int .i64 0, .int .i64 0, .int .i64 0], .int .i64 r1.e]) (by simp [results, Tryd.results23, go_sem, y0, y1, y2, y3, y4, y5, y6, y7, y8]) rfl ?_
    rw [HQ2.out]
    exact ⟨rfl, HI3.out.r.kept HGV.out (fun e => by injection e with e; omega), grown_newS HI3.out.gr HGV.out (Nat.le_refl _)⟩
  obtain rfl | rfl | rfl : t = 0 ∨ t = 1 ∨ t = 2 := by omega
  · have HTX := Lib.hid (rtext_any g r1 1024 w2 HI2.out.r)
    have htl := rText_len 1024 r1
    have hl2 := HI2.out.r.len
    have HQ1 : Hid (Q = if (rText 1024 r1).2.e = 0 then (if (getC (rText 1024 r1).1).2 = 0 then (if rightS ⟨1, (getC (rText 1024 r1).1).1, 0⟩ then (⟨1, (getC (rText 1024 r1).1).1, 0⟩, 0, (rText 1024 r1).2) else (zeroS, 3, (rText 1024 r1).2)) else (zeroS, 3, (rText 1024 r1).2)) else (zeroS, (rText 1024 r1).2.e, (rText 1024 r1).2)) := Lib.hid (HQT.out h1 rfl)
    generalize rText 1024 r1 = TX at *
    obtain ⟨txt, r2⟩ := TX
    simp only at HTX HQ1 htl
    go_wp2_with (go_at_call 39; refine HTX.out.mono ?_)
    rintro e w3 ⟨rfl, hr3, hg3⟩
    have HI3 : Hid (RsI w g r2 ⟨1, zeroC, 0⟩ w3) := Lib.hid (HI2.out.read hg3 hr3 hlt)
    clear hr3 hg3 HTX HI2 HQA HQT HQN HUI HUO
    by_cases h2 : r2.e = 0
    case neg =>
      have HQ2 : Hid (Q = (zeroS, r2.e, r2)) := Lib.hid (by rw [HQ1.out, if_neg h2])
      clear HQ1
      have hbe : (r2.e != 0) = true := by simpa using h2
      have hbf : (r2.e == 0) = false := by simpa using h2
      have z0 : w3.cell? ⟨w.heap.size, 0, none⟩ = some (.int .i64 0) := HI3.out.z.cell 0
      have z1 : w3.cell? ⟨w.heap.size, 1, none⟩ = some (.int .i64 0) := HI3.out.z.cell 1
      have z2 : w3.cell? ⟨w.heap.size, 2, none⟩ = some (.int .i64 0) := HI3.out.z.cell 2
      have z3 : w3.cell? ⟨w.heap.size, 3, none⟩ = some (.int .i64 0) := HI3.out.z.cell 3
      have z4 : w3.cell? ⟨w.heap.size, 4, none⟩ = some (.int .i64 0) := HI3.out.z.cell 4
      have z5 : w3.cell? ⟨w.heap.size, 5, none⟩ = some (.int .i64 0) := HI3.out.z.cell 5
      have z6 : w3.cell? ⟨w.heap.size, 6, none⟩ = some (.int .i64 0) := HI3.out.z.cell 6
      have z7 : w3.cell? ⟨w.heap.size, 7, none⟩ = some (.int .i64 0) := HI3.out.z.cell 7
      have z8 : w3.cell? ⟨w.heap.size, 8, none⟩ = some (.int .i64 0) := HI3.out.z.cell 8
      have zf := HI3.out.z.fz
      go_wp2_with ((go_at_call 22; refine (err_any g r2 w3 HI3.out.r).mono ?_; rintro e we ⟨rfl, hwe⟩; obtain rfl := hwe.symm))
      obtain ⟨hov, hgv⟩ := HI3.out.z.over zeroS
      obtain ⟨W5, hW5⟩ : ∃ W5, W5 = (World.setCell (World.setCell (World.setCell (World.setCell (World.setCell (World.setCell (World.setCell (World.setCell (World.setCell w3 ⟨w.heap.size, 0, none⟩ (.int .i64 0)) ⟨w.heap.size, 1, none⟩ (.int .i64 0)) ⟨w.heap.size, 2, none⟩ (.int .i64 0)) ⟨w.heap.size, 3, none⟩ (.int .i64 0)) ⟨w.heap.size, 4, none⟩ (.int .i64 0)) ⟨w.heap.size, 5, none⟩ (.int .i64 0)) ⟨w.heap.size, 6, none⟩ (.int .i64 0)) ⟨w.heap.size, 7, none⟩ (.int .i64 0)) ⟨w.heap.size, 8, none⟩ (.int .i64 0)) := ⟨_, rfl⟩
      have HOV : Hid (CsAt W5 w.heap.size (stCells zeroS)) := Lib.hid (by rw [hW5]; exact hov)
      have HGV : Hid (w3.grownBy W5 (some w.heap.size)) := Lib.hid (by rw [hW5]; exact hgv)
      rw [← hW5]
      clear hov hgv hW5
      have y0 : W5.cell? ⟨w.heap.size, 0, none⟩ = some (.int .i64 0) := HOV.out.cell 0
      have y1 : W5.cell? ⟨w.heap.size, 1, none⟩ = some (.int .i64 0) := HOV.out.cell 1
      have y2 : W5.cell? ⟨w.heap.size, 2, none⟩ = some (.int .i64 0) := HOV.out.cell 2
      have y3 : W5.cell? ⟨w.heap.size, 3, none⟩ = some (.int .i64 0) := HOV.out.cell 3
      have y4 : W5.cell? ⟨w.heap.size, 4, none⟩ = some (.int .i64 0) := HOV.out.cell 4
      have y5 : W5.cell? ⟨w.heap.size, 5, none⟩ = some (.int .i64 0) := HOV.out.cell 5
      have y6 : W5.cell? ⟨w.heap.size, 6, none⟩ = some (.int .i64 0) := HOV.out.cell 6
      have y7 : W5.cell? ⟨w.heap.size, 7, none⟩ = some (.int .i64 0) := HOV.out.cell 7
      have y8 : W5.cell? ⟨w.heap.size, 8, none⟩ = some (.int .i64 0) := HOV.out.cell 8
      refine bodyPost_ret (v := .tuple #[.agg #[.int .i64 0, .int .i64 0, .int .i64 0, .int .i64 0, .int .i64 0, .int .i64 0, .int .i64 0, .int .i64 0, .int .i64 0], .int .i64 r2.e]) (by simp [results, Tryd.results23, go_sem, y0, y1, y2, y3, y4, y5, y6, y7, y8]) rfl ?_
      rw [HQ2.out]
      exact ⟨rfl, HI3.out.r.kept HGV.out (fun e => by injection e with e; omega), grown_newS HI3.out.gr HGV.out (Nat.le_refl _)⟩
    have hb2 : (r2.e == 0) = true := by simpa using h2
    have HGC := Lib.hid (cget_any txt w3 (by omega))
    have HQ2 : Hid (Q = if (getC txt).2 = 0 then (if rightS ⟨1, (getC txt).1, 0⟩ then (⟨1, (getC txt).1, 0⟩, 0, r2) else (zeroS, 3, r2)) else (zeroS, 3, r2)) := Lib.hid (by rw [HQ1.out, if_pos h2])
    generalize getC txt = C at *
    obtain ⟨c, ec⟩ := C
    simp only at HGC HQ2
    unfold cmV at HGC
    clear HQ1
    go_wp2_with (first | (go_at_call 22; refine (err_any g r2 w3 HI3.out.r).mono ?_; rintro e we ⟨rfl, hwe⟩; obtain rfl := hwe.symm) | (go_at_call 40; refine HGC.out.mono ?_))
    rintro e w4 ⟨rfl, hb4⟩
    have HI4 := Lib.hid (HI3.out.below hb4)
    clear hb4 HGC HI3
    have q0 : w4.cell? ⟨w.heap.size + 1, 0, none⟩ = some (.int .i64 1) := HI4.out.x.cell 0
    have q1 : w4.cell? ⟨w.heap.size + 1, 1, none⟩ = some (.int .i64 0) := HI4.out.x.cell 1
    have q2 : w4.cell? ⟨w.heap.size + 1, 2, none⟩ = some (.int .i64 0) := HI4.out.x.cell 2
    have q3 : w4.cell? ⟨w.heap.size + 1, 3, none⟩ = some (.int .i64 0) := HI4.out.x.cell 3
    have q4 : w4.cell? ⟨w.heap.size + 1, 4, none⟩ = some (.int .i64 0) := HI4.out.x.cell 4
    have q5 : w4.cell? ⟨w.heap.size + 1, 5, none⟩ = some (.int .i64 0) := HI4.out.x.cell 5
    have q6 : w4.cell? ⟨w.heap.size + 1, 6, none⟩ = some (.int .i64 0) := HI4.out.x.cell 6
    have q7 : w4.cell? ⟨w.heap.size + 1, 7, none⟩ = some (.int .i64 0) := HI4.out.x.cell 7
    have q8 : w4.cell? ⟨w.heap.size + 1, 8, none⟩ = some (.int .i64 0) := HI4.out.x.cell 8
    have qf := HI4.out.x.fz
    have hov := HI4.out.x.overC c
    obtain ⟨w5, hw5⟩ : ∃ w5, w5 = (World.setCell (World.setCell (World.setCell (World.setCell (World.setCell (World.setCell (World.setCell w4 ⟨(w.heap.size + 1), 1, none⟩ (.int .i64 c.k)) ⟨(w.heap.size + 1), 2, none⟩ (.int .i64 c.i)) ⟨(w.heap.size + 1), 3, none⟩ (.int .i64 c.m)) ⟨(w.heap.size + 1), 4, none⟩ (.int .i64 c.o)) ⟨(w.heap.size + 1), 5, none⟩ (.int .i64 c.s)) ⟨(w.heap.size + 1), 6, none⟩ (.int .i64 c.q)) ⟨(w.heap.size + 1), 7, none⟩ (.int .i64 c.p)) := ⟨_, rfl⟩
    rw [← hw5] at hov
    have HI5 : Hid (RsI w g r2 ⟨1, c, 0⟩ w5) := Lib.hid (HI4.out.setx hov.2 hov.1 hlt)
    by_cases h3 : ec = 0
    case neg =>
      have hb3 : (ec != 0) = true := by simpa using h3
      have HQ3 : Hid (Q = (zeroS, 3, r2)) := Lib.hid (by rw [HQ2.out, if_neg h3])
      clear HQ2 hov
      go_wp2_with fail
      rw [← hw5]
      refine (err_any g r2 w5 HI5.out.r).mono ?_
      rintro e we ⟨rfl, hwe⟩
      obtain rfl := hwe.symm
      clear hw5
      have z0 : w5.cell? ⟨w.heap.size, 0, none⟩ = some (.int .i64 0) := HI5.out.z.cell 0
      have z1 : w5.cell? ⟨w.heap.size, 1, none⟩ = some (.int .i64 0) := HI5.out.z.cell 1
      have z2 : w5.cell? ⟨w.heap.size, 2, none⟩ = some (.int .i64 0) := HI5.out.z.cell 2
      have z3 : w5.cell? ⟨w.heap.size, 3, none⟩ = some (.int .i64 0) := HI5.out.z.cell 3
      have z4 : w5.cell? ⟨w.heap.size, 4, none⟩ = some (.int .i64 0) := HI5.out.z.cell 4
      have z5 : w5.cell? ⟨w.heap.size, 5, none⟩ = some (.int .i64 0) := HI5.out.z.cell 5
      have z6 : w5.cell? ⟨w.heap.size, 6, none⟩ = some (.int .i64 0) := HI5.out.z.cell 6
      have z7 : w5.cell? ⟨w.heap.size, 7, none⟩ = some (.int .i64 0) := HI5.out.z.cell 7
      have z8 : w5.cell? ⟨w.heap.size, 8, none⟩ = some (.int .i64 0) := HI5.out.z.cell 8
      have zf := HI5.out.z.fz
      have hbe : (r2.e != 0) = false := by simpa using h2
      go_wp2_with ((go_at_call 22; refine (err_any g r2 w5 HI5.out.r).mono ?_; rintro e we ⟨rfl, hwe⟩; obtain rfl := hwe.symm))
      obtain ⟨hov, hgv⟩ := HI5.out.z.over zeroS
      obtain ⟨W5, hW5⟩ : ∃ W5, W5 = (World.setCell (World.setCell (World.setCell (World.setCell (World.setCell (World.setCell (World.setCell (World.setCell (World.setCell w5 ⟨w.heap.size, 0, none⟩ (.int .i64 0)) ⟨w.heap.size, 1, none⟩ (.int .i64 0)) ⟨w.heap.size, 2, none⟩ (.int .i64 0)) ⟨w.heap.size, 3, none⟩ (.int .i64 0)) ⟨w.heap.size, 4, none⟩ (.int .i64 0)) ⟨w.heap.size, 5, none⟩ (.int .i64 0)) ⟨w.heap.size, 6, none⟩ (.int .i64 0)) ⟨w.heap.size, 7, none⟩ (.int .i64 0)) ⟨w.heap.size, 8, none⟩ (.int .i64 0)) := ⟨_, rfl⟩
      have HOV : Hid (CsAt W5 w.heap.size (stCells zeroS)) := Lib.hid (by rw [hW5]; exact hov)
      have HGV : Hid (w5.grownBy W5 (some w.heap.size)) := Lib.hid (by rw [hW5]; exact hgv)
      rw [← hW5]
      clear hov hgv hW5
      have y0 : W5.cell? ⟨w.heap.size, 0, none⟩ = some (.int .i64 0) := HOV.out.cell 0
      have y1 : W5.cell? ⟨w.heap.size, 1, none⟩ = some (.int .i64 0) := HOV.out.cell 1
      have y2 : W5.cell? ⟨w.heap.size, 2, none⟩ = some (.int .i64 0) := HOV.out.cell 2
      have y3 : W5.cell? ⟨w.heap.size, 3, none⟩ = some (.int .i64 0) := HOV.out.cell 3
      have y4 : W5.cell? ⟨w.heap.size, 4, none⟩ = some (.int .i64 0) := HOV.out.cell 4
      have y5 : W5.cell? ⟨w.heap.size, 5, none⟩ = some (.int .i64 0) := HOV.out.cell 5
      have y6 : W5.cell? ⟨w.heap.size, 6, none⟩ = some (.int .i64 0) := HOV.out.cell 6
      have y7 : W5.cell? ⟨w.heap.size, 7, none⟩ = some (.int .i64 0) := HOV.out.cell 7
      have y8 : W5.cell? ⟨w.heap.size, 8, none⟩ = some (.int .i64 0) := HOV.out.cell 8
      refine bodyPost_ret (v := .tuple #[.agg #[.int .i64 0, .int .i64 0, .int .i64 0, .int .i64 0, .int .i64 0, .int .i64 0, .int .i64 0, .int .i64 0, .int .i64 0], .int .i64 3]) (by simp [results, Tryd.results23, go_sem, y0, y1, y2, y3, y4, y5, y6, y7, y8]) rfl ?_
      rw [HQ3.out]
      exact ⟨rfl, HI5.out.r.kept HGV.out (fun e => by injection e with e; omega), grown_newS HI5.out.gr HGV.out (Nat.le_refl _)⟩
    subst h3
    have HQ3 : Hid (Q = if rightS ⟨1, c, 0⟩ then (⟨1, c, 0⟩, 0, r2) else (zeroS, 3, r2)) := Lib.hid (by rw [HQ2.out, if_pos rfl])
    clear HQ2 hov
    go_wp2_with fail
    rw [← hw5]
    refine (err_any g r2 w5 HI5.out.r).mono ?_
    rintro e we ⟨rfl, hwe⟩
    obtain rfl := hwe.symm
    clear hw5
    have hbe : (r2.e != 0) = false := by simpa using h2
    have q0 : w5.cell? ⟨w.heap.size + 1, 0, none⟩ = some (.int .i64 1) := HI5.out.x.cell 0
    have q1 : w5.cell? ⟨w.heap.size + 1, 1, none⟩ = some (.int .i64 c.k) := HI5.out.x.cell 1
    have q2 : w5.cell? ⟨w.heap.size + 1, 2, none⟩ = some (.int .i64 c.i) := HI5.out.x.cell 2
    have q3 : w5.cell? ⟨w.heap.size + 1, 3, none⟩ = some (.int .i64 c.m) := HI5.out.x.cell 3
    have q4 : w5.cell? ⟨w.heap.size + 1, 4, none⟩ = some (.int .i64 c.o) := HI5.out.x.cell 4
    have q5 : w5.cell? ⟨w.heap.size + 1, 5, none⟩ = some (.int .i64 c.s) := HI5.out.x.cell 5
    have q6 : w5.cell? ⟨w.heap.size + 1, 6, none⟩ = some (.int .i64 c.q) := HI5.out.x.cell 6
    have q7 : w5.cell? ⟨w.heap.size + 1, 7, none⟩ = some (.int .i64 c.p) := HI5.out.x.cell 7
    have q8 : w5.cell? ⟨w.heap.size + 1, 8, none⟩ = some (.int .i64 0) := HI5.out.x.cell 8
    have HSC := Lib.hid (scheck_any ⟨1, c, 0⟩ w5)
    have HES : Hid (errS ⟨1, c, 0⟩ = if rightS ⟨1, c, 0⟩ then 0 else 3) := Lib.hid rfl
    unfold stV stCells at HSC
    simp only at HSC
    cases hrs : rightS ⟨1, c, 0⟩ with
    | true =>
      have he : errS ⟨1, c, 0⟩ = 0 := by rw [HES.out, hrs]; rfl
      rw [he] at HSC
      have HQ2 : Hid (Q = (⟨1, c, 0⟩, 0, r2)) := Lib.hid (by rw [HQ3.out, hrs]; rfl)
      go_wp2_with (first | (go_at_call 22; refine (err_any g r2 w5 HI5.out.r).mono ?_; rintro e we ⟨rfl, hwe⟩; obtain rfl := hwe.symm) | (go_at_call 9; refine HSC.out.mono ?_; rintro e wc ⟨rfl, hbc⟩; have HIC := Lib.hid (HI5.out.below hbc); clear hbc q0 q1 q2 q3 q4 q5 q6 q7 q8; have z0 : wc.cell? ⟨w.heap.size, 0, none⟩ = some (.int .i64 0) := HIC.out.z.cell 0; have z1 : wc.cell? ⟨w.heap.size, 1, none⟩ = some (.int .i64 0) := HIC.out.z.cell 1; have z2 : wc.cell? ⟨w.heap.size, 2, none⟩ = some (.int .i64 0) := HIC.out.z.cell 2; have z3 : wc.cell? ⟨w.heap.size, 3, none⟩ = some (.int .i64 0) := HIC.out.z.cell 3; have z4 : wc.cell? ⟨w.heap.size, 4, none⟩ = some (.int .i64 0) := HIC.out.z.cell 4; have z5 : wc.cell? ⟨w.heap.size, 5, none⟩ = some (.int .i64 0) := HIC.out.z.cell 5; have z6 : wc.cell? ⟨w.heap.size, 6, none⟩ = some (.int .i64 0) := HIC.out.z.cell 6; have z7 : wc.cell? ⟨w.heap.size, 7, none⟩ = some (.int .i64 0) := HIC.out.z.cell 7; have z8 : wc.cell? ⟨w.heap.size, 8, none⟩ = some (.int .i64 0) := HIC.out.z.cell 8; have zf := HIC.out.z.fz; have v0 : wc.cell? ⟨w.heap.size + 1, 0, none⟩ = some (.int .i64 1) := HIC.out.x.cell 0; have v1 : wc.cell? ⟨w.heap.size + 1, 1, none⟩ = some (.int .i64 c.k) := HIC.out.x.cell 1; have v2 : wc.cell? ⟨w.heap.size + 1, 2, none⟩ = some (.int .i64 c.i) := HIC.out.x.cell 2; have v3 : wc.cell? ⟨w.heap.size + 1, 3, none⟩ = some (.int .i64 c.m) := HIC.out.x.cell 3; have v4 : wc.cell? ⟨w.heap.size + 1, 4, none⟩ = some (.int .i64 c.o) := HIC.out.x.cell 4; have v5 : wc.cell? ⟨w.heap.size + 1, 5, none⟩ = some (.int .i64 c.s) := HIC.out.x.cell 5; have v6 : wc.cell? ⟨w.heap.size + 1, 6, none⟩ = some (.int .i64 c.q) := HIC.out.x.cell 6; have v7 : wc.cell? ⟨w.heap.size + 1, 7, none⟩ = some (.int .i64 c.p) := HIC.out.x.cell 7; have v8 : wc.cell? ⟨w.heap.size + 1, 8, none⟩ = some (.int .i64 0) := HIC.out.x.cell 8))
      obtain ⟨hov, hgv⟩ := HIC.out.z.over ⟨1, c, 0⟩
      obtain ⟨W5, hW5⟩ : ∃ W5, W5 = (World.setCell (World.setCell (World.setCell (World.setCell (World.setCell (World.setCell (World.setCell (World.setCell (World.setCell wc ⟨w.heap.size, 0, none⟩ (.int .i64 1)) ⟨w.heap.size, 1, none⟩ (.int .i64 c.k)) ⟨w.heap.size, 2, none⟩ (.int .i64 c.i)) ⟨w.heap.size, 3, none⟩ (.int .i64 c.m)) ⟨w.heap.size, 4, none⟩ (.int .i64 c.o)) ⟨w.heap.size, 5, none⟩ (.int .i64 c.s)) ⟨w.heap.size, 6, none⟩ (.int .i64 c.q)) ⟨w.heap.size, 7, none⟩ (.int .i64 c.p)) ⟨w.heap.size, 8, none⟩ (.int .i64 0)) := ⟨_, rfl⟩
      have HOV : Hid (CsAt W5 w.heap.size (stCells ⟨1, c, 0⟩)) := Lib.hid (by rw [hW5]; exact hov)
      have HGV : Hid (wc.grownBy W5 (some w.heap.size)) := Lib.hid (by rw [hW5]; exact hgv)
      rw [← hW5]
      clear hov hgv hW5
      have y0 : W5.cell? ⟨w.heap.size, 0, none⟩ = some (.int .i64 1) := HOV.out.cell 0
      have y1 : W5.cell? ⟨w.heap.size, 1, none⟩ = some (.int .i64 c.k) := HOV.out.cell 1
      have y2 : W5.cell? ⟨w.heap.size, 2, none⟩ = some (.int .i64 c.i) := HOV.out.cell 2
      have y3 : W5.cell? ⟨w.heap.size, 3, none⟩ = some (.int .i64 c.m) := HOV.out.cell 3
      have y4 : W5.cell? ⟨w.heap.size, 4, none⟩ = some (.int .i64 c.o) := HOV.out.cell 4
      have y5 : W5.cell? ⟨w.heap.size, 5, none⟩ = some (.int .i64 c.s) := HOV.out.cell 5
      have y6 : W5.cell? ⟨w.heap.size, 6, none⟩ = some (.int .i64 c.q) := HOV.out.cell 6
      have y7 : W5.cell? ⟨w.heap.size, 7, none⟩ = some (.int .i64 c.p) := HOV.out.cell 7
      have y8 : W5.cell? ⟨w.heap.size, 8, none⟩ = some (.int .i64 0) := HOV.out.cell 8
      refine bodyPost_ret (v := .tuple #[.agg #[.int .i64 1, .int .i64 c.k, .int .i64 c.i, .int .i64 c.m, .int .i64 c.o, .int .i64 c.s, .int .i64 c.q, .int .i64 c.p, .int .i64 0], .int .i64 0]) (by simp [results, Tryd.results23, go_sem, y0, y1, y2, y3, y4, y5, y6, y7, y8]) rfl ?_
      rw [HQ2.out]
      exact ⟨rfl, HIC.out.r.kept HGV.out (fun e => by injection e with e; omega), grown_newS HIC.out.gr HGV.out (Nat.le_refl _)⟩
    | false =>
      have he : errS ⟨1, c, 0⟩ = 3 := by rw [HES.out, hrs]; rfl
      rw [he] at HSC
      have HQ2 : Hid (Q = (zeroS, 3, r2)) := Lib.hid (by rw [HQ3.out, hrs]; rfl)
      go_wp2_with (first | (go_at_call 22; refine (err_any g r2 w5 HI5.out.r).mono ?_; rintro e we ⟨rfl, hwe⟩; obtain rfl := hwe.symm) | (go_at_call 9; refine HSC.out.mono ?_; rintro e wc ⟨rfl, hbc⟩; have HIC := Lib.hid (HI5.out.below hbc); clear hbc q0 q1 q2 q3 q4 q5 q6 q7 q8; have z0 : wc.cell? ⟨w.heap.size, 0, none⟩ = some (.int .i64 0) := HIC.out.z.cell 0; have z1 : wc.cell? ⟨w.heap.size, 1, none⟩ = some (.int .i64 0) := HIC.out.z.cell 1; have z2 : wc.cell? ⟨w.heap.size, 2, none⟩ = some (.int .i64 0) := HIC.out.z.cell 2; have z3 : wc.cell? ⟨w.heap.size, 3, none⟩ = some (.int .i64 0) := HIC.out.z.cell 3; have z4 : wc.cell? ⟨w.heap.size, 4, none⟩ = some (.int .i64 0) := HIC.out.z.cell 4; have z5 : wc.cell? ⟨w.heap.size, 5, none⟩ = some (.int .i64 0) := HIC.out.z.cell 5; have z6 : wc.cell? ⟨w.heap.size, 6, none⟩ = some (.int .i64 0) := HIC.out.z.cell 6; have z7 : wc.cell? ⟨w.heap.size, 7, none⟩ = some (.int .i64 0) := HIC.out.z.cell 7; have z8 : wc.cell? ⟨w.heap.size, 8, none⟩ = some (.int .i64 0) := HIC.out.z.cell 8; have zf := HIC.out.z.fz))
      obtain ⟨hov, hgv⟩ := HIC.out.z.over zeroS
      obtain ⟨W5, hW5⟩ : ∃ W5, W5 = (World.setCell (World.setCell (World.setCell (World.setCell (World.setCell (World.setCell (World.setCell (World.setCell (World.setCell wc ⟨w.heap.size, 0, none⟩ (.int .i64 0)) ⟨w.heap.size, 1, none⟩ (.int .i64 0)) ⟨w.heap.size, 2, none⟩ (.int .i64 0)) ⟨w.heap.size, 3, none⟩ (.int .i64 0)) ⟨w.heap.size, 4, none⟩ (.int .i64 0)) ⟨w.heap.size, 5, none⟩ (.int .i64 0)) ⟨w.heap.size, 6, none⟩ (.int .i64 0)) ⟨w.heap.size, 7, none⟩ (.int .i64 0)) ⟨w.heap.size, 8, none⟩ (.int .i64 0)) := ⟨_, rfl⟩
      have HOV : Hid (CsAt W5 w.heap.size (stCells zeroS)) := Lib.hid (by rw [hW5]; exact hov)
      have HGV : Hid (wc.grownBy W5 (some w.heap.size)) := Lib.hid (by rw [hW5]; exact hgv)
      rw [← hW5]
      clear hov hgv hW5
      have y0 : W5.cell? ⟨w.heap.size, 0, none⟩ = some (.int .i64 0) := HOV.out.cell 0
      have y1 : W5.cell? ⟨w.heap.size, 1, none⟩ = some (.int .i64 0) := HOV.out.cell 1
      have y2 : W5.cell? ⟨w.heap.size, 2, none⟩ = some (.int .i64 0) := HOV.out.cell 2
      have y3 : W5.cell? ⟨w.heap.size, 3, none⟩ = some (.int .i64 0) := HOV.out.cell 3
      have y4 : W5.cell? ⟨w.heap.size, 4, none⟩ = some (.int .i64 0) := HOV.out.cell 4
      have y5 : W5.cell? ⟨w.heap.size, 5, none⟩ = some (.int .i64 0) := HOV.out.cell 5
      have y6 : W5.cell? ⟨w.heap.size, 6, none⟩ = some (.int .i64 0) := HOV.out.cell 6
      have y7 : W5.cell? ⟨w.heap.size, 7, none⟩ = some (.int .i64 0) := HOV.out.cell 7
      have y8 : W5.cell? ⟨w.heap.size, 8, none⟩ = some (.int .i64 0) := HOV.out.cell 8
      refine bodyPost_ret (v := .tuple #[.agg #[.int .i64 0, .int .i64 0, .int .i64 0, .int .i64 0, .int .i64 0, .int .i64 0, .int .i64 0, .int .i64 0, .int .i64 0], .int .i64 3]) (by simp [results, Tryd.results23, go_sem, y0, y1, y2, y3, y4, y5, y6, y7, y8]) rfl ?_
      rw [HQ2.out]
      exact ⟨rfl, HIC.out.r.kept HGV.out (fun e => by injection e with e; omega), grown_newS HIC.out.gr HGV.out (Nat.le_refl _)⟩
  · have HNM := Lib.hid (num_any g r1 w2 HI2.out.r)
    have HQ1 : Hid (Q = if (rNum r1).2.e = 0 then (if rightS ⟨2, zeroC, (rNum r1).1⟩ then (⟨2, zeroC, (rNum r1).1⟩, 0, (rNum r1).2) else (zeroS, 3, (rNum r1).2)) else (zeroS, (rNum r1).2.e, (rNum r1).2)) := Lib.hid (HQN.out 1 h1 rfl (by omega))
    generalize rNum r1 = NM at *
    obtain ⟨n, r2⟩ := NM
    simp only at HNM HQ1
    go_wp2_with (go_at_call 41; refine HNM.out.mono ?_)
    rintro e w3 ⟨rfl, hr3, hg3⟩
    have HI3 : Hid (RsI w g r2 ⟨1, zeroC, 0⟩ w3) := Lib.hid (HI2.out.read hg3 hr3 hlt)
    clear hr3 hg3 HNM HI2 HQA HQT HQN HUI HUO
    have q0 : w3.cell? ⟨w.heap.size + 1, 0, none⟩ = some (.int .i64 1) := HI3.out.x.cell 0
    have q1 : w3.cell? ⟨w.heap.size + 1, 1, none⟩ = some (.int .i64 0) := HI3.out.x.cell 1
    have q2 : w3.cell? ⟨w.heap.size + 1, 2, none⟩ = some (.int .i64 0) := HI3.out.x.cell 2
    have q3 : w3.cell? ⟨w.heap.size + 1, 3, none⟩ = some (.int .i64 0) := HI3.out.x.cell 3
    have q4 : w3.cell? ⟨w.heap.size + 1, 4, none⟩ = some (.int .i64 0) := HI3.out.x.cell 4
    have q5 : w3.cell? ⟨w.heap.size + 1, 5, none⟩ = some (.int .i64 0) := HI3.out.x.cell 5
    have q6 : w3.cell? ⟨w.heap.size + 1, 6, none⟩ = some (.int .i64 0) := HI3.out.x.cell 6
    have q7 : w3.cell? ⟨w.heap.size + 1, 7, none⟩ = some (.int .i64 0) := HI3.out.x.cell 7
    have q8 : w3.cell? ⟨w.heap.size + 1, 8, none⟩ = some (.int .i64 0) := HI3.out.x.cell 8
    have qf := HI3.out.x.fz
    have hov := HI3.out.x.overN 2 n
    obtain ⟨w5, hw5⟩ : ∃ w5, w5 = ((w3.setCell ⟨w.heap.size + 1, 0, none⟩ (.int .i64 2)).setCell ⟨w.heap.size + 1, 8, none⟩ (.int .i64 n)) := ⟨_, rfl⟩
    rw [← hw5] at hov
    have HI5 : Hid (RsI w g r2 ⟨2, zeroC, n⟩ w5) := Lib.hid (HI3.out.setx hov.2 hov.1 hlt)
    clear hov
    go_wp2_with fail
    rw [← hw5]
    refine (err_any g r2 w5 HI5.out.r).mono ?_
    rintro e we ⟨rfl, hwe⟩
    obtain rfl := hwe.symm
    clear hw5
    clear q0 q1 q2 q3 q4 q5 q6 q7 q8 qf
    by_cases h2 : r2.e = 0
    case neg =>
      have HQ2 : Hid (Q = (zeroS, r2.e, r2)) := Lib.hid (by rw [HQ1.out, if_neg h2])
      clear HQ1
      have hbe : (r2.e != 0) = true := by simpa using h2
      have hbf : (r2.e == 0) = false := by simpa using h2
      have z0 : w5.cell? ⟨w.heap.size, 0, none⟩ = some (.int .i64 0) := HI5.out.z.cell 0
      have z1 : w5.cell? ⟨w.heap.size, 1, none⟩ = some (.int .i64 0) := HI5.out.z.cell 1
      have z2 : w5.cell? ⟨w.heap.size, 2, none⟩ = some (.int .i64 0) := HI5.out.z.cell 2
      have z3 : w5.cell? ⟨w.heap.size, 3, none⟩ = some (.int .i64 0) := HI5.out.z.cell 3
      have z4 : w5.cell? ⟨w.heap.size, 4, none⟩ = some (.int .i64 0) := HI5.out.z.cell 4
      have z5 : w5.cell? ⟨w.heap.size, 5, none⟩ = some (.int .i64 0) := HI5.out.z.cell 5
      have z6 : w5.cell? ⟨w.heap.size, 6, none⟩ = some (.int .i64 0) := HI5.out.z.cell 6
      have z7 : w5.cell? ⟨w.heap.size, 7, none⟩ = some (.int .i64 0) := HI5.out.z.cell 7
      have z8 : w5.cell? ⟨w.heap.size, 8, none⟩ = some (.int .i64 0) := HI5.out.z.cell 8
      have zf := HI5.out.z.fz
      go_wp2_with ((go_at_call 22; refine (err_any g r2 w5 HI5.out.r).mono ?_; rintro e we ⟨rfl, hwe⟩; obtain rfl := hwe.symm))
      obtain ⟨hov, hgv⟩ := HI5.out.z.over zeroS
      obtain ⟨W5, hW5⟩ : ∃ W5, W5 = (World.setCell (World.setCell (World.setCell (World.setCell (World.setCell (World.setCell (World.setCell (World.setCell (World.setCell w5 ⟨w.heap.size, 0, none⟩ (.int .i64 0)) ⟨w.heap.size, 1, none⟩ (.int .i64 0)) ⟨w.heap.size, 2, none⟩ (.int .i64 0)) ⟨w.heap.size, 3, none⟩ (.int .i64 0)) ⟨w.heap.size, 4, none⟩ (.int .i64 0)) ⟨w.heap.size, 5, none⟩ (.int .i64 0)) ⟨w.heap.size, 6, none⟩ (.int .i64 0)) ⟨w.heap.size, 7, none⟩ (.int .i64 0)) ⟨w.heap.size, 8, none⟩ (.int .i64 0)) := ⟨_, rfl⟩
      have HOV : Hid (CsAt W5 w.heap.size (stCells zeroS)) := Lib.hid (by rw [hW5]; exact hov)
      have HGV : Hid (w5.grownBy W5 (some w.heap.size)) := Lib.hid (by rw [hW5]; exact hgv)
      rw [← hW5]
      clear hov hgv hW5
      have y0 : W5.cell? ⟨w.heap.size, 0, none⟩ = some (.int .i64 0) := HOV.out.cell 0
      have y1 : W5.cell? ⟨w.heap.size, 1, none⟩ = some (.int .i64 0) := HOV.out.cell 1
      have y2 : W5.cell? ⟨w.heap.size, 2, none⟩ = some (.int .i64 0) := HOV.out.cell 2
      have y3 : W5.cell? ⟨w.heap.size, 3, none⟩ = some (.int .i64 0) := HOV.out.cell 3
      have y4 : W5.cell? ⟨w.heap.size, 4, none⟩ = some (.int .i64 0) := HOV.out.cell 4
      have y5 : W5.cell? ⟨w.heap.size, 5, none⟩ = some (.int .i64 0) := HOV.out.cell 5
      have y6 : W5.cell? ⟨w.heap.size, 6, none⟩ = some (.int .i64 0) := HOV.out.cell 6
      have y7 : W5.cell? ⟨w.heap.size, 7, none⟩ = some (.int .i64 0) := HOV.out.cell 7
      have y8 : W5.cell? ⟨w.heap.size, 8, none⟩ = some (.int .i64 0) := HOV.out.cell 8
      refine bodyPost_ret (v := .tuple #[.agg #[.int .i64 0, .int .i64 0, .int .i64 0, .int .i64 0, .int .i64 0, .int .i64 0, .int .i64 0, .int .i64 0, .int .i64 0], .int .i64 r2.e]) (by simp [results, Tryd.results23, go_sem, y0, y1, y2, y3, y4, y5, y6, y7, y8]) rfl ?_
      rw [HQ2.out]
      exact ⟨rfl, HI5.out.r.kept HGV.out (fun e => by injection e with e; omega), grown_newS HI5.out.gr HGV.out (Nat.le_refl _)⟩
    have HQ2 : Hid (Q = if rightS ⟨2, zeroC, n⟩ then (⟨2, zeroC, n⟩, 0, r2) else (zeroS, 3, r2)) := Lib.hid (by rw [HQ1.out, if_pos h2])
    clear HQ1
    have hbe : (r2.e != 0) = false := by simpa using h2
    have q0 : w5.cell? ⟨w.heap.size + 1, 0, none⟩ = some (.int .i64 2) := HI5.out.x.cell 0
    have q1 : w5.cell? ⟨w.heap.size + 1, 1, none⟩ = some (.int .i64 0) := HI5.out.x.cell 1
    have q2 : w5.cell? ⟨w.heap.size + 1, 2, none⟩ = some (.int .i64 0) := HI5.out.x.cell 2
    have q3 : w5.cell? ⟨w.heap.size + 1, 3, none⟩ = some (.int .i64 0) := HI5.out.x.cell 3
    have q4 : w5.cell? ⟨w.heap.size + 1, 4, none⟩ = some (.int .i64 0) := HI5.out.x.cell 4
    have q5 : w5.cell? ⟨w.heap.size + 1, 5, none⟩ = some (.int .i64 0) := HI5.out.x.cell 5
    have q6 : w5.cell? ⟨w.heap.size + 1, 6, none⟩ = some (.int .i64 0) := HI5.out.x.cell 6
    have q7 : w5.cell? ⟨w.heap.size + 1, 7, none⟩ = some (.int .i64 0) := HI5.out.x.cell 7
    have q8 : w5.cell? ⟨w.heap.size + 1, 8, none⟩ = some (.int .i64 n) := HI5.out.x.cell 8
    have HSC := Lib.hid (scheck_any ⟨2, zeroC, n⟩ w5)
    have HES : Hid (errS ⟨2, zeroC, n⟩ = if rightS ⟨2, zeroC, n⟩ then 0 else 3) := Lib.hid rfl
    unfold stV stCells at HSC
    simp only at HSC
    cases hrs : rightS ⟨2, zeroC, n⟩ with
    | true =>
      have he : errS ⟨2, zeroC, n⟩ = 0 := by rw [HES.out, hrs]; rfl
      rw [he] at HSC
      have HQ2 : Hid (Q = (⟨2, zeroC, n⟩, 0, r2)) := Lib.hid (by rw [HQ2.out, hrs]; rfl)
      go_wp2_with (first | (go_at_call 22; refine (err_any g r2 w5 HI5.out.r).mono ?_; rintro e we ⟨rfl, hwe⟩; obtain rfl := hwe.symm) | (go_at_call 9; refine HSC.out.mono ?_; rintro e wc ⟨rfl, hbc⟩; have HIC := Lib.hid (HI5.out.below hbc); clear hbc q0 q1 q2 q3 q4 q5 q6 q7 q8; have z0 : wc.cell? ⟨w.heap.size, 0, none⟩ = some (.int .i64 0) := HIC.out.z.cell 0; have z1 : wc.cell? ⟨w.heap.size, 1, none⟩ = some (.int .i64 0) := HIC.out.z.cell 1; have z2 : wc.cell? ⟨w.heap.size, 2, none⟩ = some (.int .i64 0) := HIC.out.z.cell 2; have z3 : wc.cell? ⟨w.heap.size, 3, none⟩ = some (.int .i64 0) := HIC.out.z.cell 3; have z4 : wc.cell? ⟨w.heap.size, 4, none⟩ = some (.int .i64 0) := HIC.out.z.cell 4; have z5 : wc.cell? ⟨w.heap.size, 5, none⟩ = some (.int .i64 0) := HIC.out.z.cell 5; have z6 : wc.cell? ⟨w.heap.size, 6, none⟩ = some (.int .i64 0) := HIC.out.z.cell 6; have z7 : wc.cell? ⟨w.heap.size, 7, none⟩ = some (.int .i64 0) := HIC.out.z.cell 7; have z8 : wc.cell? ⟨w.heap.size, 8, none⟩ = some (.int .i64 0) := HIC.out.z.cell 8; have zf := HIC.out.z.fz; have v0 : wc.cell? ⟨w.heap.size + 1, 0, none⟩ = some (.int .i64 2) := HIC.out.x.cell 0; have v1 : wc.cell? ⟨w.heap.size + 1, 1, none⟩ = some (.int .i64 0) := HIC.out.x.cell 1; have v2 : wc.cell? ⟨w.heap.size + 1, 2, none⟩ = some (.int .i64 0) := HIC.out.x.cell 2; have v3 : wc.cell? ⟨w.heap.size + 1, 3, none⟩ = some (.int .i64 0) := HIC.out.x.cell 3; have v4 : wc.cell? ⟨w.heap.size + 1, 4, none⟩ = some (.int .i64 0) := HIC.out.x.cell 4; have v5 : wc.cell? ⟨w.heap.size + 1, 5, none⟩ = some (.int .i64 0) := HIC.out.x.cell 5; have v6 : wc.cell? ⟨w.heap.size + 1, 6, none⟩ = some (.int .i64 0) := HIC.out.x.cell 6; have v7 : wc.cell? ⟨w.heap.size + 1, 7, none⟩ = some (.int .i64 0) := HIC.out.x.cell 7; have v8 : wc.cell? ⟨w.heap.size + 1, 8, none⟩ = some (.int .i64 n) := HIC.out.x.cell 8))
      obtain ⟨hov, hgv⟩ := HIC.out.z.over ⟨2, zeroC, n⟩
      obtain ⟨W5, hW5⟩ : ∃ W5, W5 = (World.setCell (World.setCell (World.setCell (World.setCell (World.setCell (World.setCell (World.setCell (World.setCell (World.setCell wc ⟨w.heap.size, 0, none⟩ (.int .i64 2)) ⟨w.heap.size, 1, none⟩ (.int .i64 0)) ⟨w.heap.size, 2, none⟩ (.int .i64 0)) ⟨w.heap.size, 3, none⟩ (.int .i64 0)) ⟨w.heap.size, 4, none⟩ (.int .i64 0)) ⟨w.heap.size, 5, none⟩ (.int .i64 0)) ⟨w.heap.size, 6, none⟩ (.int .i64 0)) ⟨w.heap.size, 7, none⟩ (.int .i64 0)) ⟨w.heap.size, 8, none⟩ (.int .i64 n)) := ⟨_, rfl⟩
      have HOV : Hid (CsAt W5 w.heap.size (stCells ⟨2, zeroC, n⟩)) := Lib.hid (by rw [hW5]; exact hov)
      have HGV : Hid (wc.grownBy W5 (some w.heap.size)) := Lib.hid (by rw [hW5]; exact hgv)
      rw [← hW5]
      clear hov hgv hW5
      have y0 : W5.cell? ⟨w.heap.size, 0, none⟩ = some (.int .i64 2) := HOV.out.cell 0
      have y1 : W5.cell? ⟨w.heap.size, 1, none⟩ = some (.int .i64 0) := HOV.out.cell 1
      have y2 : W5.cell? ⟨w.heap.size, 2, none⟩ = some (.int .i64 0) := HOV.out.cell 2
      have y3 : W5.cell? ⟨w.heap.size, 3, none⟩ = some (.int .i64 0) := HOV.out.cell 3
      have y4 : W5.cell? ⟨w.heap.size, 4, none⟩ = some (.int .i64 0) := HOV.out.cell 4
      have y5 : W5.cell? ⟨w.heap.size, 5, none⟩ = some (.int .i64 0) := HOV.out.cell 5
      have y6 : W5.cell? ⟨w.heap.size, 6, none⟩ = some (.int .i64 0) := HOV.out.cell 6
      have y7 : W5.cell? ⟨w.heap.size, 7, none⟩ = some (.int .i64 0) := HOV.out.cell 7
      have y8 : W5.cell? ⟨w.heap.size, 8, none⟩ = some (.int .i64 n) := HOV.out.cell 8
      refine bodyPost_ret (v := .tuple #[.agg #[.int .i64 2, .int .i64 0, .int .i64 0, .int .i64 0, .int .i64 0, .int .i64 0, .int .i64 0, .int .i64 0, .int .i64 n], .int .i64 0]) (by simp [results, Tryd.results23, go_sem, y0, y1, y2, y3, y4, y5, y6, y7, y8]) rfl ?_
      rw [HQ2.out]
      exact ⟨rfl, HIC.out.r.kept HGV.out (fun e => by injection e with e; omega), grown_newS HIC.out.gr HGV.out (Nat.le_refl _)⟩
    | false =>
      have he : errS ⟨2, zeroC, n⟩ = 3 := by rw [HES.out, hrs]; rfl
      rw [he] at HSC
      have HQ2 : Hid (Q = (zeroS, 3, r2)) := Lib.hid (by rw [HQ2.out, hrs]; rfl)
      go_wp2_with (first | (go_at_call 22; refine (err_any g r2 w5 HI5.out.r).mono ?_; rintro e we ⟨rfl, hwe⟩; obtain rfl := hwe.symm) | (go_at_call 9; refine HSC.out.mono ?_; rintro e wc ⟨rfl, hbc⟩; have HIC := Lib.hid (HI5.out.below hbc); clear hbc q0 q1 q2 q3 q4 q5 q6 q7 q8; have z0 : wc.cell? ⟨w.heap.size, 0, none⟩ = some (.int .i64 0) := HIC.out.z.cell 0; have z1 : wc.cell? ⟨w.heap.size, 1, none⟩ = some (.int .i64 0) := HIC.out.z.cell 1; have z2 : wc.cell? ⟨w.heap.size, 2, none⟩ = some (.int .i64 0) := HIC.out.z.cell 2; have z3 : wc.cell? ⟨w.heap.size, 3, none⟩ = some (.int .i64 0) := HIC.out.z.cell 3; have z4 : wc.cell? ⟨w.heap.size, 4, none⟩ = some (.int .i64 0) := HIC.out.z.cell 4; have z5 : wc.cell? ⟨w.heap.size, 5, none⟩ = some (.int .i64 0) := HIC.out.z.cell 5; have z6 : wc.cell? ⟨w.heap.size, 6, none⟩ = some (.int .i64 0) := HIC.out.z.cell 6; have z7 : wc.cell? ⟨w.heap.size, 7, none⟩ = some (.int .i64 0) := HIC.out.z.cell 7; have z8 : wc.cell? ⟨w.heap.size, 8, none⟩ = some (.int .i64 0) := HIC.out.z.cell 8; have zf := HIC.out.z.fz))
      obtain ⟨hov, hgv⟩ := HIC.out.z.over zeroS
      obtain ⟨W5, hW5⟩ : ∃ W5, W5 = (World.setCell (World.setCell (World.setCell (World.setCell (World.setCell (World.setCell (World.setCell (World.setCell (World.setCell wc ⟨w.heap.size, 0, none⟩ (.int .i64 0)) ⟨w.heap.size, 1, none⟩ (.int .i64 0)) ⟨w.heap.size, 2, none⟩ (.int .i64 0)) ⟨w.heap.size, 3, none⟩ (.int .i64 0)) ⟨w.heap.size, 4, none⟩ (.int .i64 0)) ⟨w.heap.size, 5, none⟩ (.int .i64 0)) ⟨w.heap.size, 6, none⟩ (.int .i64 0)) ⟨w.heap.size, 7, none⟩ (.int .i64 0)) ⟨w.heap.size, 8, none⟩ (.int .i64 0)) := ⟨_, rfl⟩
      have HOV : Hid (CsAt W5 w.heap.size (stCells zeroS)) := Lib.hid (by rw [hW5]; exact hov)
      have HGV : Hid (wc.grownBy W5 (some w.heap.size)) := Lib.hid (by rw [hW5]; exact hgv)
      rw [← hW5]
      clear hov hgv hW5
      have y0 : W5.cell? ⟨w.heap.size, 0, none⟩ = some (.int .i64 0) := HOV.out.cell 0
      have y1 : W5.cell? ⟨w.heap.size, 1, none⟩ = some (.int .i64 0) := HOV.out.cell 1
      have y2 : W5.cell? ⟨w.heap.size, 2, none⟩ = some (.int .i64 0) := HOV.out.cell 2
      have y3 : W5.cell? ⟨w.heap.size, 3, none⟩ = some (.int .i64 0) := HOV.out.cell 3
      have y4 : W5.cell? ⟨w.heap.size, 4, none⟩ = some (.int .i64 0) := HOV.out.cell 4
      have y5 : W5.cell? ⟨w.heap.size, 5, none⟩ = some (.int .i64 0) := HOV.out.cell 5
      have y6 : W5.cell? ⟨w.heap.size, 6, none⟩ = some (.int .i64 0) := HOV.out.cell 6
      have y7 : W5.cell? ⟨w.heap.size, 7, none⟩ = some (.int .i64 0) := HOV.out.cell 7
      have y8 : W5.cell? ⟨w.heap.size, 8, none⟩ = some (.int .i64 0) := HOV.out.cell 8
      refine bodyPost_ret (v := .tuple #[.agg #[.int .i64 0, .int .i64 0, .int .i64 0, .int .i64 0, .int .i64 0, .int .i64 0, .int .i64 0, .int .i64 0, .int .i64 0], .int .i64 3]) (by simp [results, Tryd.results23, go_sem, y0, y1, y2, y3, y4, y5, y6, y7, y8]) rfl ?_
      rw [HQ2.out]
      exact ⟨rfl, HIC.out.r.kept HGV.out (fun e => by injection e with e; omega), grown_newS HIC.out.gr HGV.out (Nat.le_refl _)⟩
  · have HNM := Lib.hid (num_any g r1 w2 HI2.out.r)
    have HQ1 : Hid (Q = if (rNum r1).2.e = 0 then (if rightS ⟨3, zeroC, (rNum r1).1⟩ then (⟨3, zeroC, (rNum r1).1⟩, 0, (rNum r1).2) else (zeroS, 3, (rNum r1).2)) else (zeroS, (rNum r1).2.e, (rNum r1).2)) := Lib.hid (HQN.out 2 h1 rfl (by omega))
    generalize rNum r1 = NM at *
    obtain ⟨n, r2⟩ := NM
    simp only at HNM HQ1
    go_wp2_with (go_at_call 41; refine HNM.out.mono ?_)
    rintro e w3 ⟨rfl, hr3, hg3⟩
    have HI3 : Hid (RsI w g r2 ⟨1, zeroC, 0⟩ w3) := Lib.hid (HI2.out.read hg3 hr3 hlt)
    clear hr3 hg3 HNM HI2 HQA HQT HQN HUI HUO
    have q0 : w3.cell? ⟨w.heap.size + 1, 0, none⟩ = some (.int .i64 1) := HI3.out.x.cell 0
    have q1 : w3.cell? ⟨w.heap.size + 1, 1, none⟩ = some (.int .i64 0) := HI3.out.x.cell 1
    have q2 : w3.cell? ⟨w.heap.size + 1, 2, none⟩ = some (.int .i64 0) := HI3.out.x.cell 2
    have q3 : w3.cell? ⟨w.heap.size + 1, 3, none⟩ = some (.int .i64 0) := HI3.out.x.cell 3
    have q4 : w3.cell? ⟨w.heap.size + 1, 4, none⟩ = some (.int .i64 0) := HI3.out.x.cell 4
    have q5 : w3.cell? ⟨w.heap.size + 1, 5, none⟩ = some (.int .i64 0) := HI3.out.x.cell 5
    have q6 : w3.cell? ⟨w.heap.size + 1, 6, none⟩ = some (.int .i64 0) := HI3.out.x.cell 6
    have q7 : w3.cell? ⟨w.heap.size + 1, 7, none⟩ = some (.int .i64 0) := HI3.out.x.cell 7
    have q8 : w3.cell? ⟨w.heap.size + 1, 8, none⟩ = some (.int .i64 0) := HI3.out.x.cell 8
    have qf := HI3.out.x.fz
    have hov := HI3.out.x.overN 3 n
    obtain ⟨w5, hw5⟩ : ∃ w5, w5 = ((w3.setCell ⟨w.heap.size + 1, 0, none⟩ (.int .i64 3)).setCell ⟨w.heap.size + 1, 8, none⟩ (.int .i64 n)) := ⟨_, rfl⟩
    rw [← hw5] at hov
    have HI5 : Hid (RsI w g r2 ⟨3, zeroC, n⟩ w5) := Lib.hid (HI3.out.setx hov.2 hov.1 hlt)
    clear hov
    go_wp2_with fail
    rw [← hw5]
    refine (err_any g r2 w5 HI5.out.r).mono ?_
    rintro e we ⟨rfl, hwe⟩
    obtain rfl := hwe.symm
    clear hw5
    clear q0 q1 q2 q3 q4 q5 q6 q7 q8 qf
    by_cases h2 : r2.e = 0
    case neg =>
      have HQ2 : Hid (Q = (zeroS, r2.e, r2)) := Lib.hid (by rw [HQ1.out, if_neg h2])
      clear HQ1
      have hbe : (r2.e != 0) = true := by simpa using h2
      have hbf : (r2.e == 0) = false := by simpa using h2
      have z0 : w5.cell? ⟨w.heap.size, 0, none⟩ = some (.int .i64 0) := HI5.out.z.cell 0
      have z1 : w5.cell? ⟨w.heap.size, 1, none⟩ = some (.int .i64 0) := HI5.out.z.cell 1
      have z2 : w5.cell? ⟨w.heap.size, 2, none⟩ = some (.int .i64 0) := HI5.out.z.cell 2
      have z3 : w5.cell? ⟨w.heap.size, 3, none⟩ = some (.int .i64 0) := HI5.out.z.cell 3
      have z4 : w5.cell? ⟨w.heap.size, 4, none⟩ = some (.int .i64 0) := HI5.out.z.cell 4
      have z5 : w5.cell? ⟨w.heap.size, 5, none⟩ = some (.int .i64 0) := HI5.out.z.cell 5
      have z6 : w5.cell? ⟨w.heap.size, 6, none⟩ = some (.int .i64 0) := HI5.out.z.cell 6
      have z7 : w5.cell? ⟨w.heap.size, 7, none⟩ = some (.int .i64 0) := HI5.out.z.cell 7
      have z8 : w5.cell? ⟨w.heap.size, 8, none⟩ = some (.int .i64 0) := HI5.out.z.cell 8
      have zf := HI5.out.z.fz
      go_wp2_with ((go_at_call 22; refine (err_any g r2 w5 HI5.out.r).mono ?_; rintro e we ⟨rfl, hwe⟩; obtain rfl := hwe.symm))
      obtain ⟨hov, hgv⟩ := HI5.out.z.over zeroS
      obtain ⟨W5, hW5⟩ : ∃ W5, W5 = (World.setCell (World.setCell (World.setCell (World.setCell (World.setCell (World.setCell (World.setCell (World.setCell (World.setCell w5 ⟨w.heap.size, 0, none⟩ (.int .i64 0)) ⟨w.heap.size, 1, none⟩ (.int .i64 0)) ⟨w.heap.size, 2, none⟩ (.int .i64 0)) ⟨w.heap.size, 3, none⟩ (.int .i64 0)) ⟨w.heap.size, 4, none⟩ (.int .i64 0)) ⟨w.heap.size, 5, none⟩ (.int .i64 0)) ⟨w.heap.size, 6, none⟩ (.int .i64 0)) ⟨w.heap.size, 7, none⟩ (.int .i64 0)) ⟨w.heap.size, 8, none⟩ (.int .i64 0)) := ⟨_, rfl⟩
      have HOV : Hid (CsAt W5 w.heap.size (stCells zeroS)) := Lib.hid (by rw [hW5]; exact hov)
      have HGV : Hid (w5.grownBy W5 (some w.heap.size)) := Lib.hid (by rw [hW5]; exact hgv)
      rw [← hW5]
      clear hov hgv hW5
      have y0 : W5.cell? ⟨w.heap.size, 0, none⟩ = some (.int .i64 0) := HOV.out.cell 0
      have y1 : W5.cell? ⟨w.heap.size, 1, none⟩ = some (.int .i64 0) := HOV.out.cell 1
      have y2 : W5.cell? ⟨w.heap.size, 2, none⟩ = some (.int .i64 0) := HOV.out.cell 2
      have y3 : W5.cell? ⟨w.heap.size, 3, none⟩ = some (.int .i64 0) := HOV.out.cell 3
      have y4 : W5.cell? ⟨w.heap.size, 4, none⟩ = some (.int .i64 0) := HOV.out.cell 4
      have y5 : W5.cell? ⟨w.heap.size, 5, none⟩ = some (.int .i64 0) := HOV.out.cell 5
      have y6 : W5.cell? ⟨w.heap.size, 6, none⟩ = some (.int .i64 0) := HOV.out.cell 6
      have y7 : W5.cell? ⟨w.heap.size, 7, none⟩ = some (.int .i64 0) := HOV.out.cell 7
      have y8 : W5.cell? ⟨w.heap.size, 8, none⟩ = some (.int .i64 0) := HOV.out.cell 8
      refine bodyPost_ret (v := .tuple #[.agg #[.int .i64 0, .int .i64 0, .int .i64 0, .int .i64 0, .int .i64 0, .int .i64 0, .int .i64 0, .int .i64 0, .int .i64 0], .int .i64 r2.e]) (by simp [results, Tryd.results23, go_sem, y0, y1, y2, y3, y4, y5, y6, y7, y8]) rfl ?_
      rw [HQ2.out]
      exact ⟨rfl, HI5.out.r.kept HGV.out (fun e => by injection e with e; omega), grown_newS HI5.out.gr HGV.out (Nat.le_refl _)⟩
    have HQ2 : Hid (Q = if rightS ⟨3, zeroC, n⟩ then (⟨3, zeroC, n⟩, 0, r2) else (zeroS, 3, r2)) := Lib.hid (by rw [HQ1.out, if_pos h2])
    clear HQ1
    have hbe : (r2.e != 0) = false := by simpa using h2
    have q0 : w5.cell? ⟨w.heap.size + 1, 0, none⟩ = some (.int .i64 3) := HI5.out.x.cell 0
    have q1 : w5.cell? ⟨w.heap.size + 1, 1, none⟩ = some (.int .i64 0) := HI5.out.x.cell 1
    have q2 : w5.cell? ⟨w.heap.size + 1, 2, none⟩ = some (.int .i64 0) := HI5.out.x.cell 2
    have q3 : w5.cell? ⟨w.heap.size + 1, 3, none⟩ = some (.int .i64 0) := HI5.out.x.cell 3
    have q4 : w5.cell? ⟨w.heap.size + 1, 4, none⟩ = some (.int .i64 0) := HI5.out.x.cell 4
    have q5 : w5.cell? ⟨w.heap.size + 1, 5, none⟩ = some (.int .i64 0) := HI5.out.x.cell 5
    have q6 : w5.cell? ⟨w.heap.size + 1, 6, none⟩ = some (.int .i64 0) := HI5.out.x.cell 6
    have q7 : w5.cell? ⟨w.heap.size + 1, 7, none⟩ = some (.int .i64 0) := HI5.out.x.cell 7
    have q8 : w5.cell? ⟨w.heap.size + 1, 8, none⟩ = some (.int .i64 n) := HI5.out.x.cell 8
    have HSC := Lib.hid (scheck_any ⟨3, zeroC, n⟩ w5)
    have HES : Hid (errS ⟨3, zeroC, n⟩ = if rightS ⟨3, zeroC, n⟩ then 0 else 3) := Lib.hid rfl
    unfold stV stCells at HSC
    simp only at HSC
    cases hrs : rightS ⟨3, zeroC, n⟩ with
    | true =>
      have he : errS ⟨3, zeroC, n⟩ = 0 := by rw [HES.out, hrs]; rfl
      rw [he] at HSC
      have HQ2 : Hid (Q = (⟨3, zeroC, n⟩, 0, r2)) := Lib.hid (by rw [HQ2.out, hrs]; rfl)
      go_wp2_with (first | (go_at_call 22; refine (err_any g r2 w5 HI5.out.r).mono ?_; rintro e we ⟨rfl, hwe⟩; obtain rfl := hwe.symm) | (go_at_call 9; refine HSC.out.mono ?_; rintro e wc ⟨rfl, hbc⟩; have HIC := Lib.hid (HI5.out.below hbc); clear hbc q0 q1 q2 q3 q4 q5 q6 q7 q8; have z0 : wc.cell? ⟨w.heap.size, 0, none⟩ = some (.int .i64 0) := HIC.out.z.cell 0; have z1 : wc.cell? ⟨w.heap.size, 1, none⟩ = some (.int .i64 0) := HIC.out.z.cell 1; have z2 : wc.cell? ⟨w.heap.size, 2, none⟩ = some (.int .i64 0) := HIC.out.z.cell 2; have z3 : wc.cell? ⟨w.heap.size, 3, none⟩ = some (.int .i64 0) := HIC.out.z.cell 3; have z4 : wc.cell? ⟨w.heap.size, 4, none⟩ = some (.int .i64 0) := HIC.out.z.cell 4; have z5 : wc.cell? ⟨w.heap.size, 5, none⟩ = some (.int .i64 0) := HIC.out.z.cell 5; have z6 : wc.cell? ⟨w.heap.size, 6, none⟩ = some (.int .i64 0) := HIC.out.z.cell 6; have z7 : wc.cell? ⟨w.heap.size, 7, none⟩ = some (.int .i64 0) := HIC.out.z.cell 7; have z8 : wc.cell? ⟨w.heap.size, 8, none⟩ = some (.int .i64 0) := HIC.out.z.cell 8; have zf := HIC.out.z.fz; have v0 : wc.cell? ⟨w.heap.size + 1, 0, none⟩ = some (.int .i64 3) := HIC.out.x.cell 0; have v1 : wc.cell? ⟨w.heap.size + 1, 1, none⟩ = some (.int .i64 0) := HIC.out.x.cell 1; have v2 : wc.cell? ⟨w.heap.size + 1, 2, none⟩ = some (.int .i64 0) := HIC.out.x.cell 2; have v3 : wc.cell? ⟨w.heap.size + 1, 3, none⟩ = some (.int .i64 0) := HIC.out.x.cell 3; have v4 : wc.cell? ⟨w.heap.size + 1, 4, none⟩ = some (.int .i64 0) := HIC.out.x.cell 4; have v5 : wc.cell? ⟨w.heap.size + 1, 5, none⟩ = some (.int .i64 0) := HIC.out.x.cell 5; have v6 : wc.cell? ⟨w.heap.size + 1, 6, none⟩ = some (.int .i64 0) := HIC.out.x.cell 6; have v7 : wc.cell? ⟨w.heap.size + 1, 7, none⟩ = some (.int .i64 0) := HIC.out.x.cell 7; have v8 : wc.cell? ⟨w.heap.size + 1, 8, none⟩ = some (.int .i64 n) := HIC.out.x.cell 8))
      obtain ⟨hov, hgv⟩ := HIC.out.z.over ⟨3, zeroC, n⟩
      obtain ⟨W5, hW5⟩ : ∃ W5, W5 = (World.setCell (World.setCell (World.setCell (World.setCell (World.setCell (World.setCell (World.setCell (World.setCell (World.setCell wc ⟨w.heap.size, 0, none⟩ (.int .i64 3)) ⟨w.heap.size, 1, none⟩ (.int .i64 0)) ⟨w.heap.size, 2, none⟩ (.int .i64 0)) ⟨w.heap.size, 3, none⟩ (.int .i64 0)) ⟨w.heap.size, 4, none⟩ (.int .i64 0)) ⟨w.heap.size, 5, none⟩ (.int .i64 0)) ⟨w.heap.size, 6, none⟩ (.int .i64 0)) ⟨w.heap.size, 7, none⟩ (.int .i64 0)) ⟨w.heap.size, 8, none⟩ (.int .i64 n)) := ⟨_, rfl⟩
      have HOV : Hid (CsAt W5 w.heap.size (stCells ⟨3, zeroC, n⟩)) := Lib.hid (by rw [hW5]; exact hov)
      have HGV : Hid (wc.grownBy W5 (some w.heap.size)) := Lib.hid (by rw [hW5]; exact hgv)
      rw [← hW5]
      clear hov hgv hW5
      have y0 : W5.cell? ⟨w.heap.size, 0, none⟩ = some (.int .i64 3) := HOV.out.cell 0
      have y1 : W5.cell? ⟨w.heap.size, 1, none⟩ = some (.int .i64 0) := HOV.out.cell 1
      have y2 : W5.cell? ⟨w.heap.size, 2, none⟩ = some (.int .i64 0) := HOV.out.cell 2
      have y3 : W5.cell? ⟨w.heap.size, 3, none⟩ = some (.int .i64 0) := HOV.out.cell 3
      have y4 : W5.cell? ⟨w.heap.size, 4, none⟩ = some (.int .i64 0) := HOV.out.cell 4
      have y5 : W5.cell? ⟨w.heap.size, 5, none⟩ = some (.int .i64 0) := HOV.out.cell 5
      have y6 : W5.cell? ⟨w.heap.size, 6, none⟩ = some (.int .i64 0) := HOV.out.cell 6
      have y7 : W5.cell? ⟨w.heap.size, 7, none⟩ = some (.int .i64 0) := HOV.out.cell 7
      have y8 : W5.cell? ⟨w.heap.size, 8, none⟩ = some (.int .i64 n) := HOV.out.cell 8
      refine bodyPost_ret (v := .tuple #[.agg #[.int .i64 3, .int .i64 0, .int .i64 0, .int .i64 0, .int .i64 0, .int .i64 0, .int .i64 0, .int .i64 0, .int .i64 n], .int .i64 0]) (by simp [results, Tryd.results23, go_sem, y0, y1, y2, y3, y4, y5, y6, y7, y8]) rfl ?_
      rw [HQ2.out]
      exact ⟨rfl, HIC.out.r.kept HGV.out (fun e => by injection e with e; omega), grown_newS HIC.out.gr HGV.out (Nat.le_refl _)⟩
    | false =>
      have he : errS ⟨3, zeroC, n⟩ = 3 := by rw [HES.out, hrs]; rfl
      rw [he] at HSC
      have HQ2 : Hid (Q = (zeroS, 3, r2)) := Lib.hid (by rw [HQ2.out, hrs]; rfl)
      go_wp2_with (first | (go_at_call 22; refine (err_any g r2 w5 HI5.out.r).mono ?_; rintro e we ⟨rfl, hwe⟩; obtain rfl := hwe.symm) | (go_at_call 9; refine HSC.out.mono ?_; rintro e wc ⟨rfl, hbc⟩; have HIC := Lib.hid (HI5.out.below hbc); clear hbc q0 q1 q2 q3 q4 q5 q6 q7 q8; have z0 : wc.cell? ⟨w.heap.size, 0, none⟩ = some (.int .i64 0) := HIC.out.z.cell 0; have z1 : wc.cell? ⟨w.heap.size, 1, none⟩ = some (.int .i64 0) := HIC.out.z.cell 1; have z2 : wc.cell? ⟨w.heap.size, 2, none⟩ = some (.int .i64 0) := HIC.out.z.cell 2; have z3 : wc.cell? ⟨w.heap.size, 3, none⟩ = some (.int .i64 0) := HIC.out.z.cell 3; have z4 : wc.cell? ⟨w.heap.size, 4, none⟩ = some (.int .i64 0) := HIC.out.z.cell 4; have z5 : wc.cell? ⟨w.heap.size, 5, none⟩ = some (.int .i64 0) := HIC.out.z.cell 5; have z6 : wc.cell? ⟨w.heap.size, 6, none⟩ = some (.int .i64 0) := HIC.out.z.cell 6; have z7 : wc.cell? ⟨w.heap.size, 7, none⟩ = some (.int .i64 0) := HIC.out.z.cell 7; have z8 : wc.cell? ⟨w.heap.size, 8, none⟩ = some (.int .i64 0) := HIC.out.z.cell 8; have zf := HIC.out.z.fz))
      obtain ⟨hov, hgv⟩ := HIC.out.z.over zeroS
      obtain ⟨W5, hW5⟩ : ∃ W5, W5 = (World.setCell (World.setCell (World.setCell (World.setCell (World.setCell (World.setCell (World.setCell (World.setCell (World.setCell wc ⟨w.heap.size, 0, none⟩ (.int .i64 0)) ⟨w.heap.size, 1, none⟩ (.int .i64 0)) ⟨w.heap.size, 2, none⟩ (.int .i64 0)) ⟨w.heap.size, 3, none⟩ (.int .i64 0)) ⟨w.heap.size, 4, none⟩ (.int .i64 0)) ⟨w.heap.size, 5, none⟩ (.int .i64 0)) ⟨w.heap.size, 6, none⟩ (.int .i64 0)) ⟨w.heap.size, 7, none⟩ (.int .i64 0)) ⟨w.heap.size, 8, none⟩ (.int .i64 0)) := ⟨_, rfl⟩
      have HOV : Hid (CsAt W5 w.heap.size (stCells zeroS)) := Lib.hid (by rw [hW5]; exact hov)
      have HGV : Hid (wc.grownBy W5 (some w.heap.size)) := Lib.hid (by rw [hW5]; exact hgv)
      rw [← hW5]
      clear hov hgv hW5
      have y0 : W5.cell? ⟨w.heap.size, 0, none⟩ = some (.int .i64 0) := HOV.out.cell 0
      have y1 : W5.cell? ⟨w.heap.size, 1, none⟩ = some (.int .i64 0) := HOV.out.cell 1
      have y2 : W5.cell? ⟨w.heap.size, 2, none⟩ = some (.int .i64 0) := HOV.out.cell 2
      have y3 : W5.cell? ⟨w.heap.size, 3, none⟩ = some (.int .i64 0) := HOV.out.cell 3
      have y4 : W5.cell? ⟨w.heap.size, 4, none⟩ = some (.int .i64 0) := HOV.out.cell 4
      have y5 : W5.cell? ⟨w.heap.size, 5, none⟩ = some (.int .i64 0) := HOV.out.cell 5
      have y6 : W5.cell? ⟨w.heap.size, 6, none⟩ = some (.int .i64 0) := HOV.out.cell 6
      have y7 : W5.cell? ⟨w.heap.size, 7, none⟩ = some (.int .i64 0) := HOV.out.cell 7
      have y8 : W5.cell? ⟨w.heap.size, 8, none⟩ = some (.int .i64 0) := HOV.out.cell 8
      refine bodyPost_ret (v := .tuple #[.agg #[.int .i64 0, .int .i64 0, .int .i64 0, .int .i64 0, .int .i64 0, .int .i64 0, .int .i64 0, .int .i64 0, .int .i64 0], .int .i64 3]) (by simp [results, Tryd.results23, go_sem, y0, y1, y2, y3, y4, y5, y6, y7, y8]) rfl ?_
      rw [HQ2.out]
      exact ⟨rfl, HIC.out.r.kept HGV.out (fun e => by injection e with e; omega), grown_newS HIC.out.gr HGV.out (Nat.le_refl _)⟩
end Go.Proofs.YtmplokdbbhlomaaDoor
