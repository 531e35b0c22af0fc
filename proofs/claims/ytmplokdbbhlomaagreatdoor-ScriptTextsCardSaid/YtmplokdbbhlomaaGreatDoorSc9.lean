/-
  What codec.read comes to, over this seat's translation: a contract for callers.
-/
import Derived.Test.YtmplokdbbhlomaaGreatDoorScC
import Derived.Deep.RegionHeld3
import Derived.Deep.CutRange
import Derived.Deep.DeepMust
namespace Go.Proofs.YtmplokdbbhlomaaGreatDoor
open Go.RowKit

abbrev TC : TypeId := 23
def cmCells (c : Cm) : Array Value := #[.int .i64 c.k, .int .i64 c.i, .int .i64 c.m, .int .i64 c.o, .int .i64 c.s, .int .i64 c.q, .int .i64 c.p]
/-- A command in memory. -/
structure CmAt (w : World) (b : Nat) (c : Cm) : Prop where
  cell : ∀ j, w.cell? ⟨b, j, none⟩ = (cmCells c)[j]?
  fz : ∀ j, w.frozen? ⟨b, j, none⟩ = false
theorem CmAt.lt {w : World} {b : Nat} {c : Cm} (h : CmAt w b c) : b < w.heap.size := World.block_lt_of_cell? w _ (h.cell 0)
theorem CmAt.kept {w w' : World} {b : Nat} {c : Cm} (h : CmAt w b c) {row : Option Nat} (hg : w.grownBy w' row) (hne : some b ≠ row) : CmAt w' b c := by
  have hb := hg.block b h.lt hne
  refine ⟨fun j => (World.cell?_of_block (a := ⟨b, j, none⟩) hb).trans (h.cell j), fun j => ?_⟩
  have : w'.frozen? ⟨b, j, none⟩ = w.frozen? ⟨b, j, none⟩ := by unfold World.frozen?; rw [hb]
  rw [this]
  exact h.fz j
theorem CmAt.below {w w' : World} {b : Nat} {c : Cm} (h : CmAt w b c) (hb : Below w.heap.size w w') : CmAt w' b c := h.kept (row := none) ⟨hb.os, hb.tape, hb.output, hb.size, fun k hk _ => hb.block k hk⟩ (fun e => by cases e)
theorem CmAt.made (w : World) (c : Cm) : CmAt (w.alloc (.cells (cmCells c) TC)) w.heap.size c := ⟨fun j => cell_new _ _ _ j rfl, fun j => by go_simp⟩
theorem CmAt.set {w : World} {b : Nat} {c : Cm} (h : CmAt w b c) {j : Nat} (hj : j < 6) (n : Int) : CmAt (w.setCell ⟨b, j + 1, none⟩ (.int .i64 n)) b (c.set j n) := by
  refine ⟨fun i => ?_, fun i => by rw [World.frozen?_setCell]; exact h.fz i⟩
  by_cases e : i = j + 1
  · subst e
    have h1 : (cmCells (c.set j n))[j + 1]? = some (.int .i64 n) := by
      rcases six_cases hj with rfl | rfl | rfl | rfl | rfl | rfl
      all_goals rfl
    rw [h1]
    refine World.cell?_setCell_same' _ _ _ ?_
    rw [h.cell]
    rcases six_cases hj with rfl | rfl | rfl | rfl | rfl | rfl
    all_goals rfl
  · rw [World.cell?_setCell_other _ _ _ _ (fun e' => e (by injection e' with _ e' _; exact e'.symm)), h.cell]
    by_cases hi : i < 7
    · have hi' : i = 0 ∨ i = 1 ∨ i = 2 ∨ i = 3 ∨ i = 4 ∨ i = 5 ∨ i = 6 := by omega
      rcases six_cases hj with rfl | rfl | rfl | rfl | rfl | rfl
      all_goals (rcases hi' with rfl | rfl | rfl | rfl | rfl | rfl | rfl)
      all_goals first | rfl | exact absurd rfl e
    · rw [Array.getElem?_eq_none (by simp [cmCells]; omega), Array.getElem?_eq_none (by simp [cmCells]; omega)]
set_option maxRecDepth 100000 in
set_option maxHeartbeats 1600000 in
theorem set_any (j : Nat) (hj : j < 6) (c : Cm) (b : Nat) (n : Int) (w : World) (h : CmAt w b c) : Calls Tryz.prog (fnOf j) #[.pointer (some ⟨b, 0, none⟩), .int .i64 n] w fun e w' => e = .returned (.tuple #[]) ∧ CmAt w' b (c.set j n) ∧ w.grownBy w' (some b) := by
  have hs := h.set hj n
  have hg := grown_setS w b (j + 1) (.int .i64 n)
  have HS := Lib.hid hs
  have HG := Lib.hid hg
  have c1 : w.cell? ⟨b, 1, none⟩ = some (.int .i64 c.i) := h.cell 1
  have c2 : w.cell? ⟨b, 2, none⟩ = some (.int .i64 c.m) := h.cell 2
  have c3 : w.cell? ⟨b, 3, none⟩ = some (.int .i64 c.o) := h.cell 3
  have c4 : w.cell? ⟨b, 4, none⟩ = some (.int .i64 c.s) := h.cell 4
  have c5 : w.cell? ⟨b, 5, none⟩ = some (.int .i64 c.q) := h.cell 5
  have c6 : w.cell? ⟨b, 6, none⟩ = some (.int .i64 c.p) := h.cell 6
  have hf := h.fz
  clear hs hg
  rcases six_cases hj with rfl | rfl | rfl | rfl | rfl | rfl
  · show Calls _ 76 _ _ _
    go_enter Tryz.func76, Tryz.ntmps76
    go_wp2_with fail
    go_end0
    exact ⟨rfl, HS.out, HG.out⟩
  · show Calls _ 77 _ _ _
    go_enter Tryz.func77, Tryz.ntmps77
    go_wp2_with fail
    go_end0
    exact ⟨rfl, HS.out, HG.out⟩
  · show Calls _ 78 _ _ _
    go_enter Tryz.func78, Tryz.ntmps78
    go_wp2_with fail
    go_end0
    exact ⟨rfl, HS.out, HG.out⟩
  · show Calls _ 79 _ _ _
    go_enter Tryz.func79, Tryz.ntmps79
    go_wp2_with fail
    go_end0
    exact ⟨rfl, HS.out, HG.out⟩
  · show Calls _ 80 _ _ _
    go_enter Tryz.func80, Tryz.ntmps80
    go_wp2_with fail
    go_end0
    exact ⟨rfl, HS.out, HG.out⟩
  · show Calls _ 81 _ _ _
    go_enter Tryz.func81, Tryz.ntmps81
    go_wp2_with fail
    go_end0
    exact ⟨rfl, HS.out, HG.out⟩
theorem rdF_snoc : ∀ (js : List Nat) (c : Cm) (r : Rd) (j : Nat), rdF (js ++ [j]) c r = if hasB (rdF js c r).1.k j then ((rdF js c r).1.set j (rNum (rdF js c r).2).1, (rNum (rdF js c r).2).2) else rdF js c r
  | [], c, r, j => by
    rw [List.nil_append, rdF]
    rfl
  | i :: js, c, r, j => by
    rw [List.cons_append]
    by_cases hb : hasB c.k i = true
    · rw [rdF, if_pos hb, rdF_snoc js, rdF, if_pos hb]
    · rw [rdF, if_neg hb, rdF_snoc js, rdF, if_neg hb]
theorem rdF_k : ∀ (js : List Nat) (c : Cm) (r : Rd), (rdF js c r).1.k = c.k
  | [], _, _ => rfl
  | j :: js, c, r => by
    unfold rdF
    split
    · rw [rdF_k js, set_k]
    · exact rdF_k js c r
theorem six_succ {j : Nat} (hj : j < 6) : six.take (j + 1) = six.take j ++ [j] := by
  rcases six_cases hj with rfl | rfl | rfl | rfl | rfl | rfl
  all_goals rfl

theorem zero_cells : cmCells zeroC = #[.int .i64 0, .int .i64 0, .int .i64 0, .int .i64 0, .int .i64 0, .int .i64 0, .int .i64 0] := rfl
theorem CmAt.setk {w : World} {b : Nat} {c : Cm} (h : CmAt w b c) (n : Int) : CmAt (w.setCell ⟨b, 0, none⟩ (.int .i64 n)) b { c with k := n } := by
  refine ⟨fun i => ?_, fun i => by rw [World.frozen?_setCell]; exact h.fz i⟩
  by_cases e : i = 0
  · subst e
    exact World.cell?_setCell_same' _ _ _ (by rw [h.cell]; rfl)
  · rw [World.cell?_setCell_other _ _ _ _ (fun e' => e (by injection e' with _ e' _; exact e'.symm)), h.cell]
    obtain ⟨i, rfl⟩ : ∃ i', i = i' + 1 := ⟨i - 1, by omega⟩
    by_cases hi : i < 6
    · rcases six_cases hi with rfl | rfl | rfl | rfl | rfl | rfl
      all_goals rfl
    · rw [Array.getElem?_eq_none (by simp [cmCells]; omega), Array.getElem?_eq_none (by simp [cmCells]; omega)]
/-- A command has been stored over another. -/
theorem CmAt.over {w : World} {b : Nat} {c0 : Cm} (h : CmAt w b c0) (c : Cm) : CmAt (World.setCell (World.setCell (World.setCell (World.setCell (World.setCell (World.setCell (World.setCell w ⟨b, 0, none⟩ (.int .i64 c.k)) ⟨b, 1, none⟩ (.int .i64 c.i)) ⟨b, 2, none⟩ (.int .i64 c.m)) ⟨b, 3, none⟩ (.int .i64 c.o)) ⟨b, 4, none⟩ (.int .i64 c.s)) ⟨b, 5, none⟩ (.int .i64 c.q)) ⟨b, 6, none⟩ (.int .i64 c.p)) b c ∧ w.grownBy (World.setCell (World.setCell (World.setCell (World.setCell (World.setCell (World.setCell (World.setCell w ⟨b, 0, none⟩ (.int .i64 c.k)) ⟨b, 1, none⟩ (.int .i64 c.i)) ⟨b, 2, none⟩ (.int .i64 c.m)) ⟨b, 3, none⟩ (.int .i64 c.o)) ⟨b, 4, none⟩ (.int .i64 c.s)) ⟨b, 5, none⟩ (.int .i64 c.q)) ⟨b, 6, none⟩ (.int .i64 c.p)) (some b) := by
  have h1 := ((((((h.setk c.k).set (j := 0) (by omega) c.i).set (j := 1) (by omega) c.m).set (j := 2) (by omega) c.o).set (j := 3) (by omega) c.s).set (j := 4) (by omega) c.q).set (j := 5) (by omega) c.p
  refine ⟨?_, ?_⟩
  · obtain ⟨k, i, m, o, s, q, p⟩ := c
    exact h1
  · exact grown_twoS (grown_twoS (grown_twoS (grown_twoS (grown_twoS (grown_twoS (grown_setS _ _ _ _) (grown_setS _ _ _ _)) (grown_setS _ _ _ _)) (grown_setS _ _ _ _)) (grown_setS _ _ _ _)) (grown_setS _ _ _ _)) (grown_setS _ _ _ _)
theorem grown_resS {w w0 w1 W : World} {g : Nat} (h0 : Below w.heap.size w w0) (h1 : w0.grownBy w1 (some g)) (h2 : w1.grownBy W (some w.heap.size)) : w.grownBy W (some g) :=
  ⟨h2.os.trans (h1.os.trans h0.os), h2.tape.trans (h1.tape.trans h0.tape), h2.output.trans (h1.output.trans h0.output), Nat.le_trans h0.size (Nat.le_trans h1.size h2.size), fun k hk hne => by
    rw [h2.block k (by have := h0.size; have := h1.size; omega) (fun e => by injection e with e; omega), h1.block k (by have := h0.size; omega) hne, h0.block k hk]⟩
theorem grown_newS {w W W' : World} {g b : Nat} (h : w.grownBy W (some g)) (h' : W.grownBy W' (some b)) (hb : w.heap.size ≤ b) : w.grownBy W' (some g) :=
  ⟨h'.os.trans h.os, h'.tape.trans h.tape, h'.output.trans h.output, Nat.le_trans h.size h'.size, fun k hk hne => by
    rw [h'.block k (Nat.lt_of_lt_of_le hk h.size) (fun e => by injection e with e; omega), h.block k hk hne]⟩
/-- How far codec.read has read. -/
structure RcI (w0 : World) (g b gv : Nat) (n : Int) (T : Cm × Rd) (W : World) : Prop where
  r : RdAt W g T.2
  c : CmAt W b T.1
  v : W.heap[gv]? = some (.cells (vCells ⟨n, 0, 0, 0, 0, 0, 0⟩) TV (0, 0))
  k : T.1.k = n
  gr : w0.grownBy W (some g)
theorem RcI.below {w0 W W' : World} {g b gv : Nat} {n : Int} {T : Cm × Rd} (h : RcI w0 g b gv n T W) (hb : Below W.heap.size W W') : RcI w0 g b gv n T W' :=
  ⟨h.r.below hb, h.c.below hb, heap_kept h.v hb, h.k, grown_belowS h.gr hb⟩
theorem heap_keptBy {w w' : World} {g : Nat} {o : Obj} {row : Option Nat} (h : w.heap[g]? = some o) (hg : w.grownBy w' row) (hne : some g ≠ row) : w'.heap[g]? = some o := (hg.block g (Array.getElem?_eq_some_iff.1 h).1 hne).trans h
/-- A value has been read. -/
theorem RcI.num {w0 W W' : World} {g b gv : Nat} {n : Int} {T : Cm × Rd} (h : RcI w0 g b gv n T W) (hg : W.grownBy W' (some g)) {r' : Rd} (hr : RdAt W' g r') (h1 : g ≠ b) (h2 : g ≠ gv) : RcI w0 g b gv n (T.1, r') W' :=
  ⟨hr, h.c.kept hg (fun e => h1 (by injection e with e; exact e.symm)), heap_keptBy h.v hg (fun e => h2 (by injection e with e; exact e.symm)), h.k, grown_twoS h.gr hg⟩
/-- It has been set. -/
theorem RcI.setc {w0 W W' : World} {g b gv : Nat} {n : Int} {c c' : Cm} {r : Rd} (h : RcI w0 g b gv n (c, r) W) (hg : W.grownBy W' (some b)) (hc : CmAt W' b c') (hk : c'.k = c.k) (h1 : g ≠ b) (h2 : b ≠ gv) (h3 : w0.heap.size ≤ b) : RcI w0 g b gv n (c', r) W' :=
  ⟨h.r.kept hg (fun e => h1 (by injection e)), hc, heap_keptBy h.v hg (fun e => h2 (by injection e with e; exact e.symm)), hk.trans h.k, grown_newS h.gr hg h3⟩
set_option maxRecDepth 100000 in
set_option maxHeartbeats 16000000 in
theorem read_any (g : Nat) (r : Rd) (w : World) (h : RdAt w g r) : Calls Tryz.prog 56 #[.pointer (some ⟨g, 0, none⟩)] w fun e w' => e = .returned (.tuple #[cmV (readC r).1, .int .i64 (readC r).2.1]) ∧ RdAt w' g (readC r).2.2 ∧ w.grownBy w' (some g) := by
  have hlt := h.lt
  have HB0 : Hid (Below w.heap.size w (w.alloc (.cells (cmCells zeroC) TC))) := Lib.hid ((Below.refl _ _).alloc (Nat.le_refl _) _)
  have HZ := Lib.hid (CmAt.made w zeroC)
  have HR0 := Lib.hid (h.below HB0.out)
  have hz0 : w.heap.size < (w.alloc (.cells (cmCells zeroC) TC)).heap.size := by simp
  obtain ⟨T, HT⟩ : ∃ T, Hid (T = readC r) := ⟨_, Lib.hid rfl⟩
  rw [← HT.out]
  unfold readC at HT
  rw [zero_cells] at HB0 HZ HR0 hz0
  go_enter Tryz.func56, Tryz.ntmps56
  go_wp2_with fail
  generalize w.alloc (.cells #[.int .i64 0, .int .i64 0, .int .i64 0, .int .i64 0, .int .i64 0, .int .i64 0, .int .i64 0] TC) = w0 at *
  refine (num_any g r w0 HR0.out).mono ?_
  rintro e w1 ⟨rfl, hr1, hg1⟩
  have HR1 := Lib.hid hr1
  have HG1 : Hid (w0.grownBy w1 (some g)) := Lib.hid hg1
  have HZ1 := Lib.hid (HZ.out.kept hg1 (fun e => by injection e with e; omega))
  have hz1 : w.heap.size < w1.heap.size := Nat.lt_of_lt_of_le hz0 hg1.size
  have hz01 := hg1.size
  clear hr1 hg1 HR0
  generalize hN : rNum r = N at *
  obtain ⟨n, r1⟩ := N
  simp only at HT HR1
  have HE1 := Lib.hid (err_any g r1 w1 HR1.out)
  have z0 : w1.cell? ⟨w.heap.size, 0, none⟩ = some (.int .i64 0) := HZ1.out.cell 0
  have z1 : w1.cell? ⟨w.heap.size, 1, none⟩ = some (.int .i64 0) := HZ1.out.cell 1
  have z2 : w1.cell? ⟨w.heap.size, 2, none⟩ = some (.int .i64 0) := HZ1.out.cell 2
  have z3 : w1.cell? ⟨w.heap.size, 3, none⟩ = some (.int .i64 0) := HZ1.out.cell 3
  have z4 : w1.cell? ⟨w.heap.size, 4, none⟩ = some (.int .i64 0) := HZ1.out.cell 4
  have z5 : w1.cell? ⟨w.heap.size, 5, none⟩ = some (.int .i64 0) := HZ1.out.cell 5
  have z6 : w1.cell? ⟨w.heap.size, 6, none⟩ = some (.int .i64 0) := HZ1.out.cell 6
  have zf := HZ1.out.fz
  by_cases h0 : r1.e = 0
  case neg =>
    have hb : (r1.e != 0) = true := by simpa using h0
    have HT2 : Hid (T = (zeroC, r1.e, r1)) := Lib.hid (by rw [HT.out, if_neg h0])
    clear HT
    go_wp2_with (go_at_call 88; refine HE1.out.mono ?_; rintro e w2 ⟨rfl, rfl⟩)
    obtain ⟨hov, hgv⟩ := HZ1.out.over zeroC
    obtain ⟨W5, hW5⟩ : ∃ W5, W5 = (World.setCell (World.setCell (World.setCell (World.setCell (World.setCell (World.setCell (World.setCell w2 ⟨w.heap.size, 0, none⟩ (.int .i64 0)) ⟨w.heap.size, 1, none⟩ (.int .i64 0)) ⟨w.heap.size, 2, none⟩ (.int .i64 0)) ⟨w.heap.size, 3, none⟩ (.int .i64 0)) ⟨w.heap.size, 4, none⟩ (.int .i64 0)) ⟨w.heap.size, 5, none⟩ (.int .i64 0)) ⟨w.heap.size, 6, none⟩ (.int .i64 0)) := ⟨_, rfl⟩
    have HOV : Hid (CmAt W5 w.heap.size zeroC) := Lib.hid (by rw [hW5]; exact hov)
    have HGV : Hid (w2.grownBy W5 (some w.heap.size)) := Lib.hid (by rw [hW5]; exact hgv)
    rw [← hW5]
    clear hov hgv hW5
    have y0 : W5.cell? ⟨w.heap.size, 0, none⟩ = some (.int .i64 0) := HOV.out.cell 0
    have y1 : W5.cell? ⟨w.heap.size, 1, none⟩ = some (.int .i64 0) := HOV.out.cell 1
    have y2 : W5.cell? ⟨w.heap.size, 2, none⟩ = some (.int .i64 0) := HOV.out.cell 2
    have y3 : W5.cell? ⟨w.heap.size, 3, none⟩ = some (.int .i64 0) := HOV.out.cell 3
    have y4 : W5.cell? ⟨w.heap.size, 4, none⟩ = some (.int .i64 0) := HOV.out.cell 4
    have y5 : W5.cell? ⟨w.heap.size, 5, none⟩ = some (.int .i64 0) := HOV.out.cell 5
    have y6 : W5.cell? ⟨w.heap.size, 6, none⟩ = some (.int .i64 0) := HOV.out.cell 6
    refine bodyPost_ret (v := .tuple #[.agg #[.int .i64 0, .int .i64 0, .int .i64 0, .int .i64 0, .int .i64 0, .int .i64 0, .int .i64 0], .int .i64 r1.e]) (by simp [results, Tryz.results56, go_sem, y0, y1, y2, y3, y4, y5, y6]) rfl ?_
    rw [HT2.out]
    exact ⟨rfl, HR1.out.kept HGV.out (fun e => by injection e with e; omega), grown_resS HB0.out HG1.out HGV.out⟩
  have hb : (r1.e != 0) = false := by simpa using h0
  have HT1 : Hid (T = if isK n then (if (rdF six ⟨n, 0, 0, 0, 0, 0, 0⟩ r1).2.e = 0 then ((rdF six ⟨n, 0, 0, 0, 0, 0, 0⟩ r1).1, 0, (rdF six ⟨n, 0, 0, 0, 0, 0, 0⟩ r1).2) else (zeroC, (rdF six ⟨n, 0, 0, 0, 0, 0, 0⟩ r1).2.e, (rdF six ⟨n, 0, 0, 0, 0, 0, 0⟩ r1).2)) else (zeroC, 3, r1)) := Lib.hid (by rw [HT.out, if_pos h0])
  clear HT
  have HH := Lib.hid (fun W => has_any n W)
  have HBC : Hid (Below w1.heap.size w1 (w1.alloc (.cells (cmCells ⟨n, 0, 0, 0, 0, 0, 0⟩) TC))) := Lib.hid ((Below.refl _ _).alloc (Nat.le_refl _) _)
  have HC1 := Lib.hid (CmAt.made w1 ⟨n, 0, 0, 0, 0, 0, 0⟩)
  have hcc : cmCells ⟨n, 0, 0, 0, 0, 0, 0⟩ = #[.int .i64 n, .int .i64 0, .int .i64 0, .int .i64 0, .int .i64 0, .int .i64 0, .int .i64 0] := rfl
  rw [hcc] at HBC HC1
  clear hcc
  cases hk : isK n with
  | false =>
    rw [hk] at HH
    have HT2 : Hid (T = (zeroC, 3, r1)) := Lib.hid (by rw [HT1.out, hk]; rfl)
    have HZ2 := Lib.hid (HZ1.out.below HBC.out)
    have HR2 := Lib.hid (HR1.out.below HBC.out)
    have HG2 : Hid (w0.grownBy (w1.alloc (.cells #[.int .i64 n, .int .i64 0, .int .i64 0, .int .i64 0, .int .i64 0, .int .i64 0, .int .i64 0] TC)) (some g)) := Lib.hid (grown_belowS HG1.out HBC.out)
    have c0 : (w1.alloc (.cells #[.int .i64 n, .int .i64 0, .int .i64 0, .int .i64 0, .int .i64 0, .int .i64 0, .int .i64 0] TC)).cell? ⟨w1.heap.size, 0, none⟩ = some (.int .i64 n) := HC1.out.cell 0
    clear HT1
    go_wp2_with (go_at_call 88; refine HE1.out.mono ?_; rintro e w2 ⟨rfl, rfl⟩)
    generalize hW2 : (w2.alloc (.cells #[.int .i64 n, .int .i64 0, .int .i64 0, .int .i64 0, .int .i64 0, .int .i64 0, .int .i64 0] TC)) = w3 at *
    have zz0 : w3.cell? ⟨w.heap.size, 0, none⟩ = some (.int .i64 0) := HZ2.out.cell 0
    have zz1 : w3.cell? ⟨w.heap.size, 1, none⟩ = some (.int .i64 0) := HZ2.out.cell 1
    have zz2 : w3.cell? ⟨w.heap.size, 2, none⟩ = some (.int .i64 0) := HZ2.out.cell 2
    have zz3 : w3.cell? ⟨w.heap.size, 3, none⟩ = some (.int .i64 0) := HZ2.out.cell 3
    have zz4 : w3.cell? ⟨w.heap.size, 4, none⟩ = some (.int .i64 0) := HZ2.out.cell 4
    have zz5 : w3.cell? ⟨w.heap.size, 5, none⟩ = some (.int .i64 0) := HZ2.out.cell 5
    have zz6 : w3.cell? ⟨w.heap.size, 6, none⟩ = some (.int .i64 0) := HZ2.out.cell 6
    have zf2 := HZ2.out.fz
    refine (HH.out w3).mono ?_
    rintro e w4 ⟨rfl, rfl⟩
    go_wp2_with fail
    obtain ⟨hov, hgv⟩ := HZ2.out.over zeroC
    obtain ⟨W5, hW5⟩ : ∃ W5, W5 = (World.setCell (World.setCell (World.setCell (World.setCell (World.setCell (World.setCell (World.setCell w4 ⟨w.heap.size, 0, none⟩ (.int .i64 0)) ⟨w.heap.size, 1, none⟩ (.int .i64 0)) ⟨w.heap.size, 2, none⟩ (.int .i64 0)) ⟨w.heap.size, 3, none⟩ (.int .i64 0)) ⟨w.heap.size, 4, none⟩ (.int .i64 0)) ⟨w.heap.size, 5, none⟩ (.int .i64 0)) ⟨w.heap.size, 6, none⟩ (.int .i64 0)) := ⟨_, rfl⟩
    have HOV : Hid (CmAt W5 w.heap.size zeroC) := Lib.hid (by rw [hW5]; exact hov)
    have HGV : Hid (w4.grownBy W5 (some w.heap.size)) := Lib.hid (by rw [hW5]; exact hgv)
    rw [← hW5]
    clear hov hgv hW5
    have y0 : W5.cell? ⟨w.heap.size, 0, none⟩ = some (.int .i64 0) := HOV.out.cell 0
    have y1 : W5.cell? ⟨w.heap.size, 1, none⟩ = some (.int .i64 0) := HOV.out.cell 1
    have y2 : W5.cell? ⟨w.heap.size, 2, none⟩ = some (.int .i64 0) := HOV.out.cell 2
    have y3 : W5.cell? ⟨w.heap.size, 3, none⟩ = some (.int .i64 0) := HOV.out.cell 3
    have y4 : W5.cell? ⟨w.heap.size, 4, none⟩ = some (.int .i64 0) := HOV.out.cell 4
    have y5 : W5.cell? ⟨w.heap.size, 5, none⟩ = some (.int .i64 0) := HOV.out.cell 5
    have y6 : W5.cell? ⟨w.heap.size, 6, none⟩ = some (.int .i64 0) := HOV.out.cell 6
    refine bodyPost_ret (v := .tuple #[.agg #[.int .i64 0, .int .i64 0, .int .i64 0, .int .i64 0, .int .i64 0, .int .i64 0, .int .i64 0], .int .i64 3]) (by simp [results, Tryz.results56, go_sem, y0, y1, y2, y3, y4, y5, y6]) rfl ?_
    rw [HT2.out]
    exact ⟨rfl, HR2.out.kept HGV.out (fun e => by injection e with e; omega), grown_resS HB0.out HG2.out HGV.out⟩
  | true =>
    rw [hk] at HH
    have HT3 : Hid (T = if (rdF six ⟨n, 0, 0, 0, 0, 0, 0⟩ r1).2.e = 0 then ((rdF six ⟨n, 0, 0, 0, 0, 0, 0⟩ r1).1, 0, (rdF six ⟨n, 0, 0, 0, 0, 0, 0⟩ r1).2) else (zeroC, (rdF six ⟨n, 0, 0, 0, 0, 0, 0⟩ r1).2.e, (rdF six ⟨n, 0, 0, 0, 0, 0, 0⟩ r1).2)) := Lib.hid (by rw [HT1.out, hk]; rfl)
    have HAN := Lib.hid (fun j (hj : j < 6) => bit_and hk hj)
    have HV := Lib.hid (fun W => values_any ⟨n, 0, 0, 0, 0, 0, 0⟩ W)
    unfold cmV at HV
    generalize bitsOf n = bk at *
    have HZ2 := Lib.hid (HZ1.out.below HBC.out)
    have HR2 := Lib.hid (HR1.out.below HBC.out)
    have HG2 : Hid (w0.grownBy (w1.alloc (.cells #[.int .i64 n, .int .i64 0, .int .i64 0, .int .i64 0, .int .i64 0, .int .i64 0, .int .i64 0] TC)) (some g)) := Lib.hid (grown_belowS HG1.out HBC.out)
    have c0 : (w1.alloc (.cells #[.int .i64 n, .int .i64 0, .int .i64 0, .int .i64 0, .int .i64 0, .int .i64 0, .int .i64 0] TC)).cell? ⟨w1.heap.size, 0, none⟩ = some (.int .i64 n) := HC1.out.cell 0
    have c1 : (w1.alloc (.cells #[.int .i64 n, .int .i64 0, .int .i64 0, .int .i64 0, .int .i64 0, .int .i64 0, .int .i64 0] TC)).cell? ⟨w1.heap.size, 1, none⟩ = some (.int .i64 0) := HC1.out.cell 1
    have c2 : (w1.alloc (.cells #[.int .i64 n, .int .i64 0, .int .i64 0, .int .i64 0, .int .i64 0, .int .i64 0, .int .i64 0] TC)).cell? ⟨w1.heap.size, 2, none⟩ = some (.int .i64 0) := HC1.out.cell 2
    have c3 : (w1.alloc (.cells #[.int .i64 n, .int .i64 0, .int .i64 0, .int .i64 0, .int .i64 0, .int .i64 0, .int .i64 0] TC)).cell? ⟨w1.heap.size, 3, none⟩ = some (.int .i64 0) := HC1.out.cell 3
    have c4 : (w1.alloc (.cells #[.int .i64 n, .int .i64 0, .int .i64 0, .int .i64 0, .int .i64 0, .int .i64 0, .int .i64 0] TC)).cell? ⟨w1.heap.size, 4, none⟩ = some (.int .i64 0) := HC1.out.cell 4
    have c5 : (w1.alloc (.cells #[.int .i64 n, .int .i64 0, .int .i64 0, .int .i64 0, .int .i64 0, .int .i64 0, .int .i64 0] TC)).cell? ⟨w1.heap.size, 5, none⟩ = some (.int .i64 0) := HC1.out.cell 5
    have c6 : (w1.alloc (.cells #[.int .i64 n, .int .i64 0, .int .i64 0, .int .i64 0, .int .i64 0, .int .i64 0, .int .i64 0] TC)).cell? ⟨w1.heap.size, 6, none⟩ = some (.int .i64 0) := HC1.out.cell 6
    have hzb : w1.heap.size < (w1.alloc (.cells #[.int .i64 n, .int .i64 0, .int .i64 0, .int .i64 0, .int .i64 0, .int .i64 0, .int .i64 0] TC)).heap.size := by simp
    clear HT1
    go_wp2_with (go_at_call 88; refine HE1.out.mono ?_; rintro e w2 ⟨rfl, rfl⟩)
    have HZ0 := HZ
    clear HZ HE1 HR1 HG1 z0 z1 z2 z3 z4 z5 z6 zf HZ1 HBC
    generalize hW2 : (w2.alloc (.cells #[.int .i64 n, .int .i64 0, .int .i64 0, .int .i64 0, .int .i64 0, .int .i64 0, .int .i64 0] TC)) = w3 at *
    generalize hB : w2.heap.size = b at *
    refine (HH.out w3).mono ?_
    rintro e w4 ⟨rfl, rfl⟩
    go_wp2_with (go_at_call 52; refine (HV.out _).mono ?_)
    rintro e w5 ⟨gv, hgv, rfl, hv, hb5⟩
    have HI5 : Hid (RcI w0 g b gv n (rdF (six.take 0) ⟨n, 0, 0, 0, 0, 0, 0⟩ r1) w5) := Lib.hid ⟨HR2.out.below hb5, HC1.out.below hb5, hv, rfl, grown_belowS HG2.out hb5⟩
    have hgb : g ≠ b := by omega
    have hggv : g ≠ gv := by omega
    have hbgv : b ≠ gv := by omega
    have hb0 : w0.heap.size ≤ b := by omega
    clear hv hb5 HR2 HC1 HG2 c0 c1 c2 c3 c4 c5 c6 HV HH hW2 hB
    go_wp2_with fail
    go_loopw [10, 34] (fun _ i wr => ∃ j : Nat, j ≤ 6 ∧ i = .int .i64 j ∧ Hid (RcI w0 g b gv n (rdF (six.take j) ⟨n, 0, 0, 0, 0, 0, 0⟩ r1) wr)) (fun _ i _ => 6 - (intOf i).toNat)
    case atStart => exact ⟨0, by omega, rfl, HI5⟩
    case round =>
      clear HI5
      obtain ⟨j, hj, rfl, HI⟩ := hrel
      by_cases hltj : j < 6
      · obtain ⟨e0, e1, e2⟩ := val_at HI.out.v hltj
        have HAJ := HAN.out j hltj
        have HSN : Hid (rdF (six.take (j + 1)) ⟨n, 0, 0, 0, 0, 0, 0⟩ r1 = if hasB n j then ((rdF (six.take j) ⟨n, 0, 0, 0, 0, 0, 0⟩ r1).1.set j (rNum (rdF (six.take j) ⟨n, 0, 0, 0, 0, 0, 0⟩ r1).2).1, (rNum (rdF (six.take j) ⟨n, 0, 0, 0, 0, 0, 0⟩ r1).2).2) else rdF (six.take j) ⟨n, 0, 0, 0, 0, 0, 0⟩ r1) := Lib.hid (by rw [six_succ hltj, rdF_snoc, rdF_k])
        have HSET := Lib.hid (fun (c : Cm) (m : Int) (W : World) (hc : CmAt W b c) => set_any j hltj c b m W hc)
        have HSK := Lib.hid (fun (c : Cm) (m : Int) => set_k c j m)
        have hpn : (pw j != 0) = true := by have := pw_ne j; simpa using this
        have hj0 : (0 : Int) ≤ (j : Int) := by omega
        have hjb : (j : Int) < 6 := by omega
        have HBA : Hid (Below wr.heap.size wr (wr.alloc (.cells #[.int .i64 (pw j), .int .i64 (Cm.get ⟨n, 0, 0, 0, 0, 0, 0⟩ j), .func (.func (fnOf j)) #[] #[]] TV))) := Lib.hid ((Below.refl _ _).alloc (Nat.le_refl _) _)
        have HI2 := Lib.hid (HI.out.below HBA.out)
        have hxc : (wr.alloc (.cells #[.int .i64 (pw j), .int .i64 (Cm.get ⟨n, 0, 0, 0, 0, 0, 0⟩ j), .func (.func (fnOf j)) #[] #[]] TV)).cell? ⟨wr.heap.size, 2, none⟩ = some (.func (.func (fnOf j)) #[] #[]) := cell_new _ _ _ 2 rfl
        have hxg : g < wr.heap.size := HI.out.r.lt
        have hxb : b < wr.heap.size := HI.out.c.lt
        have hxz : wr.heap.size < (wr.alloc (.cells #[.int .i64 (pw j), .int .i64 (Cm.get ⟨n, 0, 0, 0, 0, 0, 0⟩ j), .func (.func (fnOf j)) #[] #[]] TV)).heap.size := by simp
        have hfc := fn_cases hltj
        generalize rdF (six.take j) ⟨n, 0, 0, 0, 0, 0, 0⟩ r1 = J at *
        obtain ⟨cj, rj⟩ := J
        generalize pw j = pj at *
        generalize Cm.get ⟨n, 0, 0, 0, 0, 0, 0⟩ j = gj at *
        generalize fnOf j = fj at *
        cases hhb : hasB n j with
        | false =>
          rw [hhb] at HAJ HSN
          have hand : bits .and .i64 bk pj = 0 := HAJ
          have HS2 : Hid (rdF (six.take (j + 1)) ⟨n, 0, 0, 0, 0, 0, 0⟩ r1 = (cj, rj)) := Lib.hid HSN.out
          clear HAJ HSN
          go_wp2_with fail
          go_roundw
          case rel => exact ⟨j + 1, by omega, by go_num, by rw [HS2.out]; exact HI2⟩
          case measure => simp [intOf]; omega
        | true =>
          rw [hhb, if_pos rfl] at HAJ HSN
          have HNJ := Lib.hid (num_any g rj)
          rcases hfc with rfl | rfl | rfl | rfl | rfl | rfl
          · go_wp2_with fail
            clear e0 e1 e2
            have hWA := hxc
            generalize (wr.alloc (.cells #[.int .i64 pj, .int .i64 gj, .func (.func 76) #[] #[]] TV)) = wa at *
            generalize wr.heap.size = x at *
            have hxd : wa.drew.cell? ⟨x, 2, none⟩ = some (.func (.func 76) #[] #[]) := hxc
            refine wp_region_held_drew (S := fun W => W.cell? ⟨x, 2, none⟩ = some (.func (.func 76) #[] #[])) (by kernel_rfl) hxd (fun hHeld => ?_)
            refine wpAnyH_take (i := 0) (v := .pointer (some ⟨x, 2, none⟩)) rfl (by kernel_rfl) (by kernel_rfl) (by kernel_rfl) (fun _ _ _ h => h) (Or.inl ⟨by rfl, fun w' hSw => by dsimp only at hSw; go_simp⟩) hHeld ?_
            refine wpAnyH_take (i := 1) (v := .func (.func 76) #[] #[]) rfl (by kernel_rfl) (by kernel_rfl) (by kernel_rfl) (fun _ _ _ h => h) (Or.inl ⟨by rfl, fun w' hSw => by dsimp only at hSw; go_simp⟩) hHeld ?_
            refine wpAnyH_take (i := 2) (v := .pointer (some ⟨g, 0, none⟩)) rfl (by kernel_rfl) (by kernel_rfl) (by kernel_rfl) (fun _ _ _ h => h) (Or.inl ⟨by rfl, fun w' hSw => by dsimp only at hSw; go_simp⟩) hHeld ?_
            have HI3 : Hid (RcI w0 g b gv n (cj, rj) wa.drew) := Lib.hid (HI2.out.below (Below.refl _ _).drew)
            have hxz3 : x < wa.drew.heap.size := hxz
            clear hHeld HI2 hWA
            refine wpAnyH_ready (rs := [3]) (by kernel_rfl) (by simp) ?_
            refine AllReadyH.cons rfl (fun K hK => ?_) AllReadyH.nil
            go_simp
            go_at_call 47
            refine (HNJ.out _ HI3.out.r).mono ?_
            rintro e wn ⟨rfl, hrn, hgn⟩
            have HI4 := Lib.hid (HI3.out.num hgn hrn hgb hggv)
            have hxn : wn.cell? ⟨x, 2, none⟩ = some (.func (.func 76) #[] #[]) := (World.cell?_of_block (a := ⟨x, 2, none⟩) (hgn.block x hxz3 (fun e => by injection e with e; omega))).trans hxd
            clear hrn hgn HI3 hxd
            go_wp2_with fail
            refine hK.out _ _ hxn (fun hHeld => ?_)
            clear hK K hHeld
            refine wpAnyH_ready (rs := [4]) (by kernel_rfl) (by simp) ?_
            refine AllReadyH.cons rfl (fun K hK => ?_) AllReadyH.nil
            go_simp
            go_at_call 76
            refine (HSET.out cj (rNum rj).1 wn HI4.out.c).mono ?_
            rintro e ws ⟨rfl, hcs, hgs⟩
            have HI5 := Lib.hid (HI4.out.setc hgs hcs (HSK.out _ _) hgb hbgv hb0)
            have hxs : ws.cell? ⟨x, 2, none⟩ = some (.func (.func 76) #[] #[]) := (World.cell?_of_block (a := ⟨x, 2, none⟩) (hgs.block x (World.block_lt_of_cell? wn _ hxn) (fun e => by injection e with e; omega))).trans hxn
            clear hcs hgs HI4 hxn
            go_wp2_with fail
            refine hK.out _ _ hxs (fun hHeld => ?_)
            clear hK K hHeld
            refine wpAnyH_done (by kernel_rfl) ?_ _
            go_wp2_with fail
            go_roundw
            case rel => exact ⟨j + 1, by omega, by go_num, by rw [HSN.out]; exact HI5⟩
            case measure => simp [intOf]; omega
          · go_wp2_with fail
            clear e0 e1 e2
            have hWA := hxc
            generalize (wr.alloc (.cells #[.int .i64 pj, .int .i64 gj, .func (.func 77) #[] #[]] TV)) = wa at *
            generalize wr.heap.size = x at *
            have hxd : wa.drew.cell? ⟨x, 2, none⟩ = some (.func (.func 77) #[] #[]) := hxc
            refine wp_region_held_drew (S := fun W => W.cell? ⟨x, 2, none⟩ = some (.func (.func 77) #[] #[])) (by kernel_rfl) hxd (fun hHeld => ?_)
            refine wpAnyH_take (i := 0) (v := .pointer (some ⟨x, 2, none⟩)) rfl (by kernel_rfl) (by kernel_rfl) (by kernel_rfl) (fun _ _ _ h => h) (Or.inl ⟨by rfl, fun w' hSw => by dsimp only at hSw; go_simp⟩) hHeld ?_
            refine wpAnyH_take (i := 1) (v := .func (.func 77) #[] #[]) rfl (by kernel_rfl) (by kernel_rfl) (by kernel_rfl) (fun _ _ _ h => h) (Or.inl ⟨by rfl, fun w' hSw => by dsimp only at hSw; go_simp⟩) hHeld ?_
            refine wpAnyH_take (i := 2) (v := .pointer (some ⟨g, 0, none⟩)) rfl (by kernel_rfl) (by kernel_rfl) (by kernel_rfl) (fun _ _ _ h => h) (Or.inl ⟨by rfl, fun w' hSw => by dsimp only at hSw; go_simp⟩) hHeld ?_
            have HI3 : Hid (RcI w0 g b gv n (cj, rj) wa.drew) := Lib.hid (HI2.out.below (Below.refl _ _).drew)
            have hxz3 : x < wa.drew.heap.size := hxz
            clear hHeld HI2 hWA
            refine wpAnyH_ready (rs := [3]) (by kernel_rfl) (by simp) ?_
            refine AllReadyH.cons rfl (fun K hK => ?_) AllReadyH.nil
            go_simp
            go_at_call 47
            refine (HNJ.out _ HI3.out.r).mono ?_
            rintro e wn ⟨rfl, hrn, hgn⟩
            have HI4 := Lib.hid (HI3.out.num hgn hrn hgb hggv)
            have hxn : wn.cell? ⟨x, 2, none⟩ = some (.func (.func 77) #[] #[]) := (World.cell?_of_block (a := ⟨x, 2, none⟩) (hgn.block x hxz3 (fun e => by injection e with e; omega))).trans hxd
            clear hrn hgn HI3 hxd
            go_wp2_with fail
            refine hK.out _ _ hxn (fun hHeld => ?_)
            clear hK K hHeld
            refine wpAnyH_ready (rs := [4]) (by kernel_rfl) (by simp) ?_
            refine AllReadyH.cons rfl (fun K hK => ?_) AllReadyH.nil
            go_simp
            go_at_call 77
            refine (HSET.out cj (rNum rj).1 wn HI4.out.c).mono ?_
            rintro e ws ⟨rfl, hcs, hgs⟩
            have HI5 := Lib.hid (HI4.out.setc hgs hcs (HSK.out _ _) hgb hbgv hb0)
            have hxs : ws.cell? ⟨x, 2, none⟩ = some (.func (.func 77) #[] #[]) := (World.cell?_of_block (a := ⟨x, 2, none⟩) (hgs.block x (World.block_lt_of_cell? wn _ hxn) (fun e => by injection e with e; omega))).trans hxn
            clear hcs hgs HI4 hxn
            go_wp2_with fail
            refine hK.out _ _ hxs (fun hHeld => ?_)
            clear hK K hHeld
            refine wpAnyH_done (by kernel_rfl) ?_ _
            go_wp2_with fail
            go_roundw
            case rel => exact ⟨j + 1, by omega, by go_num, by rw [HSN.out]; exact HI5⟩
            case measure => simp [intOf]; omega
          · go_wp2_with fail
            clear e0 e1 e2
            have hWA := hxc
            generalize (wr.alloc (.cells #[.int .i64 pj, .int .i64 gj, .func (.func 78) #[] #[]] TV)) = wa at *
            generalize wr.heap.size = x at *
            have hxd : wa.drew.cell? ⟨x, 2, none⟩ = some (.func (.func 78) #[] #[]) := hxc
            refine wp_region_held_drew (S := fun W => W.cell? ⟨x, 2, none⟩ = some (.func (.func 78) #[] #[])) (by kernel_rfl) hxd (fun hHeld => ?_)
            refine wpAnyH_take (i := 0) (v := .pointer (some ⟨x, 2, none⟩)) rfl (by kernel_rfl) (by kernel_rfl) (by kernel_rfl) (fun _ _ _ h => h) (Or.inl ⟨by rfl, fun w' hSw => by dsimp only at hSw; go_simp⟩) hHeld ?_
            refine wpAnyH_take (i := 1) (v := .func (.func 78) #[] #[]) rfl (by kernel_rfl) (by kernel_rfl) (by kernel_rfl) (fun _ _ _ h => h) (Or.inl ⟨by rfl, fun w' hSw => by dsimp only at hSw; go_simp⟩) hHeld ?_
            refine wpAnyH_take (i := 2) (v := .pointer (some ⟨g, 0, none⟩)) rfl (by kernel_rfl) (by kernel_rfl) (by kernel_rfl) (fun _ _ _ h => h) (Or.inl ⟨by rfl, fun w' hSw => by dsimp only at hSw; go_simp⟩) hHeld ?_
            have HI3 : Hid (RcI w0 g b gv n (cj, rj) wa.drew) := Lib.hid (HI2.out.below (Below.refl _ _).drew)
            have hxz3 : x < wa.drew.heap.size := hxz
            clear hHeld HI2 hWA
            refine wpAnyH_ready (rs := [3]) (by kernel_rfl) (by simp) ?_
            refine AllReadyH.cons rfl (fun K hK => ?_) AllReadyH.nil
            go_simp
            go_at_call 47
            refine (HNJ.out _ HI3.out.r).mono ?_
            rintro e wn ⟨rfl, hrn, hgn⟩
            have HI4 := Lib.hid (HI3.out.num hgn hrn hgb hggv)
            have hxn : wn.cell? ⟨x, 2, none⟩ = some (.func (.func 78) #[] #[]) := (World.cell?_of_block (a := ⟨x, 2, none⟩) (hgn.block x hxz3 (fun e => by injection e with e; omega))).trans hxd
            clear hrn hgn HI3 hxd
            go_wp2_with fail
            refine hK.out _ _ hxn (fun hHeld => ?_)
            clear hK K hHeld
            refine wpAnyH_ready (rs := [4]) (by kernel_rfl) (by simp) ?_
            refine AllReadyH.cons rfl (fun K hK => ?_) AllReadyH.nil
            go_simp
            go_at_call 78
            refine (HSET.out cj (rNum rj).1 wn HI4.out.c).mono ?_
            rintro e ws ⟨rfl, hcs, hgs⟩
            have HI5 := Lib.hid (HI4.out.setc hgs hcs (HSK.out _ _) hgb hbgv hb0)
            have hxs : ws.cell? ⟨x, 2, none⟩ = some (.func (.func 78) #[] #[]) := (World.cell?_of_block (a := ⟨x, 2, none⟩) (hgs.block x (World.block_lt_of_cell? wn _ hxn) (fun e => by injection e with e; omega))).trans hxn
            clear hcs hgs HI4 hxn
            go_wp2_with fail
            refine hK.out _ _ hxs (fun hHeld => ?_)
            clear hK K hHeld
            refine wpAnyH_done (by kernel_rfl) ?_ _
            go_wp2_with fail
            go_roundw
            case rel => exact ⟨j + 1, by omega, by go_num, by rw [HSN.out]; exact HI5⟩
            case measure => simp [intOf]; omega
          · go_wp2_with fail
            clear e0 e1 e2
            have hWA := hxc
            generalize (wr.alloc (.cells #[.int .i64 pj, .int .i64 gj, .func (.func 79) #[] #[]] TV)) = wa at *
            generalize wr.heap.size = x at *
            have hxd : wa.drew.cell? ⟨x, 2, none⟩ = some (.func (.func 79) #[] #[]) := hxc
            refine wp_region_held_drew (S := fun W => W.cell? ⟨x, 2, none⟩ = some (.func (.func 79) #[] #[])) (by kernel_rfl) hxd (fun hHeld => ?_)
            refine wpAnyH_take (i := 0) (v := .pointer (some ⟨x, 2, none⟩)) rfl (by kernel_rfl) (by kernel_rfl) (by kernel_rfl) (fun _ _ _ h => h) (Or.inl ⟨by rfl, fun w' hSw => by dsimp only at hSw; go_simp⟩) hHeld ?_
            refine wpAnyH_take (i := 1) (v := .func (.func 79) #[] #[]) rfl (by kernel_rfl) (by kernel_rfl) (by kernel_rfl) (fun _ _ _ h => h) (Or.inl ⟨by rfl, fun w' hSw => by dsimp only at hSw; go_simp⟩) hHeld ?_
            refine wpAnyH_take (i := 2) (v := .pointer (some ⟨g, 0, none⟩)) rfl (by kernel_rfl) (by kernel_rfl) (by kernel_rfl) (fun _ _ _ h => h) (Or.inl ⟨by rfl, fun w' hSw => by dsimp only at hSw; go_simp⟩) hHeld ?_
            have HI3 : Hid (RcI w0 g b gv n (cj, rj) wa.drew) := Lib.hid (HI2.out.below (Below.refl _ _).drew)
            have hxz3 : x < wa.drew.heap.size := hxz
            clear hHeld HI2 hWA
            refine wpAnyH_ready (rs := [3]) (by kernel_rfl) (by simp) ?_
            refine AllReadyH.cons rfl (fun K hK => ?_) AllReadyH.nil
            go_simp
            go_at_call 47
            refine (HNJ.out _ HI3.out.r).mono ?_
            rintro e wn ⟨rfl, hrn, hgn⟩
            have HI4 := Lib.hid (HI3.out.num hgn hrn hgb hggv)
            have hxn : wn.cell? ⟨x, 2, none⟩ = some (.func (.func 79) #[] #[]) := (World.cell?_of_block (a := ⟨x, 2, none⟩) (hgn.block x hxz3 (fun e => by injection e with e; omega))).trans hxd
            clear hrn hgn HI3 hxd
            go_wp2_with fail
            refine hK.out _ _ hxn (fun hHeld => ?_)
            clear hK K hHeld
            refine wpAnyH_ready (rs := [4]) (by kernel_rfl) (by simp) ?_
            refine AllReadyH.cons rfl (fun K hK => ?_) AllReadyH.nil
            go_simp
            go_at_call 79
            refine (HSET.out cj (rNum rj).1 wn HI4.out.c).mono ?_
            rintro e ws ⟨rfl, hcs, hgs⟩
            have HI5 := Lib.hid (HI4.out.setc hgs hcs (HSK.out _ _) hgb hbgv hb0)
            have hxs : ws.cell? ⟨x, 2, none⟩ = some (.func (.func 79) #[] #[]) := (World.cell?_of_block (a := ⟨x, 2, none⟩) (hgs.block x (World.block_lt_of_cell? wn _ hxn) (fun e => by injection e with e; omega))).trans hxn
            clear hcs hgs HI4 hxn
            go_wp2_with fail
            refine hK.out _ _ hxs (fun hHeld => ?_)
            clear hK K hHeld
            refine wpAnyH_done (by kernel_rfl) ?_ _
            go_wp2_with fail
            go_roundw
            case rel => exact ⟨j + 1, by omega, by go_num, by rw [HSN.out]; exact HI5⟩
            case measure => simp [intOf]; omega
          · go_wp2_with fail
            clear e0 e1 e2
            have hWA := hxc
            generalize (wr.alloc (.cells #[.int .i64 pj, .int .i64 gj, .func (.func 80) #[] #[]] TV)) = wa at *
            generalize wr.heap.size = x at *
            have hxd : wa.drew.cell? ⟨x, 2, none⟩ = some (.func (.func 80) #[] #[]) := hxc
            refine wp_region_held_drew (S := fun W => W.cell? ⟨x, 2, none⟩ = some (.func (.func 80) #[] #[])) (by kernel_rfl) hxd (fun hHeld => ?_)
            refine wpAnyH_take (i := 0) (v := .pointer (some ⟨x, 2, none⟩)) rfl (by kernel_rfl) (by kernel_rfl) (by kernel_rfl) (fun _ _ _ h => h) (Or.inl ⟨by rfl, fun w' hSw => by dsimp only at hSw; go_simp⟩) hHeld ?_
            refine wpAnyH_take (i := 1) (v := .func (.func 80) #[] #[]) rfl (by kernel_rfl) (by kernel_rfl) (by kernel_rfl) (fun _ _ _ h => h) (Or.inl ⟨by rfl, fun w' hSw => by dsimp only at hSw; go_simp⟩) hHeld ?_
            refine wpAnyH_take (i := 2) (v := .pointer (some ⟨g, 0, none⟩)) rfl (by kernel_rfl) (by kernel_rfl) (by kernel_rfl) (fun _ _ _ h => h) (Or.inl ⟨by rfl, fun w' hSw => by dsimp only at hSw; go_simp⟩) hHeld ?_
            have HI3 : Hid (RcI w0 g b gv n (cj, rj) wa.drew) := Lib.hid (HI2.out.below (Below.refl _ _).drew)
            have hxz3 : x < wa.drew.heap.size := hxz
            clear hHeld HI2 hWA
            refine wpAnyH_ready (rs := [3]) (by kernel_rfl) (by simp) ?_
            refine AllReadyH.cons rfl (fun K hK => ?_) AllReadyH.nil
            go_simp
            go_at_call 47
            refine (HNJ.out _ HI3.out.r).mono ?_
            rintro e wn ⟨rfl, hrn, hgn⟩
            have HI4 := Lib.hid (HI3.out.num hgn hrn hgb hggv)
            have hxn : wn.cell? ⟨x, 2, none⟩ = some (.func (.func 80) #[] #[]) := (World.cell?_of_block (a := ⟨x, 2, none⟩) (hgn.block x hxz3 (fun e => by injection e with e; omega))).trans hxd
            clear hrn hgn HI3 hxd
            go_wp2_with fail
            refine hK.out _ _ hxn (fun hHeld => ?_)
            clear hK K hHeld
            refine wpAnyH_ready (rs := [4]) (by kernel_rfl) (by simp) ?_
            refine AllReadyH.cons rfl (fun K hK => ?_) AllReadyH.nil
            go_simp
            go_at_call 80
            refine (HSET.out cj (rNum rj).1 wn HI4.out.c).mono ?_
            rintro e ws ⟨rfl, hcs, hgs⟩
            have HI5 := Lib.hid (HI4.out.setc hgs hcs (HSK.out _ _) hgb hbgv hb0)
            have hxs : ws.cell? ⟨x, 2, none⟩ = some (.func (.func 80) #[] #[]) := (World.cell?_of_block (a := ⟨x, 2, none⟩) (hgs.block x (World.block_lt_of_cell? wn _ hxn) (fun e => by injection e with e; omega))).trans hxn
            clear hcs hgs HI4 hxn
            go_wp2_with fail
            refine hK.out _ _ hxs (fun hHeld => ?_)
            clear hK K hHeld
            refine wpAnyH_done (by kernel_rfl) ?_ _
            go_wp2_with fail
            go_roundw
            case rel => exact ⟨j + 1, by omega, by go_num, by rw [HSN.out]; exact HI5⟩
            case measure => simp [intOf]; omega
          · go_wp2_with fail
            clear e0 e1 e2
            have hWA := hxc
            generalize (wr.alloc (.cells #[.int .i64 pj, .int .i64 gj, .func (.func 81) #[] #[]] TV)) = wa at *
            generalize wr.heap.size = x at *
            have hxd : wa.drew.cell? ⟨x, 2, none⟩ = some (.func (.func 81) #[] #[]) := hxc
            refine wp_region_held_drew (S := fun W => W.cell? ⟨x, 2, none⟩ = some (.func (.func 81) #[] #[])) (by kernel_rfl) hxd (fun hHeld => ?_)
            refine wpAnyH_take (i := 0) (v := .pointer (some ⟨x, 2, none⟩)) rfl (by kernel_rfl) (by kernel_rfl) (by kernel_rfl) (fun _ _ _ h => h) (Or.inl ⟨by rfl, fun w' hSw => by dsimp only at hSw; go_simp⟩) hHeld ?_
            refine wpAnyH_take (i := 1) (v := .func (.func 81) #[] #[]) rfl (by kernel_rfl) (by kernel_rfl) (by kernel_rfl) (fun _ _ _ h => h) (Or.inl ⟨by rfl, fun w' hSw => by dsimp only at hSw; go_simp⟩) hHeld ?_
            refine wpAnyH_take (i := 2) (v := .pointer (some ⟨g, 0, none⟩)) rfl (by kernel_rfl) (by kernel_rfl) (by kernel_rfl) (fun _ _ _ h => h) (Or.inl ⟨by rfl, fun w' hSw => by dsimp only at hSw; go_simp⟩) hHeld ?_
            have HI3 : Hid (RcI w0 g b gv n (cj, rj) wa.drew) := Lib.hid (HI2.out.below (Below.refl _ _).drew)
            have hxz3 : x < wa.drew.heap.size := hxz
            clear hHeld HI2 hWA
            refine wpAnyH_ready (rs := [3]) (by kernel_rfl) (by simp) ?_
            refine AllReadyH.cons rfl (fun K hK => ?_) AllReadyH.nil
            go_simp
            go_at_call 47
            refine (HNJ.out _ HI3.out.r).mono ?_
            rintro e wn ⟨rfl, hrn, hgn⟩
            have HI4 := Lib.hid (HI3.out.num hgn hrn hgb hggv)
            have hxn : wn.cell? ⟨x, 2, none⟩ = some (.func (.func 81) #[] #[]) := (World.cell?_of_block (a := ⟨x, 2, none⟩) (hgn.block x hxz3 (fun e => by injection e with e; omega))).trans hxd
            clear hrn hgn HI3 hxd
            go_wp2_with fail
            refine hK.out _ _ hxn (fun hHeld => ?_)
            clear hK K hHeld
            refine wpAnyH_ready (rs := [4]) (by kernel_rfl) (by simp) ?_
            refine AllReadyH.cons rfl (fun K hK => ?_) AllReadyH.nil
            go_simp
            go_at_call 81
            refine (HSET.out cj (rNum rj).1 wn HI4.out.c).mono ?_
            rintro e ws ⟨rfl, hcs, hgs⟩
            have HI5 := Lib.hid (HI4.out.setc hgs hcs (HSK.out _ _) hgb hbgv hb0)
            have hxs : ws.cell? ⟨x, 2, none⟩ = some (.func (.func 81) #[] #[]) := (World.cell?_of_block (a := ⟨x, 2, none⟩) (hgs.block x (World.block_lt_of_cell? wn _ hxn) (fun e => by injection e with e; omega))).trans hxn
            clear hcs hgs HI4 hxn
            go_wp2_with fail
            refine hK.out _ _ hxs (fun hHeld => ?_)
            clear hK K hHeld
            refine wpAnyH_done (by kernel_rfl) ?_ _
            go_wp2_with fail
            go_roundw
            case rel => exact ⟨j + 1, by omega, by go_num, by rw [HSN.out]; exact HI5⟩
            case measure => simp [intOf]; omega
      · obtain rfl : j = 6 := by omega
        have HI6 : Hid (RcI w0 g b gv n (rdF six ⟨n, 0, 0, 0, 0, 0, 0⟩ r1) wr) := HI
        clear HI
        generalize rdF six ⟨n, 0, 0, 0, 0, 0, 0⟩ r1 = J at *
        obtain ⟨cj, rj⟩ := J
        simp only at HT3
        have HZ6 : Hid (CmAt wr w.heap.size zeroC) := Lib.hid (HZ0.out.kept HI6.out.gr (fun e => by injection e with e; omega))
        have HE6 := Lib.hid (err_any g rj wr HI6.out.r)
        have z0 : wr.cell? ⟨w.heap.size, 0, none⟩ = some (.int .i64 0) := HZ6.out.cell 0
        have z1 : wr.cell? ⟨w.heap.size, 1, none⟩ = some (.int .i64 0) := HZ6.out.cell 1
        have z2 : wr.cell? ⟨w.heap.size, 2, none⟩ = some (.int .i64 0) := HZ6.out.cell 2
        have z3 : wr.cell? ⟨w.heap.size, 3, none⟩ = some (.int .i64 0) := HZ6.out.cell 3
        have z4 : wr.cell? ⟨w.heap.size, 4, none⟩ = some (.int .i64 0) := HZ6.out.cell 4
        have z5 : wr.cell? ⟨w.heap.size, 5, none⟩ = some (.int .i64 0) := HZ6.out.cell 5
        have z6 : wr.cell? ⟨w.heap.size, 6, none⟩ = some (.int .i64 0) := HZ6.out.cell 6
        have zf := HZ6.out.fz
        by_cases h6 : rj.e = 0
        case neg =>
          have hb6 : (rj.e != 0) = true := by simpa using h6
          have HT4 : Hid (T = (zeroC, rj.e, rj)) := Lib.hid (by rw [HT3.out, if_neg h6])
          clear HT3
          go_wp2_with (go_at_call 88; refine HE6.out.mono ?_; rintro e we ⟨rfl, rfl⟩)
          obtain ⟨hov, hgv⟩ := HZ6.out.over zeroC
          obtain ⟨W5, hW5⟩ : ∃ W5, W5 = (World.setCell (World.setCell (World.setCell (World.setCell (World.setCell (World.setCell (World.setCell we ⟨w.heap.size, 0, none⟩ (.int .i64 0)) ⟨w.heap.size, 1, none⟩ (.int .i64 0)) ⟨w.heap.size, 2, none⟩ (.int .i64 0)) ⟨w.heap.size, 3, none⟩ (.int .i64 0)) ⟨w.heap.size, 4, none⟩ (.int .i64 0)) ⟨w.heap.size, 5, none⟩ (.int .i64 0)) ⟨w.heap.size, 6, none⟩ (.int .i64 0)) := ⟨_, rfl⟩
          have HOV : Hid (CmAt W5 w.heap.size zeroC) := Lib.hid (by rw [hW5]; exact hov)
          have HGV : Hid (we.grownBy W5 (some w.heap.size)) := Lib.hid (by rw [hW5]; exact hgv)
          rw [← hW5]
          clear hov hgv hW5
          have y0 : W5.cell? ⟨w.heap.size, 0, none⟩ = some (.int .i64 0) := HOV.out.cell 0
          have y1 : W5.cell? ⟨w.heap.size, 1, none⟩ = some (.int .i64 0) := HOV.out.cell 1
          have y2 : W5.cell? ⟨w.heap.size, 2, none⟩ = some (.int .i64 0) := HOV.out.cell 2
          have y3 : W5.cell? ⟨w.heap.size, 3, none⟩ = some (.int .i64 0) := HOV.out.cell 3
          have y4 : W5.cell? ⟨w.heap.size, 4, none⟩ = some (.int .i64 0) := HOV.out.cell 4
          have y5 : W5.cell? ⟨w.heap.size, 5, none⟩ = some (.int .i64 0) := HOV.out.cell 5
          have y6 : W5.cell? ⟨w.heap.size, 6, none⟩ = some (.int .i64 0) := HOV.out.cell 6
          refine bodyPost_ret (v := .tuple #[.agg #[.int .i64 0, .int .i64 0, .int .i64 0, .int .i64 0, .int .i64 0, .int .i64 0, .int .i64 0], .int .i64 rj.e]) (by simp [results, Tryz.results56, go_sem, y0, y1, y2, y3, y4, y5, y6]) rfl ?_
          rw [HT4.out]
          exact ⟨rfl, HI6.out.r.kept HGV.out (fun e => by injection e with e; omega), grown_resS HB0.out HI6.out.gr HGV.out⟩
        have hb6 : (rj.e != 0) = false := by simpa using h6
        have HT4 : Hid (T = (cj, 0, rj)) := Lib.hid (by rw [HT3.out, if_pos h6])
        have c0 : wr.cell? ⟨b, 0, none⟩ = some (.int .i64 cj.k) := HI6.out.c.cell 0
        have c1 : wr.cell? ⟨b, 1, none⟩ = some (.int .i64 cj.i) := HI6.out.c.cell 1
        have c2 : wr.cell? ⟨b, 2, none⟩ = some (.int .i64 cj.m) := HI6.out.c.cell 2
        have c3 : wr.cell? ⟨b, 3, none⟩ = some (.int .i64 cj.o) := HI6.out.c.cell 3
        have c4 : wr.cell? ⟨b, 4, none⟩ = some (.int .i64 cj.s) := HI6.out.c.cell 4
        have c5 : wr.cell? ⟨b, 5, none⟩ = some (.int .i64 cj.q) := HI6.out.c.cell 5
        have c6 : wr.cell? ⟨b, 6, none⟩ = some (.int .i64 cj.p) := HI6.out.c.cell 6
        clear HT3
        go_wp2_with (go_at_call 88; refine HE6.out.mono ?_; rintro e we ⟨rfl, rfl⟩)
        obtain ⟨hov, hgv⟩ := HZ6.out.over cj
        obtain ⟨W5, hW5⟩ : ∃ W5, W5 = (World.setCell (World.setCell (World.setCell (World.setCell (World.setCell (World.setCell (World.setCell we ⟨w.heap.size, 0, none⟩ (.int .i64 cj.k)) ⟨w.heap.size, 1, none⟩ (.int .i64 cj.i)) ⟨w.heap.size, 2, none⟩ (.int .i64 cj.m)) ⟨w.heap.size, 3, none⟩ (.int .i64 cj.o)) ⟨w.heap.size, 4, none⟩ (.int .i64 cj.s)) ⟨w.heap.size, 5, none⟩ (.int .i64 cj.q)) ⟨w.heap.size, 6, none⟩ (.int .i64 cj.p)) := ⟨_, rfl⟩
        have HOV : Hid (CmAt W5 w.heap.size cj) := Lib.hid (by rw [hW5]; exact hov)
        have HGV : Hid (we.grownBy W5 (some w.heap.size)) := Lib.hid (by rw [hW5]; exact hgv)
        rw [← hW5]
        clear hov hgv hW5
        have y0 : W5.cell? ⟨w.heap.size, 0, none⟩ = some (.int .i64 cj.k) := HOV.out.cell 0
        have y1 : W5.cell? ⟨w.heap.size, 1, none⟩ = some (.int .i64 cj.i) := HOV.out.cell 1
        have y2 : W5.cell? ⟨w.heap.size, 2, none⟩ = some (.int .i64 cj.m) := HOV.out.cell 2
        have y3 : W5.cell? ⟨w.heap.size, 3, none⟩ = some (.int .i64 cj.o) := HOV.out.cell 3
        have y4 : W5.cell? ⟨w.heap.size, 4, none⟩ = some (.int .i64 cj.s) := HOV.out.cell 4
        have y5 : W5.cell? ⟨w.heap.size, 5, none⟩ = some (.int .i64 cj.q) := HOV.out.cell 5
        have y6 : W5.cell? ⟨w.heap.size, 6, none⟩ = some (.int .i64 cj.p) := HOV.out.cell 6
        refine bodyPost_ret (v := .tuple #[.agg #[.int .i64 cj.k, .int .i64 cj.i, .int .i64 cj.m, .int .i64 cj.o, .int .i64 cj.s, .int .i64 cj.q, .int .i64 cj.p], .int .i64 0]) (by simp [results, Tryz.results56, go_sem, y0, y1, y2, y3, y4, y5, y6]) rfl ?_
        rw [HT4.out]
        exact ⟨rfl, HI6.out.r.kept HGV.out (fun e => by injection e with e; omega), grown_resS HB0.out HI6.out.gr HGV.out⟩
end Go.Proofs.YtmplokdbbhlomaaGreatDoor
