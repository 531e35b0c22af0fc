/-
  What codec.Get comes to, and '==' at commands, over this seat's translation.
-/
import Derived.Test.YtmplokdbbhlomaaDoorSc9
import Derived.Laws.StructEq
namespace Go.Proofs.YtmplokdbbhlomaaDoor
open Go.RowKit

set_option maxHeartbeats 1600000 in
theorem eqC_run (a b : Cm) (w : World) : (Op.equalIn 10000 TC (cmV a) (cmV b)).run Tryd.prog w = .ok (decide (a = b)) w := by
  obtain ⟨a0, a1, a2, a3, a4, a5, a6⟩ := a
  obtain ⟨b0, b1, b2, b3, b4, b5, b6⟩ := b
  unfold cmV
  have hd : decide (Cm.mk a0 a1 a2 a3 a4 a5 a6 = Cm.mk b0 b1 b2 b3 b4 b5 b6) = (a0 == b0 && (a1 == b1 && (a2 == b2 && (a3 == b3 && (a4 == b4 && (a5 == b5 && a6 == b6)))))) := by
    by_cases h : Cm.mk a0 a1 a2 a3 a4 a5 a6 = Cm.mk b0 b1 b2 b3 b4 b5 b6
    · rw [decide_eq_true h]
      simp only [Cm.mk.injEq] at h
      obtain ⟨rfl, rfl, rfl, rfl, rfl, rfl, rfl⟩ := h
      simp
    · rw [decide_eq_false h]
      simp only [Cm.mk.injEq] at h
      symm
      apply Bool.eq_false_iff.2
      intro h2
      simp at h2
      exact h h2
  rw [hd]
  go_simp
  repeat' split
  all_goals simp [*]
theorem below_byS {w w3 W : World} (h : Below w.heap.size w w3) (hg : w3.grownBy W (some w.heap.size)) : Below w.heap.size w W := h.grown hg h.size (fun k hk => by injection hk with hk; omega)
set_option maxRecDepth 100000 in
set_option maxHeartbeats 6400000 in
theorem cget_any (l : List UInt8) (w : World) (hl : l.length ≤ 1000000) : Calls Tryd.prog 40 #[.string (bs l)] w fun e w' => e = .returned (.tuple #[cmV (getC l).1, .int .i64 (getC l).2]) ∧ Below w.heap.size w w' := by
  have HB0 : Hid (Below w.heap.size w (w.alloc (.cells (cmCells zeroC) TC))) := Lib.hid ((Below.refl _ _).alloc (Nat.le_refl _) _)
  have HZ := Lib.hid (CmAt.made w zeroC)
  have hz0 : w.heap.size < (w.alloc (.cells (cmCells zeroC) TC)).heap.size := by simp
  obtain ⟨T, HT⟩ : ∃ T, Hid (T = getC l) := ⟨_, Lib.hid rfl⟩
  rw [← HT.out]
  unfold getC at HT
  rw [zero_cells] at HB0 HZ hz0
  go_enter Tryd.func40, Tryd.ntmps40
  go_wp2_with fail
  generalize w.alloc (.cells #[.int .i64 0, .int .i64 0, .int .i64 0, .int .i64 0, .int .i64 0, .int .i64 0, .int .i64 0] TC) = w0 at *
  refine (new_any l w0 hl).mono ?_
  rintro e w1 ⟨rfl, hr1, hb1⟩
  have HR1 := Lib.hid hr1
  have HB1 : Hid (Below w.heap.size w w1) := Lib.hid (HB0.out.trans (hb1.mono HB0.out.size))
  have HZ1 := Lib.hid (HZ.out.below hb1)
  clear hr1 hb1
  go_wp2_with (go_at_call 57; refine (read_any w0.heap.size ⟨l, 0⟩ w1 HR1.out).mono ?_)
  generalize hC : readC ⟨l, 0⟩ = C at *
  obtain ⟨c, er, r'⟩ := C
  rintro e w2 ⟨rfl, hr2, hg2⟩
  have HR2 : Hid (RdAt w2 w0.heap.size r') := Lib.hid hr2
  have HB2 : Hid (Below w.heap.size w w2) := Lib.hid (HB1.out.grown hg2 HB1.out.size (fun k hk => by injection hk with hk; omega))
  have HZ2 := Lib.hid (HZ1.out.kept hg2 (fun e => by injection e with e; omega))
  clear hr2 hg2 hC
  simp only at HT
  unfold cmV
  have HBA : Hid (Below w2.heap.size w2 (w2.alloc (.cells (cmCells c) TC))) := Lib.hid ((Below.refl _ _).alloc (Nat.le_refl _) _)
  have HC3 := Lib.hid (CmAt.made w2 c)
  have HZ3 := Lib.hid (HZ2.out.below HBA.out)
  have HR3 := Lib.hid (HR2.out.below HBA.out)
  have HB3 : Hid (Below w.heap.size w (w2.alloc (.cells (cmCells c) TC))) := Lib.hid (HB2.out.trans (HBA.out.mono HB2.out.size))
  have hcc : cmCells c = #[.int .i64 c.k, .int .i64 c.i, .int .i64 c.m, .int .i64 c.o, .int .i64 c.s, .int .i64 c.q, .int .i64 c.p] := rfl
  rw [hcc] at HC3 HZ3 HR3 HB3 HBA
  clear hcc HBA
  have z0 : (w2.alloc (.cells #[.int .i64 c.k, .int .i64 c.i, .int .i64 c.m, .int .i64 c.o, .int .i64 c.s, .int .i64 c.q, .int .i64 c.p] TC)).cell? ⟨w.heap.size, 0, none⟩ = some (.int .i64 0) := HZ3.out.cell 0
  have c0 : (w2.alloc (.cells #[.int .i64 c.k, .int .i64 c.i, .int .i64 c.m, .int .i64 c.o, .int .i64 c.s, .int .i64 c.q, .int .i64 c.p] TC)).cell? ⟨w2.heap.size, 0, none⟩ = some (.int .i64 c.k) := HC3.out.cell 0
  have z1 : (w2.alloc (.cells #[.int .i64 c.k, .int .i64 c.i, .int .i64 c.m, .int .i64 c.o, .int .i64 c.s, .int .i64 c.q, .int .i64 c.p] TC)).cell? ⟨w.heap.size, 1, none⟩ = some (.int .i64 0) := HZ3.out.cell 1
  have c1 : (w2.alloc (.cells #[.int .i64 c.k, .int .i64 c.i, .int .i64 c.m, .int .i64 c.o, .int .i64 c.s, .int .i64 c.q, .int .i64 c.p] TC)).cell? ⟨w2.heap.size, 1, none⟩ = some (.int .i64 c.i) := HC3.out.cell 1
  have z2 : (w2.alloc (.cells #[.int .i64 c.k, .int .i64 c.i, .int .i64 c.m, .int .i64 c.o, .int .i64 c.s, .int .i64 c.q, .int .i64 c.p] TC)).cell? ⟨w.heap.size, 2, none⟩ = some (.int .i64 0) := HZ3.out.cell 2
  have c2 : (w2.alloc (.cells #[.int .i64 c.k, .int .i64 c.i, .int .i64 c.m, .int .i64 c.o, .int .i64 c.s, .int .i64 c.q, .int .i64 c.p] TC)).cell? ⟨w2.heap.size, 2, none⟩ = some (.int .i64 c.m) := HC3.out.cell 2
  have z3 : (w2.alloc (.cells #[.int .i64 c.k, .int .i64 c.i, .int .i64 c.m, .int .i64 c.o, .int .i64 c.s, .int .i64 c.q, .int .i64 c.p] TC)).cell? ⟨w.heap.size, 3, none⟩ = some (.int .i64 0) := HZ3.out.cell 3
  have c3 : (w2.alloc (.cells #[.int .i64 c.k, .int .i64 c.i, .int .i64 c.m, .int .i64 c.o, .int .i64 c.s, .int .i64 c.q, .int .i64 c.p] TC)).cell? ⟨w2.heap.size, 3, none⟩ = some (.int .i64 c.o) := HC3.out.cell 3
  have z4 : (w2.alloc (.cells #[.int .i64 c.k, .int .i64 c.i, .int .i64 c.m, .int .i64 c.o, .int .i64 c.s, .int .i64 c.q, .int .i64 c.p] TC)).cell? ⟨w.heap.size, 4, none⟩ = some (.int .i64 0) := HZ3.out.cell 4
  have c4 : (w2.alloc (.cells #[.int .i64 c.k, .int .i64 c.i, .int .i64 c.m, .int .i64 c.o, .int .i64 c.s, .int .i64 c.q, .int .i64 c.p] TC)).cell? ⟨w2.heap.size, 4, none⟩ = some (.int .i64 c.s) := HC3.out.cell 4
  have z5 : (w2.alloc (.cells #[.int .i64 c.k, .int .i64 c.i, .int .i64 c.m, .int .i64 c.o, .int .i64 c.s, .int .i64 c.q, .int .i64 c.p] TC)).cell? ⟨w.heap.size, 5, none⟩ = some (.int .i64 0) := HZ3.out.cell 5
  have c5 : (w2.alloc (.cells #[.int .i64 c.k, .int .i64 c.i, .int .i64 c.m, .int .i64 c.o, .int .i64 c.s, .int .i64 c.q, .int .i64 c.p] TC)).cell? ⟨w2.heap.size, 5, none⟩ = some (.int .i64 c.q) := HC3.out.cell 5
  have z6 : (w2.alloc (.cells #[.int .i64 c.k, .int .i64 c.i, .int .i64 c.m, .int .i64 c.o, .int .i64 c.s, .int .i64 c.q, .int .i64 c.p] TC)).cell? ⟨w.heap.size, 6, none⟩ = some (.int .i64 0) := HZ3.out.cell 6
  have c6 : (w2.alloc (.cells #[.int .i64 c.k, .int .i64 c.i, .int .i64 c.m, .int .i64 c.o, .int .i64 c.s, .int .i64 c.q, .int .i64 c.p] TC)).cell? ⟨w2.heap.size, 6, none⟩ = some (.int .i64 c.p) := HC3.out.cell 6
  have zf := HZ3.out.fz
  generalize hw3 : (w2.alloc (.cells #[.int .i64 c.k, .int .i64 c.i, .int .i64 c.m, .int .i64 c.o, .int .i64 c.s, .int .i64 c.q, .int .i64 c.p] TC)) = w3 at *
  by_cases h0 : er = 0
  case neg =>
    have he : (er == 0) = false := by simpa using h0
    have hne : (er != 0) = true := by simpa using h0
    have HT2 : Hid (T = (zeroC, er)) := Lib.hid (by rw [HT.out, if_neg h0])
    go_wp2_with fail
    skip
    obtain ⟨hov, hgv⟩ := HZ3.out.over zeroC
    obtain ⟨W5, hW5⟩ : ∃ W5, W5 = (World.setCell (World.setCell (World.setCell (World.setCell (World.setCell (World.setCell (World.setCell w3 ⟨w.heap.size, 0, none⟩ (.int .i64 0)) ⟨w.heap.size, 1, none⟩ (.int .i64 0)) ⟨w.heap.size, 2, none⟩ (.int .i64 0)) ⟨w.heap.size, 3, none⟩ (.int .i64 0)) ⟨w.heap.size, 4, none⟩ (.int .i64 0)) ⟨w.heap.size, 5, none⟩ (.int .i64 0)) ⟨w.heap.size, 6, none⟩ (.int .i64 0)) := ⟨_, rfl⟩
    have HOV : Hid (CmAt W5 w.heap.size zeroC) := Lib.hid (by rw [hW5]; exact hov)
    have HGV : Hid (w3.grownBy W5 (some w.heap.size)) := Lib.hid (by rw [hW5]; exact hgv)
    rw [← hW5]
    clear hov hgv hW5
    have y0 : W5.cell? ⟨w.heap.size, 0, none⟩ = some (.int .i64 0) := HOV.out.cell 0
    have y1 : W5.cell? ⟨w.heap.size, 1, none⟩ = some (.int .i64 0) := HOV.out.cell 1
    have y2 : W5.cell? ⟨w.heap.size, 2, none⟩ = some (.int .i64 0) := HOV.out.cell 2
    have y3 : W5.cell? ⟨w.heap.size, 3, none⟩ = some (.int .i64 0) := HOV.out.cell 3
    have y4 : W5.cell? ⟨w.heap.size, 4, none⟩ = some (.int .i64 0) := HOV.out.cell 4
    have y5 : W5.cell? ⟨w.heap.size, 5, none⟩ = some (.int .i64 0) := HOV.out.cell 5
    have y6 : W5.cell? ⟨w.heap.size, 6, none⟩ = some (.int .i64 0) := HOV.out.cell 6
    refine bodyPost_ret (v := .tuple #[.agg #[.int .i64 0, .int .i64 0, .int .i64 0, .int .i64 0, .int .i64 0, .int .i64 0, .int .i64 0], .int .i64 er]) (by simp [results, Tryd.results40, go_sem, y0, y1, y2, y3, y4, y5, y6]) rfl ?_
    rw [HT2.out]
    exact ⟨rfl, below_byS HB3.out HGV.out⟩
  subst h0
  have HEN := Lib.hid (end_any w0.heap.size r' w3 HR3.out)
  have HT3 : Hid (T = if rEnd r' = 0 then (c, 0) else (zeroC, rEnd r')) := Lib.hid (by rw [HT.out, if_pos rfl])
  clear HT
  generalize rEnd r' = en at *
  by_cases h1 : en = 0
  case neg =>
    have hne : (en != 0) = true := by simpa using h1
    have HT2 : Hid (T = (zeroC, en)) := Lib.hid (by rw [HT3.out, if_neg h1])
    clear HT3
    go_wp2_with (go_at_call 24; refine HEN.out.mono ?_; rintro e w4 ⟨rfl, rfl⟩)
    obtain ⟨hov, hgv⟩ := HZ3.out.over zeroC
    obtain ⟨W5, hW5⟩ : ∃ W5, W5 = (World.setCell (World.setCell (World.setCell (World.setCell (World.setCell (World.setCell (World.setCell w4 ⟨w.heap.size, 0, none⟩ (.int .i64 0)) ⟨w.heap.size, 1, none⟩ (.int .i64 0)) ⟨w.heap.size, 2, none⟩ (.int .i64 0)) ⟨w.heap.size, 3, none⟩ (.int .i64 0)) ⟨w.heap.size, 4, none⟩ (.int .i64 0)) ⟨w.heap.size, 5, none⟩ (.int .i64 0)) ⟨w.heap.size, 6, none⟩ (.int .i64 0)) := ⟨_, rfl⟩
    have HOV : Hid (CmAt W5 w.heap.size zeroC) := Lib.hid (by rw [hW5]; exact hov)
    have HGV : Hid (w4.grownBy W5 (some w.heap.size)) := Lib.hid (by rw [hW5]; exact hgv)
    rw [← hW5]
    clear hov hgv hW5
    have y0 : W5.cell? ⟨w.heap.size, 0, none⟩ = some (.int .i64 0) := HOV.out.cell 0
    have y1 : W5.cell? ⟨w.heap.size, 1, none⟩ = some (.int .i64 0) := HOV.out.cell 1
    have y2 : W5.cell? ⟨w.heap.size, 2, none⟩ = some (.int .i64 0) := HOV.out.cell 2
    have y3 : W5.cell? ⟨w.heap.size, 3, none⟩ = some (.int .i64 0) := HOV.out.cell 3
    have y4 : W5.cell? ⟨w.heap.size, 4, none⟩ = some (.int .i64 0) := HOV.out.cell 4
    have y5 : W5.cell? ⟨w.heap.size, 5, none⟩ = some (.int .i64 0) := HOV.out.cell 5
    have y6 : W5.cell? ⟨w.heap.size, 6, none⟩ = some (.int .i64 0) := HOV.out.cell 6
    refine bodyPost_ret (v := .tuple #[.agg #[.int .i64 0, .int .i64 0, .int .i64 0, .int .i64 0, .int .i64 0, .int .i64 0, .int .i64 0], .int .i64 en]) (by simp [results, Tryd.results40, go_sem, y0, y1, y2, y3, y4, y5, y6]) rfl ?_
    rw [HT2.out]
    exact ⟨rfl, below_byS HB3.out HGV.out⟩
  · subst h1
    have HT2 : Hid (T = (c, 0)) := Lib.hid (by rw [HT3.out, if_pos rfl])
    clear HT3
    go_wp2_with (go_at_call 24; refine HEN.out.mono ?_; rintro e w4 ⟨rfl, rfl⟩)
    obtain ⟨hov, hgv⟩ := HZ3.out.over c
    obtain ⟨W5, hW5⟩ : ∃ W5, W5 = (World.setCell (World.setCell (World.setCell (World.setCell (World.setCell (World.setCell (World.setCell w4 ⟨w.heap.size, 0, none⟩ (.int .i64 c.k)) ⟨w.heap.size, 1, none⟩ (.int .i64 c.i)) ⟨w.heap.size, 2, none⟩ (.int .i64 c.m)) ⟨w.heap.size, 3, none⟩ (.int .i64 c.o)) ⟨w.heap.size, 4, none⟩ (.int .i64 c.s)) ⟨w.heap.size, 5, none⟩ (.int .i64 c.q)) ⟨w.heap.size, 6, none⟩ (.int .i64 c.p)) := ⟨_, rfl⟩
    have HOV : Hid (CmAt W5 w.heap.size c) := Lib.hid (by rw [hW5]; exact hov)
    have HGV : Hid (w4.grownBy W5 (some w.heap.size)) := Lib.hid (by rw [hW5]; exact hgv)
    rw [← hW5]
    clear hov hgv hW5
    have y0 : W5.cell? ⟨w.heap.size, 0, none⟩ = some (.int .i64 c.k) := HOV.out.cell 0
    have y1 : W5.cell? ⟨w.heap.size, 1, none⟩ = some (.int .i64 c.i) := HOV.out.cell 1
    have y2 : W5.cell? ⟨w.heap.size, 2, none⟩ = some (.int .i64 c.m) := HOV.out.cell 2
    have y3 : W5.cell? ⟨w.heap.size, 3, none⟩ = some (.int .i64 c.o) := HOV.out.cell 3
    have y4 : W5.cell? ⟨w.heap.size, 4, none⟩ = some (.int .i64 c.s) := HOV.out.cell 4
    have y5 : W5.cell? ⟨w.heap.size, 5, none⟩ = some (.int .i64 c.q) := HOV.out.cell 5
    have y6 : W5.cell? ⟨w.heap.size, 6, none⟩ = some (.int .i64 c.p) := HOV.out.cell 6
    refine bodyPost_ret (v := .tuple #[.agg #[.int .i64 c.k, .int .i64 c.i, .int .i64 c.m, .int .i64 c.o, .int .i64 c.s, .int .i64 c.q, .int .i64 c.p], .int .i64 0]) (by simp [results, Tryd.results40, go_sem, y0, y1, y2, y3, y4, y5, y6]) rfl ?_
    rw [HT2.out]
    exact ⟨rfl, below_byS HB3.out HGV.out⟩
end Go.Proofs.YtmplokdbbhlomaaDoor
