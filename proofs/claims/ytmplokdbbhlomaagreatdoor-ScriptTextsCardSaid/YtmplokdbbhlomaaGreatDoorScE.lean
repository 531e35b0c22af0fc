/-
  Several texts in one: Sc10, Sc11, Sc12, Sc13, Sc14.
-/
import Derived.Test.YtmplokdbbhlomaaGreatDoorSc9
import Derived.Laws.StructEq
/-
  What codec.Get comes to, and '==' at commands, over this seat's translation.
-/
namespace Go.Proofs.YtmplokdbbhlomaaGreatDoor
open Go.RowKit

set_option maxHeartbeats 1600000 in
theorem eqC_run (a b : Cm) (w : World) : (Op.equalIn 10000 TC (cmV a) (cmV b)).run Tryz.prog w = .ok (decide (a = b)) w := by
  obtain ⟨a0, a1, a2, a3, a4, a5, a6⟩ := a
  obtain ⟨b0, b1, b2, b3, b4, b5, b6⟩ := b
  unfold cmV
  have hd : decide (Cm.mk a0 a1 a2 a3 a4 a5 a6 = Cm.mk b0 b1 b2 b3 b4 b5 b6) = (a0 == b0 && (a1 == b1 && (a2 == b2 && (a3 == b3 && (a4 == b4 && (a5 == b5 && a6 == b6)))))) := by
    by_cases h : Cm.mk a0 a1 a2 a3 a4 a5 a6 = Cm.mk b0 b1 b2 b3 b4 b5 b6
    · rw [decide_eq_true h]
      simp only [Cm.mk.injEq] at h
      obtain ⟨rfl, rfl, rfl, rfl, rfl, rfl, rfl⟩ := h
      simp
    · rw [decide_eq_false h]
      simp only [Cm.mk.injEq] at h
      symm
      apply Bool.eq_false_iff.2
      intro h2
      simp at h2
      exact h h2
  rw [hd]
  go_simp
  repeat' split
  all_goals simp [*]
theorem below_byS {w w3 W : World} (h : Below w.heap.size w w3) (hg : w3.grownBy W (some w.heap.size)) : Below w.heap.size w W := h.grown hg h.size (fun k hk => by injection hk with hk; omega)
set_option maxRecDepth 100000 in
set_option maxHeartbeats 6400000 in
theorem cget_any (l : List UInt8) (w : World) (hl : l.length ≤ 1000000) : Calls Tryz.prog 27 #[.string (bs l)] w fun e w' => e = .returned (.tuple #[cmV (getC l).1, .int .i64 (getC l).2]) ∧ Below w.heap.size w w' := by
  have HB0 : Hid (Below w.heap.size w (w.alloc (.cells (cmCells zeroC) TC))) := Lib.hid ((Below.refl _ _).alloc (Nat.le_refl _) _)
  have HZ := Lib.hid (CmAt.made w zeroC)
  have hz0 : w.heap.size < (w.alloc (.cells (cmCells zeroC) TC)).heap.size := by simp
  obtain ⟨T, HT⟩ : ∃ T, Hid (T = getC l) := ⟨_, Lib.hid rfl⟩
  rw [← HT.out]
  unfold getC at HT
  rw [zero_cells] at HB0 HZ hz0
  go_enter Tryz.func27, Tryz.ntmps27
  go_wp2_with fail
  generalize w.alloc (.cells #[.int .i64 0, .int .i64 0, .int .i64 0, .int .i64 0, .int .i64 0, .int .i64 0, .int .i64 0] TC) = w0 at *
  refine (new_any l w0 hl).mono ?_
  rintro e w1 ⟨rfl, hr1, hb1⟩
  have HR1 := Lib.hid hr1
  have HB1 : Hid (Below w.heap.size w w1) := Lib.hid (HB0.out.trans (hb1.mono HB0.out.size))
  have HZ1 := Lib.hid (HZ.out.below hb1)
  clear hr1 hb1
  go_wp2_with (go_at_call 56; refine (read_any w0.heap.size ⟨l, 0⟩ w1 HR1.out).mono ?_)
  generalize hC : readC ⟨l, 0⟩ = C at *
  obtain ⟨c, er, r'⟩ := C
  rintro e w2 ⟨rfl, hr2, hg2⟩
  have HR2 : Hid (RdAt w2 w0.heap.size r') := Lib.hid hr2
  have HB2 : Hid (Below w.heap.size w w2) := Lib.hid (HB1.out.grown hg2 HB1.out.size (fun k hk => by injection hk with hk; omega))
  have HZ2 := Lib.hid (HZ1.out.kept hg2 (fun e => by injection e with e; omega))
  clear hr2 hg2 hC
  simp only at HT
  unfold cmV
  have HBA : Hid (Below w2.heap.size w2 (w2.alloc (.cells (cmCells c) TC))) := Lib.hid ((Below.refl _ _).alloc (Nat.le_refl _) _)
  have HC3 := Lib.hid (CmAt.made w2 c)
  have HZ3 := Lib.hid (HZ2.out.below HBA.out)
  have HR3 := Lib.hid (HR2.out.below HBA.out)
  have HB3 : Hid (Below w.heap.size w (w2.alloc (.cells (cmCells c) TC))) := Lib.hid (HB2.out.trans (HBA.out.mono HB2.out.size))
  have hcc : cmCells c = #[.int .i64 c.k, .int .i64 c.i, .int .i64 c.m, .int .i64 c.o, .int .i64 c.s, .int .i64 c.q, .int .i64 c.p] := rfl
  rw [hcc] at HC3 HZ3 HR3 HB3 HBA
  clear hcc HBA
  have z0 : (w2.alloc (.cells #[.int .i64 c.k, .int .i64 c.i, .int .i64 c.m, .int .i64 c.o, .int .i64 c.s, .int .i64 c.q, .int .i64 c.p] TC)).cell? ⟨w.heap.size, 0, none⟩ = some (.int .i64 0) := HZ3.out.cell 0
  have c0 : (w2.alloc (.cells #[.int .i64 c.k, .int .i64 c.i, .int .i64 c.m, .int .i64 c.o, .int .i64 c.s, .int .i64 c.q, .int .i64 c.p] TC)).cell? ⟨w2.heap.size, 0, none⟩ = some (.int .i64 c.k) := HC3.out.cell 0
  have z1 : (w2.alloc (.cells #[.int .i64 c.k, .int .i64 c.i, .int .i64 c.m, .int .i64 c.o, .int .i64 c.s, .int .i64 c.q, .int .i64 c.p] TC)).cell? ⟨w.heap.size, 1, none⟩ = some (.int .i64 0) := HZ3.out.cell 1
  have c1 : (w2.alloc (.cells #[.int .i64 c.k, .int .i64 c.i, .int .i64 c.m, .int .i64 c.o, .int .i64 c.s, .int .i64 c.q, .int .i64 c.p] TC)).cell? ⟨w2.heap.size, 1, none⟩ = some (.int .i64 c.i) := HC3.out.cell 1
  have z2 : (w2.alloc (.cells #[.int .i64 c.k, .int .i64 c.i, .int .i64 c.m, .int .i64 c.o, .int .i64 c.s, .int .i64 c.q, .int .i64 c.p] TC)).cell? ⟨w.heap.size, 2, none⟩ = some (.int .i64 0) := HZ3.out.cell 2
  have c2 : (w2.alloc (.cells #[.int .i64 c.k, .int .i64 c.i, .int .i64 c.m, .int .i64 c.o, .int .i64 c.s, .int .i64 c.q, .int .i64 c.p] TC)).cell? ⟨w2.heap.size, 2, none⟩ = some (.int .i64 c.m) := HC3.out.cell 2
  have z3 : (w2.alloc (.cells #[.int .i64 c.k, .int .i64 c.i, .int .i64 c.m, .int .i64 c.o, .int .i64 c.s, .int .i64 c.q, .int .i64 c.p] TC)).cell? ⟨w.heap.size, 3, none⟩ = some (.int .i64 0) := HZ3.out.cell 3
  have c3 : (w2.alloc (.cells #[.int .i64 c.k, .int .i64 c.i, .int .i64 c.m, .int .i64 c.o, .int .i64 c.s, .int .i64 c.q, .int .i64 c.p] TC)).cell? ⟨w2.heap.size, 3, none⟩ = some (.int .i64 c.o) := HC3.out.cell 3
  have z4 : (w2.alloc (.cells #[.int .i64 c.k, .int .i64 c.i, .int .i64 c.m, .int .i64 c.o, .int .i64 c.s, .int .i64 c.q, .int .i64 c.p] TC)).cell? ⟨w.heap.size, 4, none⟩ = some (.int .i64 0) := HZ3.out.cell 4
  have c4 : (w2.alloc (.cells #[.int .i64 c.k, .int .i64 c.i, .int .i64 c.m, .int .i64 c.o, .int .i64 c.s, .int .i64 c.q, .int .i64 c.p] TC)).cell? ⟨w2.heap.size, 4, none⟩ = some (.int .i64 c.s) := HC3.out.cell 4
  have z5 : (w2.alloc (.cells #[.int .i64 c.k, .int .i64 c.i, .int .i64 c.m, .int .i64 c.o, .int .i64 c.s, .int .i64 c.q, .int .i64 c.p] TC)).cell? ⟨w.heap.size, 5, none⟩ = some (.int .i64 0) := HZ3.out.cell 5
  have c5 : (w2.alloc (.cells #[.int .i64 c.k, .int .i64 c.i, .int .i64 c.m, .int .i64 c.o, .int .i64 c.s, .int .i64 c.q, .int .i64 c.p] TC)).cell? ⟨w2.heap.size, 5, none⟩ = some (.int .i64 c.q) := HC3.out.cell 5
  have z6 : (w2.alloc (.cells #[.int .i64 c.k, .int .i64 c.i, .int .i64 c.m, .int .i64 c.o, .int .i64 c.s, .int .i64 c.q, .int .i64 c.p] TC)).cell? ⟨w.heap.size, 6, none⟩ = some (.int .i64 0) := HZ3.out.cell 6
  have c6 : (w2.alloc (.cells #[.int .i64 c.k, .int .i64 c.i, .int .i64 c.m, .int .i64 c.o, .int .i64 c.s, .int .i64 c.q, .int .i64 c.p] TC)).cell? ⟨w2.heap.size, 6, none⟩ = some (.int .i64 c.p) := HC3.out.cell 6
  have zf := HZ3.out.fz
  generalize hw3 : (w2.alloc (.cells #[.int .i64 c.k, .int .i64 c.i, .int .i64 c.m, .int .i64 c.o, .int .i64 c.s, .int .i64 c.q, .int .i64 c.p] TC)) = w3 at *
  by_cases h0 : er = 0
  case neg =>
    have he : (er == 0) = false := by simpa using h0
    have hne : (er != 0) = true := by simpa using h0
    have HT2 : Hid (T = (zeroC, er)) := Lib.hid (by rw [HT.out, if_neg h0])
    go_wp2_with fail
    skip
    obtain ⟨hov, hgv⟩ := HZ3.out.over zeroC
    obtain ⟨W5, hW5⟩ : ∃ W5, W5 = (World.setCell (World.setCell (World.setCell (World.setCell (World.setCell (World.setCell (World.setCell w3 ⟨w.heap.size, 0, none⟩ (.int .i64 0)) ⟨w.heap.size, 1, none⟩ (.int .i64 0)) ⟨w.heap.size, 2, none⟩ (.int .i64 0)) ⟨w.heap.size, 3, none⟩ (.int .i64 0)) ⟨w.heap.size, 4, none⟩ (.int .i64 0)) ⟨w.heap.size, 5, none⟩ (.int .i64 0)) ⟨w.heap.size, 6, none⟩ (.int .i64 0)) := ⟨_, rfl⟩
    have HOV : Hid (CmAt W5 w.heap.size zeroC) := Lib.hid (by rw [hW5]; exact hov)
    have HGV : Hid (w3.grownBy W5 (some w.heap.size)) := Lib.hid (by rw [hW5]; exact hgv)
    rw [← hW5]
    clear hov hgv hW5
    have y0 : W5.cell? ⟨w.heap.size, 0, none⟩ = some (.int .i64 0) := HOV.out.cell 0
    have y1 : W5.cell? ⟨w.heap.size, 1, none⟩ = some (.int .i64 0) := HOV.out.cell 1
    have y2 : W5.cell? ⟨w.heap.size, 2, none⟩ = some (.int .i64 0) := HOV.out.cell 2
    have y3 : W5.cell? ⟨w.heap.size, 3, none⟩ = some (.int .i64 0) := HOV.out.cell 3
    have y4 : W5.cell? ⟨w.heap.size, 4, none⟩ = some (.int .i64 0) := HOV.out.cell 4
    have y5 : W5.cell? ⟨w.heap.size, 5, none⟩ = some (.int .i64 0) := HOV.out.cell 5
    have y6 : W5.cell? ⟨w.heap.size, 6, none⟩ = some (.int .i64 0) := HOV.out.cell 6
    refine bodyPost_ret (v := .tuple #[.agg #[.int .i64 0, .int .i64 0, .int .i64 0, .int .i64 0, .int .i64 0, .int .i64 0, .int .i64 0], .int .i64 er]) (by simp [results, Tryz.results27, go_sem, y0, y1, y2, y3, y4, y5, y6]) rfl ?_
    rw [HT2.out]
    exact ⟨rfl, below_byS HB3.out HGV.out⟩
  subst h0
  have HEN := Lib.hid (end_any w0.heap.size r' w3 HR3.out)
  have HT3 : Hid (T = if rEnd r' = 0 then (c, 0) else (zeroC, rEnd r')) := Lib.hid (by rw [HT.out, if_pos rfl])
  clear HT
  generalize rEnd r' = en at *
  by_cases h1 : en = 0
  case neg =>
    have hne : (en != 0) = true := by simpa using h1
    have HT2 : Hid (T = (zeroC, en)) := Lib.hid (by rw [HT3.out, if_neg h1])
    clear HT3
    go_wp2_with (go_at_call 57; refine HEN.out.mono ?_; rintro e w4 ⟨rfl, rfl⟩)
    obtain ⟨hov, hgv⟩ := HZ3.out.over zeroC
    obtain ⟨W5, hW5⟩ : ∃ W5, W5 = (World.setCell (World.setCell (World.setCell (World.setCell (World.setCell (World.setCell (World.setCell w4 ⟨w.heap.size, 0, none⟩ (.int .i64 0)) ⟨w.heap.size, 1, none⟩ (.int .i64 0)) ⟨w.heap.size, 2, none⟩ (.int .i64 0)) ⟨w.heap.size, 3, none⟩ (.int .i64 0)) ⟨w.heap.size, 4, none⟩ (.int .i64 0)) ⟨w.heap.size, 5, none⟩ (.int .i64 0)) ⟨w.heap.size, 6, none⟩ (.int .i64 0)) := ⟨_, rfl⟩
    have HOV : Hid (CmAt W5 w.heap.size zeroC) := Lib.hid (by rw [hW5]; exact hov)
    have HGV : Hid (w4.grownBy W5 (some w.heap.size)) := Lib.hid (by rw [hW5]; exact hgv)
    rw [← hW5]
    clear hov hgv hW5
    have y0 : W5.cell? ⟨w.heap.size, 0, none⟩ = some (.int .i64 0) := HOV.out.cell 0
    have y1 : W5.cell? ⟨w.heap.size, 1, none⟩ = some (.int .i64 0) := HOV.out.cell 1
    have y2 : W5.cell? ⟨w.heap.size, 2, none⟩ = some (.int .i64 0) := HOV.out.cell 2
    have y3 : W5.cell? ⟨w.heap.size, 3, none⟩ = some (.int .i64 0) := HOV.out.cell 3
    have y4 : W5.cell? ⟨w.heap.size, 4, none⟩ = some (.int .i64 0) := HOV.out.cell 4
    have y5 : W5.cell? ⟨w.heap.size, 5, none⟩ = some (.int .i64 0) := HOV.out.cell 5
    have y6 : W5.cell? ⟨w.heap.size, 6, none⟩ = some (.int .i64 0) := HOV.out.cell 6
    refine bodyPost_ret (v := .tuple #[.agg #[.int .i64 0, .int .i64 0, .int .i64 0, .int .i64 0, .int .i64 0, .int .i64 0, .int .i64 0], .int .i64 en]) (by simp [results, Tryz.results27, go_sem, y0, y1, y2, y3, y4, y5, y6]) rfl ?_
    rw [HT2.out]
    exact ⟨rfl, below_byS HB3.out HGV.out⟩
  · subst h1
    have HT2 : Hid (T = (c, 0)) := Lib.hid (by rw [HT3.out, if_pos rfl])
    clear HT3
    go_wp2_with (go_at_call 57; refine HEN.out.mono ?_; rintro e w4 ⟨rfl, rfl⟩)
    obtain ⟨hov, hgv⟩ := HZ3.out.over c
    obtain ⟨W5, hW5⟩ : ∃ W5, W5 = (World.setCell (World.setCell (World.setCell (World.setCell (World.setCell (World.setCell (World.setCell w4 ⟨w.heap.size, 0, none⟩ (.int .i64 c.k)) ⟨w.heap.size, 1, none⟩ (.int .i64 c.i)) ⟨w.heap.size, 2, none⟩ (.int .i64 c.m)) ⟨w.heap.size, 3, none⟩ (.int .i64 c.o)) ⟨w.heap.size, 4, none⟩ (.int .i64 c.s)) ⟨w.heap.size, 5, none⟩ (.int .i64 c.q)) ⟨w.heap.size, 6, none⟩ (.int .i64 c.p)) := ⟨_, rfl⟩
    have HOV : Hid (CmAt W5 w.heap.size c) := Lib.hid (by rw [hW5]; exact hov)
    have HGV : Hid (w4.grownBy W5 (some w.heap.size)) := Lib.hid (by rw [hW5]; exact hgv)
    rw [← hW5]
    clear hov hgv hW5
    have y0 : W5.cell? ⟨w.heap.size, 0, none⟩ = some (.int .i64 c.k) := HOV.out.cell 0
    have y1 : W5.cell? ⟨w.heap.size, 1, none⟩ = some (.int .i64 c.i) := HOV.out.cell 1
    have y2 : W5.cell? ⟨w.heap.size, 2, none⟩ = some (.int .i64 c.m) := HOV.out.cell 2
    have y3 : W5.cell? ⟨w.heap.size, 3, none⟩ = some (.int .i64 c.o) := HOV.out.cell 3
    have y4 : W5.cell? ⟨w.heap.size, 4, none⟩ = some (.int .i64 c.s) := HOV.out.cell 4
    have y5 : W5.cell? ⟨w.heap.size, 5, none⟩ = some (.int .i64 c.q) := HOV.out.cell 5
    have y6 : W5.cell? ⟨w.heap.size, 6, none⟩ = some (.int .i64 c.p) := HOV.out.cell 6
    refine bodyPost_ret (v := .tuple #[.agg #[.int .i64 c.k, .int .i64 c.i, .int .i64 c.m, .int .i64 c.o, .int .i64 c.s, .int .i64 c.q, .int .i64 c.p], .int .i64 0]) (by simp [results, Tryz.results27, go_sem, y0, y1, y2, y3, y4, y5, y6]) rfl ?_
    rw [HT2.out]
    exact ⟨rfl, below_byS HB3.out HGV.out⟩
end Go.Proofs.YtmplokdbbhlomaaGreatDoor

/-
  What script.Check and all come to, over this seat's translation: contracts for callers.
-/
namespace Go.Proofs.YtmplokdbbhlomaaGreatDoor
open Go.RowKit

abbrev TSt : TypeId := 25
def stCells (x : St) : Array Value := #[.int .i64 x.k, .int .i64 x.c.k, .int .i64 x.c.i, .int .i64 x.c.m, .int .i64 x.c.o, .int .i64 x.c.s, .int .i64 x.c.q, .int .i64 x.c.p, .int .i64 x.n]
def stV (x : St) : Value := .agg (stCells x)
def errS (x : St) : Int := if rightS x then 0 else 3
theorem eqC_zero (c : Cm) (w : World) : (binOp .eql TC (.agg #[.int .i64 c.k, .int .i64 c.i, .int .i64 c.m, .int .i64 c.o, .int .i64 c.s, .int .i64 c.q, .int .i64 c.p]) (.agg #[.int .i64 0, .int .i64 0, .int .i64 0, .int .i64 0, .int .i64 0, .int .i64 0, .int .i64 0])).run Tryz.prog w = .ok (.bool (decide (c = zeroC))) w := by
  rw [run_eql_struct]
  have h := eqC_run c zeroC w
  unfold cmV zeroC at h
  rw [h]
  rfl
set_option maxRecDepth 100000 in
set_option maxHeartbeats 6400000 in
theorem scheck_any (x : St) (w : World) : Calls Tryz.prog 8 #[stV x] w fun e w' => e = .returned (.int .i64 (errS x)) ∧ Below w.heap.size w w' := by
  obtain ⟨k, c, n⟩ := x
  have heq := eqC_zero c
  have HCK := Lib.hid (fun W => check_any c W)
  have HW0 : Hid (Below w.heap.size w (w.alloc (.cells (stCells ⟨k, c, n⟩) TSt))) := Lib.hid ((Below.refl _ _).alloc (Nat.le_refl _) _)
  have HER : Hid (errS ⟨k, c, n⟩ = if (if k = 1 then decide (n = 0) && rightC c else decide (c = zeroC) && (decide (k = 2) && decide (-1 ≤ n) || decide (k = 3) && decide (0 ≤ n))) then 0 else 3) := Lib.hid rfl
  have HEC : Hid (errC c = if rightC c then 0 else 3) := Lib.hid rfl
  obtain ⟨er, her⟩ : ∃ er, er = errS ⟨k, c, n⟩ := ⟨_, rfl⟩
  rw [← her]
  rw [← her] at HER
  clear her
  unfold cmV at HCK
  unfold stCells at HW0
  simp only at HW0
  unfold stV stCells
  simp only
  generalize decide (c = zeroC) = bz at *
  by_cases h1 : k = 1
  · subst h1
    by_cases hn : n = 0
    · subst hn
      have HE : Hid (er = errC c) := Lib.hid (by rw [HER.out, HEC.out]; simp)
      go_enter Tryz.func8, Tryz.ntmps8
      go_wp2_with (go_at_call 22; refine (HCK.out _).mono ?_; rintro e w1 ⟨rfl, hb⟩; have HB1 := Lib.hid hb; clear hb)
      go_ret
      exact ⟨by rw [HE.out]; rfl, HW0.out.trans (HB1.out.mono HW0.out.size)⟩
    · have hb : (n == 0) = false := by simpa using hn
      have HE : Hid (er = 3) := Lib.hid (by rw [HER.out]; simp [hn])
      go_enter Tryz.func8, Tryz.ntmps8
      go_wp2_with fail
      go_ret
      exact ⟨by rw [HE.out]; rfl, HW0.out⟩
  have b1 : (k == 1) = false := by simpa using h1
  by_cases h2 : k = 2
  · subst h2
    cases bz with
    | false =>
      have HE : Hid (er = 3) := Lib.hid (by rw [HER.out]; simp)
      go_enter Tryz.func8, Tryz.ntmps8
      go_wp2_with fail
      go_ret
      exact ⟨by rw [HE.out]; rfl, HW0.out⟩
    | true =>
      by_cases hm : (-1 : Int) ≤ n
      · have hd : decide ((-1 : Int) ≤ n) = true := decide_eq_true hm
        have HE : Hid (er = 0) := Lib.hid (by rw [HER.out]; simp [hm])
        go_enter Tryz.func8, Tryz.ntmps8
        go_wp2_with fail
        go_ret
        exact ⟨by rw [HE.out]; rfl, HW0.out⟩
      · have hd : decide ((-1 : Int) ≤ n) = false := decide_eq_false hm
        have HE : Hid (er = 3) := Lib.hid (by rw [HER.out]; simp [hm])
        go_enter Tryz.func8, Tryz.ntmps8
        go_wp2_with fail
        go_ret
        exact ⟨by rw [HE.out]; rfl, HW0.out⟩
  have b2 : (k == 2) = false := by simpa using h2
  by_cases h3 : k = 3
  · subst h3
    cases bz with
    | false =>
      have HE : Hid (er = 3) := Lib.hid (by rw [HER.out]; simp)
      go_enter Tryz.func8, Tryz.ntmps8
      go_wp2_with fail
      go_ret
      exact ⟨by rw [HE.out]; rfl, HW0.out⟩
    | true =>
      by_cases hm : (0 : Int) ≤ n
      · have hd : decide ((0 : Int) ≤ n) = true := decide_eq_true hm
        have HE : Hid (er = 0) := Lib.hid (by rw [HER.out]; simp [hm])
        go_enter Tryz.func8, Tryz.ntmps8
        go_wp2_with fail
        go_ret
        exact ⟨by rw [HE.out]; rfl, HW0.out⟩
      · have hd : decide ((0 : Int) ≤ n) = false := decide_eq_false hm
        have HE : Hid (er = 3) := Lib.hid (by rw [HER.out]; simp [hm])
        go_enter Tryz.func8, Tryz.ntmps8
        go_wp2_with fail
        go_ret
        exact ⟨by rw [HE.out]; rfl, HW0.out⟩
  have b3 : (k == 3) = false := by simpa using h3
  have HE : Hid (er = 3) := Lib.hid (by rw [HER.out]; simp [h1, h2, h3])
  go_enter Tryz.func8, Tryz.ntmps8
  go_wp2_with fail
  go_ret
  exact ⟨by rw [HE.out]; rfl, HW0.out⟩
def stRows (l : List St) : List Value := l.flatMap fun x => (stCells x).toList
theorem st_at {w : World} {B : Nat} {A : Option Addr} {l : List St} (h : Seg w B A (stRows l)) {k : Nat} (hk : k < l.length) :
    ∃ b o, A = some ⟨b, o, none⟩ ∧ b < B ∧ w.cell? ⟨b, o + k * 9, none⟩ = some (.int .i64 l[k].k) ∧ w.cell? ⟨b, o + k * 9 + 1, none⟩ = some (.int .i64 l[k].c.k) ∧ w.cell? ⟨b, o + k * 9 + 2, none⟩ = some (.int .i64 l[k].c.i) ∧ w.cell? ⟨b, o + k * 9 + 3, none⟩ = some (.int .i64 l[k].c.m) ∧ w.cell? ⟨b, o + k * 9 + 4, none⟩ = some (.int .i64 l[k].c.o) ∧ w.cell? ⟨b, o + k * 9 + 5, none⟩ = some (.int .i64 l[k].c.s) ∧ w.cell? ⟨b, o + k * 9 + 6, none⟩ = some (.int .i64 l[k].c.q) ∧ w.cell? ⟨b, o + k * 9 + 7, none⟩ = some (.int .i64 l[k].c.p) ∧ w.cell? ⟨b, o + k * 9 + 8, none⟩ = some (.int .i64 l[k].n) := by
  obtain ⟨b, o, e, hb, hc⟩ := h.run (i := k * 9) (y := .int .i64 l[k].k) (t := [.int .i64 l[k].c.k, .int .i64 l[k].c.i, .int .i64 l[k].c.m, .int .i64 l[k].c.o, .int .i64 l[k].c.s, .int .i64 l[k].c.q, .int .i64 l[k].c.p, .int .i64 l[k].n]) (fun j u hu => flat_at (fun x : St => (stCells x).toList) 9 (fun _ => rfl) l k hk j u hu)
  exact ⟨b, o, e, hb, hc 0 _ rfl, hc 1 _ rfl, hc 2 _ rfl, hc 3 _ rfl, hc 4 _ rfl, hc 5 _ rfl, hc 6 _ rfl, hc 7 _ rfl, hc 8 _ rfl⟩
theorem wrongL_bad {l : List St} (hl : l.length ≤ 1024) {k : Nat} (hk : k < l.length) (h : rightS l[k] = false) : wrongL l = 3 := by
  unfold wrongL
  rw [if_neg (by omega), if_neg]
  intro h2
  rw [List.all_eq_true] at h2
  have := h2 _ (List.getElem_mem hk)
  rw [h] at this
  cases this
set_option maxRecDepth 100000 in
set_option maxHeartbeats 3200000 in
theorem sall_any (l : List St) (A : Option Addr) (c : Nat) (w : World) (hs : Seg w w.heap.size A (stRows l)) : Calls Tryz.prog 37 #[.slice A l.length c] w fun e w' => e = .returned (.int .i64 (wrongL l)) ∧ Below w.heap.size w w' := by
  have HS := Lib.hid hs
  clear hs
  by_cases hbig : 1024 < l.length
  · have hd : decide ((1024 : Int) < (l.length : Int)) = true := decide_eq_true (by omega)
    have HE : Hid (wrongL l = 6) := Lib.hid (by unfold wrongL; rw [if_pos hbig])
    go_enter Tryz.func37, Tryz.ntmps37
    go_wp2_with fail
    go_ret
    exact ⟨by rw [HE.out]; rfl, Below.refl _ _⟩
  have hd : decide ((1024 : Int) < (l.length : Int)) = false := decide_eq_false (by omega)
  go_enter Tryz.func37, Tryz.ntmps37
  go_wp2_with fail
  go_loopw [4, 5, 11] (fun _ _ i wr => ∃ k : Nat, k ≤ l.length ∧ i = .int .i64 k ∧ Hid ((l.take k).all rightS = true) ∧ Hid (Below w.heap.size w wr)) (fun _ _ i _ => l.length - (intOf i).toNat)
  case atStart => exact ⟨0, Nat.zero_le _, rfl, rfl, Below.refl _ _⟩
  case round =>
    obtain ⟨k, hk, rfl, HOK, HB⟩ := hrel
    by_cases hlt : k < l.length
    · obtain ⟨b, o, rfl, hb, e0, e1, e2, e3, e4, e5, e6, e7, e8⟩ := st_at (HS.out.below HB.out) hlt
      have HBD := Lib.hid (wrongL_bad (l := l) (by omega) hlt)
      have HSN : Hid ((l.take (k + 1)).all rightS = ((l.take k).all rightS && rightS l[k])) := Lib.hid (by rw [List.take_succ_eq_append_getElem hlt, List.all_append]; simp)
      have hk0 : (0 : Int) ≤ (k : Int) := by omega
      have hkb : (k : Int) < (l.length : Int) := by omega
      generalize l[k] = x at *
      have HBA : Hid (Below w.heap.size w (wr.alloc (.cells (stCells x) TSt))) := Lib.hid (HB.out.alloc HB.out.size _)
      have HSC := Lib.hid (fun W => scheck_any x W)
      have HES : Hid (errS x = if rightS x then 0 else 3) := Lib.hid rfl
      unfold stCells at HBA
      unfold stV stCells at HSC
      cases hr : rightS x with
      | true =>
        have he : errS x = 0 := by rw [HES.out, hr]; rfl
        rw [he] at HSC
        clear HBD HES
        go_wp2_with (go_at_call 8; refine (HSC.out _).mono ?_; rintro e w1 ⟨rfl, hb1⟩; have HB1 : Hid (Below w.heap.size w w1) := Lib.hid (HBA.out.trans (hb1.mono HBA.out.size)); clear hb1)
        go_roundw
        case rel => exact ⟨k + 1, by omega, by go_num, Lib.hid (by rw [HSN.out, HOK.out, hr]; rfl), HB1⟩
        case measure => simp [intOf]; omega
      | false =>
        have he : errS x = 3 := by rw [HES.out, hr]; rfl
        rw [he] at HSC
        have HE := Lib.hid (HBD.out hr)
        clear HBD HES HSN
        go_wp2_with (go_at_call 8; refine (HSC.out _).mono ?_; rintro e w1 ⟨rfl, hb1⟩; have HB1 : Hid (Below w.heap.size w w1) := Lib.hid (HBA.out.trans (hb1.mono HBA.out.size)); clear hb1)
        go_ret
        exact ⟨by rw [HE.out]; rfl, HB1.out⟩
    · obtain rfl : k = l.length := by omega
      have HE : Hid (wrongL l = 0) := Lib.hid (by
        have h := HOK.out
        rw [List.take_length] at h
        unfold wrongL
        rw [if_neg hbig, if_pos h])
      go_wp2_with fail
      go_ret
      exact ⟨by rw [HE.out]; rfl, HB.out⟩
end Go.Proofs.YtmplokdbbhlomaaGreatDoor

/-
  What script.step and script.Put come to, over this seat's translation: contracts for callers.
-/
namespace Go.Proofs.YtmplokdbbhlomaaGreatDoor
open Go.RowKit

theorem putS_len {x : St} (hx : StOk x) : (putS x).length ≤ 200 := by
  have h0 := putN_len (n := 0) (I64_small (by omega) (by omega))
  unfold putS
  split
  · have h1 := putC_len hx.2.1
    have h2 := putN_len (n := ((putC x.c).length : Int)) (I64_small (by omega) (by omega))
    unfold putT
    rw [List.length_append, List.length_append]
    omega
  · rename_i h
    by_cases hk : I64 (x.k - 1)
    · have h1 := putN_len hk
      have h2 := putN_len hx.2.2
      rw [List.length_append]
      omega
    · have h3 : I64 x.k := hx.1
      unfold I64 at h3 hk
      have h1 : (putN (x.k - 1)).length ≤ 11 := Lib.uvarint_length 10 _ (by
        unfold Lib.zigzag
        have : (128 : Nat) ^ (10 + 1) = 151115727451828646838272 := by decide
        rw [this]
        split <;> omega)
      have h2 := putN_len hx.2.2
      rw [List.length_append]
      omega
theorem seg_two {w : World} {a b : Int} (t : TypeId) : Seg (w.alloc (.cells #[.int .i64 a, .int .i64 b] t)) (w.alloc (.cells #[.int .i64 a, .int .i64 b] t)).heap.size (some ⟨w.heap.size, 0, none⟩) (([a, b] : List Int).map (Value.int .i64)) := by
  intro j u hu
  refine ⟨w.heap.size, 0, rfl, by simp, ?_⟩
  rw [Nat.zero_add, cell_new _ _ _ j rfl]
  match j, hu with
  | 0, hu => simpa using hu
  | 1, hu => simpa using hu
set_option maxRecDepth 100000 in
set_option maxHeartbeats 3200000 in
theorem step_any (x : St) (hx : StOk x) (hr : rightS x = true) (w : World) : Calls Tryz.prog 43 #[stV x] w fun e w' => e = .returned (.string (bs (putS x))) ∧ Below w.heap.size w w' := by
  have hk := right_kind hr
  obtain ⟨k, c, n⟩ := x
  obtain ⟨hx1, hx2, hx3⟩ := hx
  simp only at hx1 hx2 hx3 hk
  have HW0 : Hid (Below w.heap.size w (w.alloc (.cells (stCells ⟨k, c, n⟩) TSt))) := Lib.hid ((Below.refl _ _).alloc (Nat.le_refl _) _)
  unfold stCells at HW0
  simp only at HW0
  unfold stV stCells
  simp only
  rcases hk with rfl | rfl | rfl
  · have hc : rightC c = true := by
      unfold rightS at hr
      simp at hr
      exact hr.2
    have HP : Hid (putS ⟨1, c, n⟩ = putN 0 ++ putT (putC c)) := Lib.hid rfl
    have hcl := putC_len hx2
    have HCP := Lib.hid (fun W => cput_any c hx2 W)
    have he : errC c = 0 := by unfold errC; rw [hc]; rfl
    rw [hc, he] at HCP
    simp only [if_true] at HCP
    unfold cmV at HCP
    generalize putS ⟨1, c, n⟩ = R at *
    have HZ0 := Lib.hid (fun W => put_any 0 W (I64_small (by omega) (by omega)))
    have HTX := Lib.hid (fun W => text_any (putC c) W (by omega))
    have hzl := putN_len (n := 0) (I64_small (by omega) (by omega))
    have htl : (putT (putC c)).length ≤ 100 := by
      have := putN_len (n := ((putC c).length : Int)) (I64_small (by omega) (by omega))
      unfold putT
      rw [List.length_append]
      omega
    clear hr hc he hcl hx1 hx2 hx3
    generalize putC c = pc at *
    generalize putT pc = pt at *
    generalize putN 0 = pz at *
    have hsz := bs_size pz
    have hst := bs_size pt
    have hap := bs_append pz pt
    have hbig : ¬ 9223372036854775807 < pz.length + pt.length := by omega
    go_enter Tryz.func43, Tryz.ntmps43
    go_wp2_with fail
    refine (HCP.out _).mono ?_
    rintro e w1 ⟨rfl, hb1⟩
    have HW1 : Hid (Below w.heap.size w w1) := Lib.hid (HW0.out.trans (hb1.mono HW0.out.size))
    clear hb1
    go_wp2_with fail
    refine (HZ0.out _).mono ?_
    rintro e w2 ⟨rfl, hb2⟩
    have HW2 : Hid (Below w.heap.size w w2) := Lib.hid (HW1.out.trans (hb2.mono HW1.out.size))
    clear hb2
    go_wp2_with fail
    refine (HTX.out _).mono ?_
    rintro e w3 ⟨rfl, hb3⟩
    have HW3 : Hid (Below w.heap.size w w3) := Lib.hid (HW2.out.trans (hb3.mono HW2.out.size))
    clear hb3
    go_wp2_with fail
    go_ret
    exact ⟨by rw [HP.out]; rfl, HW3.out⟩
  · have HP : Hid (putS ⟨2, c, n⟩ = ([1, n] : List Int).flatMap putN) := Lib.hid (by unfold putS; simp)
    have HAL : Hid (∀ W, Calls Tryz.prog _ _ (World.alloc W (.cells #[.int .i64 1, .int .i64 n] 2)) _) := Lib.hid (fun W => all_any [1, n] (some ⟨W.heap.size, 0, none⟩) 2 (W.alloc (.cells #[.int .i64 1, .int .i64 n] 2)) (seg_two _) (by intro y hy; simp at hy; rcases hy with rfl | rfl; exact I64_small (by omega) (by omega); exact hx3) (by simp))
    have HWA : Hid (Below w.heap.size w ((w.alloc (.cells #[.int .i64 2, .int .i64 c.k, .int .i64 c.i, .int .i64 c.m, .int .i64 c.o, .int .i64 c.s, .int .i64 c.q, .int .i64 c.p, .int .i64 n] TSt)).alloc (.cells #[.int .i64 1, .int .i64 n] 2))) := Lib.hid (HW0.out.alloc HW0.out.size _)
    have HAW := Lib.hid (HAL.out (w.alloc (.cells #[.int .i64 2, .int .i64 c.k, .int .i64 c.i, .int .i64 c.m, .int .i64 c.o, .int .i64 c.s, .int .i64 c.q, .int .i64 c.p, .int .i64 n] TSt)))
    rw [show (w.alloc (.cells #[.int .i64 2, .int .i64 c.k, .int .i64 c.i, .int .i64 c.m, .int .i64 c.o, .int .i64 c.s, .int .i64 c.q, .int .i64 c.p, .int .i64 n] TSt)).heap.size = w.heap.size + 1 by simp] at HAW
    clear hr HAL
    go_enter Tryz.func43, Tryz.ntmps43
    go_wp2_with fail
    refine HAW.out.mono ?_
    rintro e w1 ⟨rfl, hb1⟩
    have HW1 : Hid (Below w.heap.size w w1) := Lib.hid (HWA.out.trans (hb1.mono HWA.out.size))
    clear hb1
    go_wp2_with fail
    go_ret
    exact ⟨by rw [HP.out]; simp, HW1.out⟩
  · have HP : Hid (putS ⟨3, c, n⟩ = ([2, n] : List Int).flatMap putN) := Lib.hid (by unfold putS; simp)
    have HAL : Hid (∀ W, Calls Tryz.prog _ _ (World.alloc W (.cells #[.int .i64 2, .int .i64 n] 2)) _) := Lib.hid (fun W => all_any [2, n] (some ⟨W.heap.size, 0, none⟩) 2 (W.alloc (.cells #[.int .i64 2, .int .i64 n] 2)) (seg_two _) (by intro y hy; simp at hy; rcases hy with rfl | rfl; exact I64_small (by omega) (by omega); exact hx3) (by simp))
    have HWA : Hid (Below w.heap.size w ((w.alloc (.cells #[.int .i64 3, .int .i64 c.k, .int .i64 c.i, .int .i64 c.m, .int .i64 c.o, .int .i64 c.s, .int .i64 c.q, .int .i64 c.p, .int .i64 n] TSt)).alloc (.cells #[.int .i64 2, .int .i64 n] 2))) := Lib.hid (HW0.out.alloc HW0.out.size _)
    have HAW := Lib.hid (HAL.out (w.alloc (.cells #[.int .i64 3, .int .i64 c.k, .int .i64 c.i, .int .i64 c.m, .int .i64 c.o, .int .i64 c.s, .int .i64 c.q, .int .i64 c.p, .int .i64 n] TSt)))
    rw [show (w.alloc (.cells #[.int .i64 3, .int .i64 c.k, .int .i64 c.i, .int .i64 c.m, .int .i64 c.o, .int .i64 c.s, .int .i64 c.q, .int .i64 c.p, .int .i64 n] TSt)).heap.size = w.heap.size + 1 by simp] at HAW
    clear hr HAL
    go_enter Tryz.func43, Tryz.ntmps43
    go_wp2_with fail
    refine HAW.out.mono ?_
    rintro e w1 ⟨rfl, hb1⟩
    have HW1 : Hid (Below w.heap.size w w1) := Lib.hid (HWA.out.trans (hb1.mono HWA.out.size))
    clear hb1
    go_wp2_with fail
    go_ret
    exact ⟨by rw [HP.out]; simp, HW1.out⟩
theorem steps_len : ∀ {l : List St}, (∀ x ∈ l, StOk x) → (l.flatMap putS).length ≤ 200 * l.length
  | [], _ => by simp
  | x :: l, h => by
    have := steps_len (l := l) fun y hy => h y (List.mem_cons_of_mem _ hy)
    have h1 := putS_len (h x (List.mem_cons_self ..))
    rw [List.flatMap_cons, List.length_append, List.length_cons]
    omega
theorem wrongL_zero {l : List St} (h : wrongL l = 0) : l.length ≤ 1024 ∧ ∀ x ∈ l, rightS x = true := by
  unfold wrongL at h
  split at h
  · cases h
  · split at h
    · rename_i h1 h2
      rw [List.all_eq_true] at h2
      exact ⟨by omega, h2⟩
    · cases h
set_option maxRecDepth 100000 in
set_option maxHeartbeats 3200000 in
theorem sput_any (l : List St) (A : Option Addr) (c : Nat) (w : World) (hs : Seg w w.heap.size A (stRows l)) (hI : ∀ x ∈ l, StOk x) : Calls Tryz.prog 18 #[.slice A l.length c] w fun e w' => e = .returned (.tuple #[.string (bs (if wrongL l = 0 then putL l else [])), .int .i64 (wrongL l)]) ∧ Below w.heap.size w w' := by
  have HS := Lib.hid hs
  have HI := Lib.hid hI
  have HAL := Lib.hid (sall_any l A c w hs)
  clear hs hI
  by_cases h0 : wrongL l = 0
  case neg =>
    rw [if_neg h0]
    generalize wrongL l = er at *
    have hne : (er != 0) = true := by simpa using h0
    go_enter Tryz.func18, Tryz.ntmps18
    go_wp2_with (go_at_call 37; refine HAL.out.mono ?_; rintro e w1 ⟨rfl, hb⟩; have HB1 := Lib.hid hb; clear hb)
    go_ret2
    exact ⟨rfl, HB1.out⟩
  obtain ⟨hl, hR⟩ := wrongL_zero h0
  have HR := Lib.hid hR
  rw [if_pos h0]
  rw [h0] at HAL ⊢
  clear h0 hR
  have HLP : Hid (putL l = putN (l.length : Int) ++ (l.take l.length).flatMap putS) := Lib.hid (by rw [List.take_length]; rfl)
  have HPL := Lib.hid (fun W => put_any (l.length : Int) W (I64_small (by omega) (by omega)))
  have hpl := putN_len (n := (l.length : Int)) (I64_small (by omega) (by omega))
  go_enter Tryz.func18, Tryz.ntmps18
  go_wp2_with (go_at_call 37; refine HAL.out.mono ?_; rintro e w1 ⟨rfl, hb⟩; have HB1 := Lib.hid hb; clear hb)
  have HW1 : Hid (Below w.heap.size w (w1.alloc (.cells #[.pointer none, .slice none 0 0] TB))) := Lib.hid (HB1.out.alloc HB1.out.size _)
  have HBD := Lib.hid (bld_fresh w1 w.heap.size HB1.out.size)
  generalize hRE : putL l = R at *
  have HRE := Lib.hid hRE
  clear hRE
  generalize putN (l.length : Int) = pz at *
  refine (HPL.out _).mono ?_
  rintro e w2 ⟨rfl, hb2⟩
  have HBD2 := Lib.hid (bld_below HBD.out hb2)
  have HW2 : Hid (Below w.heap.size w w2) := Lib.hid (HW1.out.trans (hb2.mono HW1.out.size))
  clear hb2 HBD HW1
  have HWR := Lib.hid (write_any w.heap.size w1.heap.size [] (bs pz) w2 HBD2.out (by rw [bs_size, List.length_nil]; omega) HW2.out.size)
  go_wp2_with (go_at_call 38; refine HWR.out.mono ?_)
  rintro e w3 ⟨rfl, hbd3, hb3, _⟩
  have HBD3 : Hid (Lib.IsBuilder TB TU w.heap.size w1.heap.size (Lib.byteCells (pz ++ (l.take 0).flatMap putS)) w3) := Lib.hid (by
    have e : pz ++ (l.take 0).flatMap putS = pz := by simp
    rw [e, ← strCells_mk pz]
    exact hbd3)
  have HW3 : Hid (Below w.heap.size w w3) := Lib.hid (HW2.out.trans hb3)
  clear hbd3 hb3 HWR HBD2 HW2
  go_wp2_with fail
  go_loopw [7, 19] (fun _ i wr => ∃ k : Nat, k ≤ l.length ∧ i = .int .i64 k ∧ Hid (Lib.IsBuilder TB TU w.heap.size w1.heap.size (Lib.byteCells (pz ++ (l.take k).flatMap putS)) wr) ∧ Hid (Below w.heap.size w wr)) (fun _ i _ => l.length - (intOf i).toNat)
  case atStart => exact ⟨0, Nat.zero_le _, rfl, HBD3, HW3⟩
  case round =>
    clear HBD3 HW3
    obtain ⟨k, hk, rfl, HB, HW⟩ := hrel
    by_cases hlt : k < l.length
    · obtain ⟨b, o, rfl, hb, e0, e1, e2, e3, e4, e5, e6, e7, e8⟩ := st_at (HS.out.below HW.out) hlt
      have HSN : Hid ((l.take (k + 1)).flatMap putS = (l.take k).flatMap putS ++ putS l[k]) := Lib.hid (by rw [List.take_succ_eq_append_getElem hlt, List.flatMap_append]; simp)
      have hlen := steps_len (l := l.take k) (fun x hx => HI.out x (List.mem_of_mem_take hx))
      rw [List.length_take] at hlen
      have hxo := HI.out _ (List.getElem_mem hlt)
      have hxr := HR.out _ (List.getElem_mem hlt)
      have hk0 : (0 : Int) ≤ (k : Int) := by omega
      have hkb : (k : Int) < (l.length : Int) := by omega
      generalize l[k] = x at *
      generalize (l.take k).flatMap putS = ys at *
      have hsl := putS_len hxo
      have HBA : Hid (Below wr.heap.size wr (wr.alloc (.cells (stCells x) TSt))) := Lib.hid ((Below.refl _ _).alloc (Nat.le_refl _) _)
      have HBA2 := Lib.hid (bld_below HB.out HBA.out)
      have HWA : Hid (Below w.heap.size w (wr.alloc (.cells (stCells x) TSt))) := Lib.hid (HW.out.trans (HBA.out.mono HW.out.size))
      have HSC := Lib.hid (fun W => step_any x hxo hxr W)
      unfold stCells at HBA2 HWA
      unfold stV stCells at HSC
      clear HBA
      generalize putS x = px at *
      go_wp2_with (go_at_call 43; refine (HSC.out _).mono ?_)
      rintro e w4 ⟨rfl, hb4⟩
      have HB4 := Lib.hid (bld_below HBA2.out hb4)
      have HW4 : Hid (Below w.heap.size w w4) := Lib.hid (HWA.out.trans (hb4.mono HWA.out.size))
      clear hb4 HBA2 HWA
      have HWR := Lib.hid (write_any w.heap.size w1.heap.size _ (bs px) w4 HB4.out (by rw [bs_size, Lib.byteCells_length, List.length_append]; omega) HW4.out.size)
      go_wp2_with (go_at_call 38; refine HWR.out.mono ?_)
      rintro e w5 ⟨rfl, hbd5, hb5, _⟩
      have HB5 : Hid (Lib.IsBuilder TB TU w.heap.size w1.heap.size (Lib.byteCells (pz ++ (l.take (k + 1)).flatMap putS)) w5) := Lib.hid (by
        rw [HSN.out, ← List.append_assoc, bytes_append, ← strCells_mk px]
        exact hbd5)
      have HW5 : Hid (Below w.heap.size w w5) := Lib.hid (HW4.out.trans hb5)
      clear hbd5 hb5 HWR
      go_wp2_with fail
      go_roundw
      case rel => exact ⟨k + 1, by omega, by go_num, HB5, HW5⟩
      case measure => simp [intOf]; omega
    · obtain rfl : k = l.length := by omega
      have hb := HB.out
      rw [← HLP.out] at hb
      have HST := Lib.hid (Tryz.Builder_String_any w.heap.size w1.heap.size _ wr hb HW.out.size)
      clear hb
      go_wp2_with (go_at_call 39; refine HST.out.mono ?_)
      rintro e w8 ⟨rfl, hb8⟩
      have HW8 : Hid (Below w.heap.size w w8) := Lib.hid (HW.out.trans hb8)
      clear hb8 HST
      go_wp2_with fail
      go_ret2
      exact ⟨by rw [HRE.out]; rfl, HW8.out⟩
end Go.Proofs.YtmplokdbbhlomaaGreatDoor

/-
  What script.read comes to, over this seat's translation: a contract for callers. (Printed by gen_sc13.py.)
-/
namespace Go.Proofs.YtmplokdbbhlomaaGreatDoor
open Go.RowKit

/-- A block of cells, none frozen. -/
structure CsAt (w : World) (b : Nat) (cs : Array Value) : Prop where
  cell : ∀ j, w.cell? ⟨b, j, none⟩ = cs[j]?
  fz : ∀ j, w.frozen? ⟨b, j, none⟩ = false
theorem CsAt.kept {w w' : World} {b : Nat} {cs : Array Value} (h : CsAt w b cs) {row : Option Nat} (hg : w.grownBy w' row) (hlt : b < w.heap.size) (hne : some b ≠ row) : CsAt w' b cs := by
  have hb := hg.block b hlt hne
  refine ⟨fun j => (World.cell?_of_block (a := ⟨b, j, none⟩) hb).trans (h.cell j), fun j => ?_⟩
  have : w'.frozen? ⟨b, j, none⟩ = w.frozen? ⟨b, j, none⟩ := by unfold World.frozen?; rw [hb]
  rw [this]
  exact h.fz j
theorem CsAt.below {w w' : World} {b : Nat} {cs : Array Value} (h : CsAt w b cs) (hlt : b < w.heap.size) (hb : Below w.heap.size w w') : CsAt w' b cs := h.kept (row := none) ⟨hb.os, hb.tape, hb.output, hb.size, fun k hk _ => hb.block k hk⟩ hlt (fun e => by cases e)
theorem CsAt.made (w : World) (cs : Array Value) (t : TypeId) : CsAt (w.alloc (.cells cs t)) w.heap.size cs := ⟨fun j => cell_new _ _ _ j rfl, fun j => by go_simp⟩
theorem CsAt.set {w : World} {b : Nat} {cs : Array Value} (h : CsAt w b cs) {i : Nat} (hi : i < cs.size) (v : Value) : CsAt (w.setCell ⟨b, i, none⟩ v) b (cs.setIfInBounds i v) := by
  refine ⟨fun j => ?_, fun j => by rw [World.frozen?_setCell]; exact h.fz j⟩
  rw [Array.getElem?_setIfInBounds]
  by_cases e : i = j
  · subst e
    rw [if_pos rfl, if_pos hi]
    exact World.cell?_setCell_same' _ _ _ (by rw [h.cell, Array.getElem?_eq_getElem hi]; rfl)
  · rw [if_neg e, World.cell?_setCell_other _ _ _ _ (fun e' => e (by injection e' with _ e' _))]
    exact h.cell j
/-- A step has been stored over another. -/
theorem CsAt.over {w : World} {b : Nat} {x0 : St} (h : CsAt w b (stCells x0)) (x : St) : CsAt (World.setCell (World.setCell (World.setCell (World.setCell (World.setCell (World.setCell (World.setCell (World.setCell (World.setCell w ⟨b, 0, none⟩ (.int .i64 x.k)) ⟨b, 1, none⟩ (.int .i64 x.c.k)) ⟨b, 2, none⟩ (.int .i64 x.c.i)) ⟨b, 3, none⟩ (.int .i64 x.c.m)) ⟨b, 4, none⟩ (.int .i64 x.c.o)) ⟨b, 5, none⟩ (.int .i64 x.c.s)) ⟨b, 6, none⟩ (.int .i64 x.c.q)) ⟨b, 7, none⟩ (.int .i64 x.c.p)) ⟨b, 8, none⟩ (.int .i64 x.n)) b (stCells x) ∧ w.grownBy (World.setCell (World.setCell (World.setCell (World.setCell (World.setCell (World.setCell (World.setCell (World.setCell (World.setCell w ⟨b, 0, none⟩ (.int .i64 x.k)) ⟨b, 1, none⟩ (.int .i64 x.c.k)) ⟨b, 2, none⟩ (.int .i64 x.c.i)) ⟨b, 3, none⟩ (.int .i64 x.c.m)) ⟨b, 4, none⟩ (.int .i64 x.c.o)) ⟨b, 5, none⟩ (.int .i64 x.c.s)) ⟨b, 6, none⟩ (.int .i64 x.c.q)) ⟨b, 7, none⟩ (.int .i64 x.c.p)) ⟨b, 8, none⟩ (.int .i64 x.n)) (some b) := by
  have h1 := ((((((((h.set (i := 0) (by simp [stCells]) (.int .i64 x.k)).set (i := 1) (by simp [stCells]) (.int .i64 x.c.k)).set (i := 2) (by simp [stCells]) (.int .i64 x.c.i)).set (i := 3) (by simp [stCells]) (.int .i64 x.c.m)).set (i := 4) (by simp [stCells]) (.int .i64 x.c.o)).set (i := 5) (by simp [stCells]) (.int .i64 x.c.s)).set (i := 6) (by simp [stCells]) (.int .i64 x.c.q)).set (i := 7) (by simp [stCells]) (.int .i64 x.c.p)).set (i := 8) (by simp [stCells]) (.int .i64 x.n)
  refine ⟨by simpa only [stCells, List.setIfInBounds_toArray, List.set_cons_zero, List.set_cons_succ] using h1, ?_⟩
  exact grown_twoS (grown_twoS (grown_twoS (grown_twoS (grown_twoS (grown_twoS (grown_twoS (grown_twoS (grown_setS _ _ _ _) (grown_setS _ _ _ _)) (grown_setS _ _ _ _)) (grown_setS _ _ _ _)) (grown_setS _ _ _ _)) (grown_setS _ _ _ _)) (grown_setS _ _ _ _)) (grown_setS _ _ _ _)) (grown_setS _ _ _ _)
/-- Its command has been stored. -/
theorem CsAt.overC {w : World} {b : Nat} {x0 : St} (h : CsAt w b (stCells x0)) (c : Cm) : CsAt (World.setCell (World.setCell (World.setCell (World.setCell (World.setCell (World.setCell (World.setCell w ⟨b, 1, none⟩ (.int .i64 c.k)) ⟨b, 2, none⟩ (.int .i64 c.i)) ⟨b, 3, none⟩ (.int .i64 c.m)) ⟨b, 4, none⟩ (.int .i64 c.o)) ⟨b, 5, none⟩ (.int .i64 c.s)) ⟨b, 6, none⟩ (.int .i64 c.q)) ⟨b, 7, none⟩ (.int .i64 c.p)) b (stCells ⟨x0.k, c, x0.n⟩) ∧ w.grownBy (World.setCell (World.setCell (World.setCell (World.setCell (World.setCell (World.setCell (World.setCell w ⟨b, 1, none⟩ (.int .i64 c.k)) ⟨b, 2, none⟩ (.int .i64 c.i)) ⟨b, 3, none⟩ (.int .i64 c.m)) ⟨b, 4, none⟩ (.int .i64 c.o)) ⟨b, 5, none⟩ (.int .i64 c.s)) ⟨b, 6, none⟩ (.int .i64 c.q)) ⟨b, 7, none⟩ (.int .i64 c.p)) (some b) := by
  have h1 := ((((((h.set (i := 1) (by simp [stCells]) (.int .i64 c.k)).set (i := 2) (by simp [stCells]) (.int .i64 c.i)).set (i := 3) (by simp [stCells]) (.int .i64 c.m)).set (i := 4) (by simp [stCells]) (.int .i64 c.o)).set (i := 5) (by simp [stCells]) (.int .i64 c.s)).set (i := 6) (by simp [stCells]) (.int .i64 c.q)).set (i := 7) (by simp [stCells]) (.int .i64 c.p)
  refine ⟨by simpa only [stCells, List.setIfInBounds_toArray, List.set_cons_zero, List.set_cons_succ] using h1, ?_⟩
  exact grown_twoS (grown_twoS (grown_twoS (grown_twoS (grown_twoS (grown_twoS (grown_setS _ _ _ _) (grown_setS _ _ _ _)) (grown_setS _ _ _ _)) (grown_setS _ _ _ _)) (grown_setS _ _ _ _)) (grown_setS _ _ _ _)) (grown_setS _ _ _ _)
/-- Its kind and number have been stored. -/
theorem CsAt.overN {w : World} {b : Nat} {x0 : St} (h : CsAt w b (stCells x0)) (k n : Int) : CsAt ((w.setCell ⟨b, 0, none⟩ (.int .i64 k)).setCell ⟨b, 8, none⟩ (.int .i64 n)) b (stCells ⟨k, x0.c, n⟩) ∧ w.grownBy ((w.setCell ⟨b, 0, none⟩ (.int .i64 k)).setCell ⟨b, 8, none⟩ (.int .i64 n)) (some b) := by
  have h1 := (h.set (i := 0) (by simp [stCells]) (.int .i64 k)).set (i := 8) (by simp [stCells]) (.int .i64 n)
  exact ⟨by simpa only [stCells, List.setIfInBounds_toArray, List.set_cons_zero, List.set_cons_succ] using h1, grown_twoS (grown_setS _ _ _ _) (grown_setS _ _ _ _)⟩
/-- The blocks of script.read: the answer at s, the step at s + 1. -/
structure RsI (w : World) (g : Nat) (r : Rd) (x : St) (W : World) : Prop where
  r : RdAt W g r
  z : CsAt W w.heap.size (stCells zeroS)
  x : CsAt W (w.heap.size + 1) (stCells x)
  sz : w.heap.size + 2 ≤ W.heap.size
  gr : w.grownBy W (some g)
theorem RsI.below {w W W' : World} {g : Nat} {r : Rd} {x : St} (h : RsI w g r x W) (hb : Below W.heap.size W W') : RsI w g r x W' :=
  ⟨h.r.below hb, h.z.below (by have := h.sz; omega) hb, h.x.below (by have := h.sz; omega) hb, Nat.le_trans h.sz hb.size, grown_belowS h.gr hb⟩
theorem RsI.read {w W W' : World} {g : Nat} {r r' : Rd} {x : St} (h : RsI w g r x W) (hg : W.grownBy W' (some g)) (hr : RdAt W' g r') (hlt : g < w.heap.size) : RsI w g r' x W' :=
  ⟨hr, h.z.kept hg (by have := h.sz; omega) (fun e => by injection e with e; omega), h.x.kept hg (by have := h.sz; omega) (fun e => by injection e with e; omega), Nat.le_trans h.sz hg.size, grown_twoS h.gr hg⟩
theorem RsI.setx {w W W' : World} {g : Nat} {r : Rd} {x x' : St} (h : RsI w g r x W) (hg : W.grownBy W' (some (w.heap.size + 1))) (hx : CsAt W' (w.heap.size + 1) (stCells x')) (hlt : g < w.heap.size) : RsI w g r x' W' :=
  ⟨h.r.kept hg (fun e => by injection e with e; omega), h.z.kept hg (by have := h.sz; omega) (fun e => by injection e with e; omega), hx, Nat.le_trans h.sz hg.size, grown_newS h.gr hg (by omega)⟩
theorem readS_A {r : Rd} (h0 : (rUpto 2 r).2.e ≠ 0) : readS r = (zeroS, (rUpto 2 r).2.e, (rUpto 2 r).2) := by
  have hs : stOf r = (zeroS, (rUpto 2 r).2.e, (rUpto 2 r).2) := by
    unfold stOf
    rw [if_neg h0]
  unfold readS
  rw [hs]
  exact if_neg h0
theorem readS_T {r : Rd} (h0 : (rUpto 2 r).2.e = 0) (ht : (rUpto 2 r).1 = 0) : readS r = if (rText 1024 (rUpto 2 r).2).2.e = 0 then (if (getC (rText 1024 (rUpto 2 r).2).1).2 = 0 then (if rightS ⟨1, (getC (rText 1024 (rUpto 2 r).2).1).1, 0⟩ then (⟨1, (getC (rText 1024 (rUpto 2 r).2).1).1, 0⟩, 0, (rText 1024 (rUpto 2 r).2).2) else (zeroS, 3, (rText 1024 (rUpto 2 r).2).2)) else (zeroS, 3, (rText 1024 (rUpto 2 r).2).2)) else (zeroS, (rText 1024 (rUpto 2 r).2).2.e, (rText 1024 (rUpto 2 r).2).2) := by
  by_cases ha : (rText 1024 (rUpto 2 r).2).2.e = 0
  · by_cases hb : (getC (rText 1024 (rUpto 2 r).2).1).2 = 0
    · have hs : stOf r = (⟨1, (getC (rText 1024 (rUpto 2 r).2).1).1, 0⟩, 0, (rText 1024 (rUpto 2 r).2).2) := by
        unfold stOf
        rw [if_pos h0, if_pos ht, if_pos ha, if_pos hb]
      unfold readS
      rw [hs, if_pos ha, if_pos hb]
      rfl
    · have hs : stOf r = (zeroS, 3, (rText 1024 (rUpto 2 r).2).2) := by
        unfold stOf
        rw [if_pos h0, if_pos ht, if_pos ha, if_neg hb]
      unfold readS
      rw [hs, if_pos ha, if_neg hb]
      rfl
  · have hs : stOf r = (zeroS, (rText 1024 (rUpto 2 r).2).2.e, (rText 1024 (rUpto 2 r).2).2) := by
      unfold stOf
      rw [if_pos h0, if_pos ht, if_neg ha]
    unfold readS
    rw [hs, if_neg ha]
    exact (if_neg ha).symm
theorem readS_N {r : Rd} {t : Int} (h0 : (rUpto 2 r).2.e = 0) (ht : (rUpto 2 r).1 = t) (h1 : t ≠ 0) : readS r = if (rNum (rUpto 2 r).2).2.e = 0 then (if rightS ⟨1 + t, zeroC, (rNum (rUpto 2 r).2).1⟩ then (⟨1 + t, zeroC, (rNum (rUpto 2 r).2).1⟩, 0, (rNum (rUpto 2 r).2).2) else (zeroS, 3, (rNum (rUpto 2 r).2).2)) else (zeroS, (rNum (rUpto 2 r).2).2.e, (rNum (rUpto 2 r).2).2) := by
  subst ht
  by_cases ha : (rNum (rUpto 2 r).2).2.e = 0
  · have hs : stOf r = (⟨1 + (rUpto 2 r).1, zeroC, (rNum (rUpto 2 r).2).1⟩, 0, (rNum (rUpto 2 r).2).2) := by
      unfold stOf
      rw [if_pos h0, if_neg h1, if_pos ha]
    unfold readS
    rw [hs, if_pos ha]
    rfl
  · have hs : stOf r = (zeroS, (rNum (rUpto 2 r).2).2.e, (rNum (rUpto 2 r).2).2) := by
      unfold stOf
      rw [if_pos h0, if_neg h1, if_neg ha]
    unfold readS
    rw [hs, if_neg ha]
    exact (if_neg ha).symm
theorem rUpto_in (most : Int) (hm : 0 ≤ most) (r : Rd) : 0 ≤ (rUpto most r).1 ∧ (rUpto most r).1 ≤ most := by
  unfold rUpto rTake
  repeat' split
  all_goals first | exact ⟨Int.le_refl _, hm⟩ | (rename_i h1 h2 h3; simp [uptoB] at h3; exact h3)
theorem rText_len (most : Int) (r : Rd) : (rText most r).1.length ≤ r.s.length := by
  have hb := getB_len r.s
  have ht : (rTake (uptoB most) r).2.2.s.length ≤ r.s.length := by
    unfold rTake
    repeat' split
    all_goals first | exact hb | exact Nat.le_refl _
  unfold rText
  repeat' split
  all_goals first | exact Nat.zero_le _ | (rw [List.length_take]; omega)
theorem rUpto_off {most : Int} {r : Rd} (h : (rUpto most r).2.e ≠ 0) : (rUpto most r).1 = 0 := by
  unfold rUpto rTake at h ⊢
  repeat' split
  all_goals first | rfl | skip
  rename_i h1 h2 h3
  rw [if_pos h1, if_pos h2, if_pos h3] at h
  exact absurd rfl h
end Go.Proofs.YtmplokdbbhlomaaGreatDoor

/-
  What script.Get comes to, over this seat's translation: a contract for callers.
-/
namespace Go.Proofs.YtmplokdbbhlomaaGreatDoor
open Go.RowKit

/-- What stands ahead, and what is read behind it. -/
def appL (acc : List St) (T : List St × Int × Rd) : List St × Int × Rd := if T.2.1 = 0 then (acc ++ T.1, 0, T.2.2) else ([], T.2.1, T.2.2)
theorem appL_nil (T : List St × Int × Rd) (h : T.2.1 ≠ 0 → T.1 = []) : appL [] T = T := by
  obtain ⟨l, e, r⟩ := T
  unfold appL
  by_cases he : e = 0
  · subst he
    simp
  · have := h he
    simp only at this
    subst this
    simp [he]
theorem readL_off : ∀ (n : Nat) (r : Rd), (readL n r).2.1 ≠ 0 → (readL n r).1 = []
  | 0, _, h => absurd rfl h
  | n + 1, r, h => by
    unfold readL at h ⊢
    repeat' split
    all_goals first | rfl | skip
    rename_i h1 h2
    rw [if_pos h1, if_pos h2] at h
    exact absurd rfl h
theorem appL_ok {acc : List St} {n : Nat} {r : Rd} (h : (readS r).2.1 = 0) : appL acc (readL (n + 1) r) = appL (acc ++ [(readS r).1]) (readL n (readS r).2.2) := by
  rw [readL, if_pos h]
  by_cases h2 : (readL n (readS r).2.2).2.1 = 0
  · rw [if_pos h2]
    unfold appL
    simp [h2]
  · rw [if_neg h2]
    unfold appL
    simp [h2]
theorem appL_bad {acc : List St} {n : Nat} {r : Rd} (h : (readS r).2.1 ≠ 0) : appL acc (readL (n + 1) r) = ([], (readS r).2.1, (readS r).2.2) := by
  rw [readL, if_neg h]
  unfold appL
  simp [h]
/-- A script that has come back. -/
def GotS (R : List St × Int) (w : World) (e : Ending) (w' : World) : Prop := ∃ A c, e = .returned (.tuple #[.slice A R.1.length c, .int .i64 R.2]) ∧ Seg w' w'.heap.size A (stRows R.1) ∧ Below w.heap.size w w'
theorem st_info : (Tryz.prog.info? TSt).map (fun i => (i.zero, i.size, i.bytes)) = some (some (.agg #[.int .i64 0, .int .i64 0, .int .i64 0, .int .i64 0, .int .i64 0, .int .i64 0, .int .i64 0, .int .i64 0, .int .i64 0]), 9, 72) := by kernel_rfl
theorem st_one (x : St) : ∀ u ∈ (stCells x).toList, u.oneCell' = true := by
  intro u hu
  simp [stCells] at hu
  rcases hu with rfl | rfl | rfl | rfl | rfl | rfl | rfl | rfl | rfl <;> rfl
theorem stRows_snoc (l : List St) (x : St) : stRows (l ++ [x]) = stRows l ++ (stCells x).toList := by simp [stRows]
theorem own_low {w : World} {base : Nat} {e : TypeId} {size n : Nat} {v : Value} {xs : List Value} (h : w.ownsRow base e size v n xs) {g : Nat} (hg : g < base) : v.ownBlock ≠ some g := fun e => by
  have := (h.lt _ e).1
  omega
end Go.Proofs.YtmplokdbbhlomaaGreatDoor
