/-
  What complineref11.Get and complineref33.Right, Wrong, Bytes, Put come to, over this seat's translation: contracts for callers. (Printed by gen_sr7.py.)
-/
import Derived.Test.YtmplokdbbhlomaaDoorSr6
namespace Go.Proofs.YtmplokdbbhlomaaDoor
open Go.RowKit

theorem getC_doc (s : List UInt8) : getC s = if rEnd (rdOut ⟨s, 0⟩) = 0 then ((readC ⟨s, 0⟩).1, 0) else (zeroC, rEnd (rdOut ⟨s, 0⟩)) := by
  unfold getC
  by_cases h0 : (readC ⟨s, 0⟩).2.1 = 0
  · have h1 := (readC_got h0).2.2.1
    have hr : ∀ R : Cm × Int × Rd, R.2.1 = 0 → R.2.2.e = 0 → Rd.mk R.2.2.s R.2.1 = R.2.2 := by
      rintro ⟨_, _, ⟨_, _⟩⟩ h h'
      simp only at h h'
      rw [h, h']
    have e : rdOut ⟨s, 0⟩ = (readC ⟨s, 0⟩).2.2 := hr _ h0 h1
    rw [if_pos h0, e]
  · have e : rEnd (rdOut ⟨s, 0⟩) = (readC ⟨s, 0⟩).2.1 := by
      unfold rEnd rdOut
      simp [h0]
    rw [if_neg h0, e, if_neg h0]
/-- A new reader. -/
theorem RdAt.made (w : World) (l : List UInt8) (hl : l.length ≤ 1000000) (t : TypeId) : RdAt (w.alloc (.cells #[.string (bs l), .int .i64 0] t)) w.heap.size ⟨l, 0⟩ :=
  ⟨cell_new _ _ _ 0 rfl, cell_new _ _ _ 1 rfl, fun j => by go_simp, hl⟩
set_option maxRecDepth 100000 in
set_option maxHeartbeats 6400000 in
theorem rget11_any (l : List UInt8) (w : World) (hl : l.length ≤ 1000000) : Calls Tryd.prog 49 #[.string (bs l)] w fun e w' => e = .returned (.tuple #[cmV (getC l).1, .int .i64 (getC l).2]) ∧ Below w.heap.size w w' := by
  have HB0 : Hid (Below w.heap.size w (w.alloc (.cells (cmCells zeroC) TC))) := Lib.hid ((Below.refl _ _).alloc (Nat.le_refl _) _)
  have HZ := Lib.hid (CmAt.made w zeroC)
  have hz0 : w.heap.size < (w.alloc (.cells (cmCells zeroC) TC)).heap.size := by simp
  obtain ⟨T, HT⟩ : ∃ T, Hid (T = getC l) := ⟨_, Lib.hid rfl⟩
  have HTD := Lib.hid (HT.out.trans (getC_doc l))
  rw [← HT.out]
  rw [zero_cells] at HB0 HZ hz0
  go_enter Tryd.func49, Tryd.ntmps49
  have HBR : Hid (Below w.heap.size w ((w.alloc (.cells #[.int .i64 0, .int .i64 0, .int .i64 0, .int .i64 0, .int .i64 0, .int .i64 0, .int .i64 0] TC)).alloc (.cells #[.string (bs l), .int .i64 0] 60))) := Lib.hid (HB0.out.alloc HB0.out.size _)
  have HRR := Lib.hid (RdAt.made (w.alloc (.cells #[.int .i64 0, .int .i64 0, .int .i64 0, .int .i64 0, .int .i64 0, .int .i64 0, .int .i64 0] TC)) l hl 60)
  have HZR := Lib.hid (HZ.out.below ((Below.refl _ _).alloc (Nat.le_refl _) (.cells #[.string (bs l), .int .i64 0] 60)))
  go_upto_region 2 with fail
  have hgg : (w.alloc (.cells #[.int .i64 0, .int .i64 0, .int .i64 0, .int .i64 0, .int .i64 0, .int .i64 0, .int .i64 0] TC)).heap.size = w.heap.size + 1 := by simp
  rw [hgg] at HRR
  clear hgg hz0
  generalize (w.alloc (.cells #[.int .i64 0, .int .i64 0, .int .i64 0, .int .i64 0, .int .i64 0, .int .i64 0, .int .i64 0] TC)).alloc (.cells #[.string (bs l), .int .i64 0] 60) = w1 at *
  have HB1 := Lib.hid HBR.out
  clear HB0 HZ HBR
  go_wp2_with (go_at_call 67; refine (rread_any (w.heap.size + 1) ⟨l, 0⟩ w1 HRR.out).mono ?_)
  rintro e w2 ⟨rfl, hr2, hg2⟩
  generalize (readC ⟨l, 0⟩).1 = c at *
  generalize rdOut ⟨l, 0⟩ = r2 at *
  have HZ2 := Lib.hid (HZR.out.kept hg2 (fun e => by injection e with e; omega))
  have HB2 : Hid (Below w.heap.size w w2) := Lib.hid (HB1.out.grown hg2 HB1.out.size (fun k hk => by injection hk with hk; omega))
  have HR2 := Lib.hid hr2
  clear hr2 hg2 HZR HRR HB1
  unfold cmV
  have HBA : Hid (Below w2.heap.size w2 (w2.alloc (.cells (cmCells c) TC))) := Lib.hid ((Below.refl _ _).alloc (Nat.le_refl _) _)
  have HC3 := Lib.hid (CmAt.made w2 c)
  have HZ3 := Lib.hid (HZ2.out.below HBA.out)
  have HR3 := Lib.hid (HR2.out.below HBA.out)
  have HB3 : Hid (Below w.heap.size w (w2.alloc (.cells (cmCells c) TC))) := Lib.hid (HB2.out.trans (HBA.out.mono HB2.out.size))
  have hcc : cmCells c = #[.int .i64 c.k, .int .i64 c.i, .int .i64 c.m, .int .i64 c.o, .int .i64 c.s, .int .i64 c.q, .int .i64 c.p] := rfl
  rw [hcc] at HC3 HZ3 HR3 HB3
  have hlz : w.heap.size < w2.heap.size := HZ2.out.lt
  clear hcc HBA HZ2 HR2 HB2
  go_upto_region 3 with fail
  generalize (w2.alloc (.cells #[.int .i64 c.k, .int .i64 c.i, .int .i64 c.m, .int .i64 c.o, .int .i64 c.s, .int .i64 c.q, .int .i64 c.p] TC)) = w3 at *
  generalize w2.heap.size = bb at *
  have c0 : w3.cell? ⟨bb, 0, none⟩ = some (.int .i64 c.k) := HC3.out.cell 0
  have c1 : w3.cell? ⟨bb, 1, none⟩ = some (.int .i64 c.i) := HC3.out.cell 1
  have c2 : w3.cell? ⟨bb, 2, none⟩ = some (.int .i64 c.m) := HC3.out.cell 2
  have c3 : w3.cell? ⟨bb, 3, none⟩ = some (.int .i64 c.o) := HC3.out.cell 3
  have c4 : w3.cell? ⟨bb, 4, none⟩ = some (.int .i64 c.s) := HC3.out.cell 4
  have c5 : w3.cell? ⟨bb, 5, none⟩ = some (.int .i64 c.q) := HC3.out.cell 5
  have c6 : w3.cell? ⟨bb, 6, none⟩ = some (.int .i64 c.p) := HC3.out.cell 6
  have z0 : w3.cell? ⟨w.heap.size, 0, none⟩ = some (.int .i64 0) := HZ3.out.cell 0
  have z1 : w3.cell? ⟨w.heap.size, 1, none⟩ = some (.int .i64 0) := HZ3.out.cell 1
  have z2 : w3.cell? ⟨w.heap.size, 2, none⟩ = some (.int .i64 0) := HZ3.out.cell 2
  have z3 : w3.cell? ⟨w.heap.size, 3, none⟩ = some (.int .i64 0) := HZ3.out.cell 3
  have z4 : w3.cell? ⟨w.heap.size, 4, none⟩ = some (.int .i64 0) := HZ3.out.cell 4
  have z5 : w3.cell? ⟨w.heap.size, 5, none⟩ = some (.int .i64 0) := HZ3.out.cell 5
  have z6 : w3.cell? ⟨w.heap.size, 6, none⟩ = some (.int .i64 0) := HZ3.out.cell 6
  have zf := HZ3.out.fz
  have HEN := Lib.hid (rend_any (w.heap.size + 1) r2 w3 HR3.out)
  generalize rEnd r2 = en at *
  by_cases h0 : en = 0
  case neg =>
    have hb : (en != 0) = true := by simpa using h0
    have HT2 : Hid (T = (zeroC, en)) := Lib.hid (by rw [HTD.out, if_neg h0])
    go_wp2_with (go_at_call 30; refine HEN.out.mono ?_; rintro e w4 ⟨rfl, rfl⟩)
    obtain ⟨hov, hgv⟩ := HZ3.out.over zeroC
    obtain ⟨W5, hW5⟩ : ∃ W5, W5 = (World.setCell (World.setCell (World.setCell (World.setCell (World.setCell (World.setCell (World.setCell w4 ⟨w.heap.size, 0, none⟩ (.int .i64 0)) ⟨w.heap.size, 1, none⟩ (.int .i64 0)) ⟨w.heap.size, 2, none⟩ (.int .i64 0)) ⟨w.heap.size, 3, none⟩ (.int .i64 0)) ⟨w.heap.size, 4, none⟩ (.int .i64 0)) ⟨w.heap.size, 5, none⟩ (.int .i64 0)) ⟨w.heap.size, 6, none⟩ (.int .i64 0)) := ⟨_, rfl⟩
    have HOV : Hid (CmAt W5 w.heap.size zeroC) := Lib.hid (by rw [hW5]; exact hov)
    have HGV : Hid (w4.grownBy W5 (some w.heap.size)) := Lib.hid (by rw [hW5]; exact hgv)
    rw [← hW5]
    clear hov hgv hW5
    have y0 : W5.cell? ⟨w.heap.size, 0, none⟩ = some (.int .i64 0) := HOV.out.cell 0
    have y1 : W5.cell? ⟨w.heap.size, 1, none⟩ = some (.int .i64 0) := HOV.out.cell 1
    have y2 : W5.cell? ⟨w.heap.size, 2, none⟩ = some (.int .i64 0) := HOV.out.cell 2
    have y3 : W5.cell? ⟨w.heap.size, 3, none⟩ = some (.int .i64 0) := HOV.out.cell 3
    have y4 : W5.cell? ⟨w.heap.size, 4, none⟩ = some (.int .i64 0) := HOV.out.cell 4
    have y5 : W5.cell? ⟨w.heap.size, 5, none⟩ = some (.int .i64 0) := HOV.out.cell 5
    have y6 : W5.cell? ⟨w.heap.size, 6, none⟩ = some (.int .i64 0) := HOV.out.cell 6
    refine bodyPost_ret (v := .tuple #[.agg #[.int .i64 0, .int .i64 0, .int .i64 0, .int .i64 0, .int .i64 0, .int .i64 0, .int .i64 0], .int .i64 en]) (by simp [results, Tryd.results49, go_sem, y0, y1, y2, y3, y4, y5, y6]) rfl ?_
    rw [HT2.out]; exact ⟨rfl, below_byS HB3.out HGV.out⟩
  subst h0
  have HT2 : Hid (T = (c, 0)) := Lib.hid (by rw [HTD.out, if_pos rfl])
  go_wp2_with (go_at_call 30; refine HEN.out.mono ?_; rintro e w4 ⟨rfl, rfl⟩)
  obtain ⟨hov, hgv⟩ := HZ3.out.over c
  obtain ⟨W5, hW5⟩ : ∃ W5, W5 = (World.setCell (World.setCell (World.setCell (World.setCell (World.setCell (World.setCell (World.setCell w4 ⟨w.heap.size, 0, none⟩ (.int .i64 c.k)) ⟨w.heap.size, 1, none⟩ (.int .i64 c.i)) ⟨w.heap.size, 2, none⟩ (.int .i64 c.m)) ⟨w.heap.size, 3, none⟩ (.int .i64 c.o)) ⟨w.heap.size, 4, none⟩ (.int .i64 c.s)) ⟨w.heap.size, 5, none⟩ (.int .i64 c.q)) ⟨w.heap.size, 6, none⟩ (.int .i64 c.p)) := ⟨_, rfl⟩
  have HOV : Hid (CmAt W5 w.heap.size c) := Lib.hid (by rw [hW5]; exact hov)
  have HGV : Hid (w4.grownBy W5 (some w.heap.size)) := Lib.hid (by rw [hW5]; exact hgv)
  rw [← hW5]
  clear hov hgv hW5
  have y0 : W5.cell? ⟨w.heap.size, 0, none⟩ = some (.int .i64 c.k) := HOV.out.cell 0
  have y1 : W5.cell? ⟨w.heap.size, 1, none⟩ = some (.int .i64 c.i) := HOV.out.cell 1
  have y2 : W5.cell? ⟨w.heap.size, 2, none⟩ = some (.int .i64 c.m) := HOV.out.cell 2
  have y3 : W5.cell? ⟨w.heap.size, 3, none⟩ = some (.int .i64 c.o) := HOV.out.cell 3
  have y4 : W5.cell? ⟨w.heap.size, 4, none⟩ = some (.int .i64 c.s) := HOV.out.cell 4
  have y5 : W5.cell? ⟨w.heap.size, 5, none⟩ = some (.int .i64 c.q) := HOV.out.cell 5
  have y6 : W5.cell? ⟨w.heap.size, 6, none⟩ = some (.int .i64 c.p) := HOV.out.cell 6
  refine bodyPost_ret (v := .tuple #[.agg #[.int .i64 c.k, .int .i64 c.i, .int .i64 c.m, .int .i64 c.o, .int .i64 c.s, .int .i64 c.q, .int .i64 c.p], .int .i64 0]) (by simp [results, Tryd.results49, go_sem, y0, y1, y2, y3, y4, y5, y6]) rfl ?_
  rw [HT2.out]; exact ⟨rfl, below_byS HB3.out HGV.out⟩
end Go.Proofs.YtmplokdbbhlomaaDoor
