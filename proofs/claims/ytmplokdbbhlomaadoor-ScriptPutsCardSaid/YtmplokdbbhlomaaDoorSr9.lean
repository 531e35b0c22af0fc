/-
  What complineref33.read comes to, over this seat's translation: a contract for callers. (Printed by gen_sr9.py.)
-/
import Derived.Test.YtmplokdbbhlomaaDoorSr8
namespace Go.Proofs.YtmplokdbbhlomaaDoor
open Go.RowKit

/-- What the document's read leaves of the reader. -/
def rsOut (r : Rd) : Rd := ⟨(readS r).2.2.s, (readS r).2.1⟩
/-- The blocks of the document's read. -/
structure R33 (w : World) (g bb : Nat) (r : Rd) (x : St) (W : World) : Prop where
  r : RdAt W g r
  z : CsAt W w.heap.size (stCells zeroS)
  x : CsAt W bb (stCells x)
  lz : w.heap.size < W.heap.size
  lb : bb < W.heap.size
  g : w.grownBy W (some g)
theorem R33.below {w W W' : World} {g bb : Nat} {r : Rd} {x : St} (h : R33 w g bb r x W) (hb : Below W.heap.size W W') : R33 w g bb r x W' :=
  ⟨h.r.below hb, h.z.below h.lz hb, h.x.below h.lb hb, Nat.lt_of_lt_of_le h.lz hb.size, Nat.lt_of_lt_of_le h.lb hb.size, grown_belowS h.g hb⟩
theorem R33.read {w W W' : World} {g bb : Nat} {r r' : Rd} {x : St} (h : R33 w g bb r x W) (hg : W.grownBy W' (some g)) (hr : RdAt W' g r') (h1 : g < w.heap.size) (h2 : w.heap.size < bb) : R33 w g bb r' x W' :=
  ⟨hr, h.z.kept hg h.lz (fun e => by injection e with e; omega), h.x.kept hg h.lb (fun e => by injection e with e; omega), Nat.lt_of_lt_of_le h.lz hg.size, Nat.lt_of_lt_of_le h.lb hg.size, grown_twoS h.g hg⟩
theorem R33.setx {w W W' : World} {g bb : Nat} {r : Rd} {x x' : St} (h : R33 w g bb r x W) (hg : W.grownBy W' (some bb)) (hx : CsAt W' bb (stCells x')) (h1 : g < w.heap.size) (h2 : w.heap.size < bb) : R33 w g bb r x' W' :=
  ⟨h.r.kept hg (fun e => by injection e with e; omega), h.z.kept hg h.lz (fun e => by injection e with e; omega), hx, Nat.lt_of_lt_of_le h.lz hg.size, Nat.lt_of_lt_of_le h.lb hg.size, grown_newS h.g hg (by omega)⟩
theorem R33.sete {w W : World} {g bb : Nat} {r : Rd} {x : St} (h : R33 w g bb r x W) (e : Int) (h1 : g < w.heap.size) (h2 : w.heap.size < bb) : R33 w g bb ⟨r.s, e⟩ x (W.setCell ⟨g, 1, none⟩ (.int .i64 e)) :=
  h.read (grown_setS _ _ _ _) (h.r.setE e) h1 h2
theorem R33.setn {w W : World} {g bb : Nat} {r : Rd} {k n0 : Int} {c : Cm} (h : R33 w g bb r ⟨k, c, n0⟩ W) (n : Int) (h1 : g < w.heap.size) (h2 : w.heap.size < bb) : R33 w g bb r ⟨k, c, n⟩ (W.setCell ⟨bb, 8, none⟩ (.int .i64 n)) :=
  h.setx (grown_setS _ _ _ _) (by
    have h3 := h.x.set (i := 8) (by simp [stCells]) (.int .i64 n)
    simpa only [stCells, List.setIfInBounds_toArray, List.set_cons_zero, List.set_cons_succ] using h3) h1 h2
set_option maxRecDepth 100000 in
set_option maxHeartbeats 16000000 in
theorem srread_any (g : Nat) (r : Rd) (w : World) (h : RdAt w g r) : Calls Tryd.prog 29 #[.pointer (some ⟨g, 0, none⟩)] w fun e w' => e = .returned (stV (readS r).1) ∧ RdAt w' g (rsOut r) ∧ w.grownBy w' (some g) := by
  have hgl := h.lt
  have HB0 : Hid (Below w.heap.size w (w.alloc (.cells (stCells zeroS) TSt))) := Lib.hid ((Below.refl _ _).alloc (Nat.le_refl _) _)
  have HZ := Lib.hid (CsAt.made w (stCells zeroS) TSt)
  have HR0 := Lib.hid (h.below HB0.out)
  have hz0 : w.heap.size < (w.alloc (.cells (stCells zeroS) TSt)).heap.size := by simp
  have hcz : stCells zeroS = #[.int .i64 0, .int .i64 0, .int .i64 0, .int .i64 0, .int .i64 0, .int .i64 0, .int .i64 0, .int .i64 0, .int .i64 0] := rfl
  obtain ⟨T, HT⟩ : ∃ T, Hid (T = (readS r).1) := ⟨_, Lib.hid rfl⟩
  obtain ⟨Q, HQ⟩ : ∃ Q, Hid (Q = rsOut r) := ⟨_, Lib.hid rfl⟩
  rw [← HT.out, ← HQ.out]
  have HTQ : Hid (∀ P : St × Int × Rd, readS r = P → T = P.1 ∧ Q = ⟨P.2.2.s, P.2.1⟩) := Lib.hid fun P hP => ⟨by rw [HT.out, hP], by rw [HQ.out]; unfold rsOut; rw [hP]⟩
  have HQA : Hid ((rUpto 2 r).2.e ≠ 0 → readS r = (zeroS, (rUpto 2 r).2.e, (rUpto 2 r).2)) := Lib.hid readS_A
  have HQT := Lib.hid (readS_T (r := r))
  have HQN := Lib.hid (fun t => readS_N (r := r) (t := t))
  clear HT HQ h
  have HUI := rUpto_in 2 (by omega) r
  have HUO : Hid ((rUpto 2 r).2.e ≠ 0 → (rUpto 2 r).1 = 0) := Lib.hid rUpto_off
  rw [hcz] at HB0 HZ HR0 hz0
  unfold stV stCells
  go_enter Tryd.func29, Tryd.ntmps29
  go_wp2_with fail
  generalize w.alloc (.cells #[.int .i64 0, .int .i64 0, .int .i64 0, .int .i64 0, .int .i64 0, .int .i64 0, .int .i64 0, .int .i64 0, .int .i64 0] TSt) = w0 at *
  have HU := Lib.hid (rupto_any g r 2 w0 HR0.out)
  generalize hRS : readS r = RS at *
  generalize rUpto 2 r = U at *
  obtain ⟨t, r1⟩ := U
  simp only at HQA HQT HQN HUI HUO HU
  refine HU.out.mono ?_
  rintro e w1 ⟨rfl, hr1, hg1⟩
  have HR1 := Lib.hid hr1
  have HG1 : Hid (w.grownBy w1 (some g)) := Lib.hid (grown_twoS (grown_toS HB0.out g) hg1)
  have HZ1 := Lib.hid (HZ.out.kept hg1 hz0 (fun e => by injection e with e; omega))
  have hw1 : w.heap.size < w1.heap.size := Nat.lt_of_lt_of_le hz0 hg1.size
  clear hr1 hg1 HU HZ HB0 HR0 hz0
  by_cases h1 : r1.e = 0
  case neg =>
    obtain rfl : t = 0 := HUO.out h1
    have hbe : (r1.e != 0) = true := by simpa using h1
    have HT2 := Lib.hid (HTQ.out _ (HQA.out h1))
    clear HQA HQT HQN HUI HUO hRS
    have HI2 : Hid (R33 w g w1.heap.size r1 ⟨1, zeroC, 0⟩ (w1.alloc (.cells #[.int .i64 1, .int .i64 0, .int .i64 0, .int .i64 0, .int .i64 0, .int .i64 0, .int .i64 0, .int .i64 0, .int .i64 0] TSt))) := Lib.hid (by
      have hB : Below w1.heap.size w1 (w1.alloc (.cells #[.int .i64 1, .int .i64 0, .int .i64 0, .int .i64 0, .int .i64 0, .int .i64 0, .int .i64 0, .int .i64 0, .int .i64 0] TSt)) := (Below.refl _ _).alloc (Nat.le_refl _) _
      exact ⟨HR1.out.below hB, HZ1.out.below hw1 hB, CsAt.made _ _ _, by simp; omega, by simp, grown_belowS HG1.out hB⟩)
    clear HR1 HG1 HZ1
    go_upto_region 2 with fail
    generalize (w1.alloc (.cells #[.int .i64 1, .int .i64 0, .int .i64 0, .int .i64 0, .int .i64 0, .int .i64 0, .int .i64 0, .int .i64 0, .int .i64 0] TSt)) = w2 at *
    generalize w1.heap.size = bb at *
    have z0 : w2.cell? ⟨w.heap.size, 0, none⟩ = some (.int .i64 0) := HI2.out.z.cell 0
    have z1 : w2.cell? ⟨w.heap.size, 1, none⟩ = some (.int .i64 0) := HI2.out.z.cell 1
    have z2 : w2.cell? ⟨w.heap.size, 2, none⟩ = some (.int .i64 0) := HI2.out.z.cell 2
    have z3 : w2.cell? ⟨w.heap.size, 3, none⟩ = some (.int .i64 0) := HI2.out.z.cell 3
    have z4 : w2.cell? ⟨w.heap.size, 4, none⟩ = some (.int .i64 0) := HI2.out.z.cell 4
    have z5 : w2.cell? ⟨w.heap.size, 5, none⟩ = some (.int .i64 0) := HI2.out.z.cell 5
    have z6 : w2.cell? ⟨w.heap.size, 6, none⟩ = some (.int .i64 0) := HI2.out.z.cell 6
    have z7 : w2.cell? ⟨w.heap.size, 7, none⟩ = some (.int .i64 0) := HI2.out.z.cell 7
    have z8 : w2.cell? ⟨w.heap.size, 8, none⟩ = some (.int .i64 0) := HI2.out.z.cell 8
    have zf := HI2.out.z.fz
    have e1 : w2.cell? ⟨g, 1, none⟩ = some (.int .i64 r1.e) := HI2.out.r.c1
    have ef := HI2.out.r.fz
    go_wp2_with fail
    obtain ⟨hov, hgv⟩ := HI2.out.z.over zeroS
    obtain ⟨W5, hW5⟩ : ∃ W5, W5 = (World.setCell (World.setCell (World.setCell (World.setCell (World.setCell (World.setCell (World.setCell (World.setCell (World.setCell w2 ⟨w.heap.size, 0, none⟩ (.int .i64 0)) ⟨w.heap.size, 1, none⟩ (.int .i64 0)) ⟨w.heap.size, 2, none⟩ (.int .i64 0)) ⟨w.heap.size, 3, none⟩ (.int .i64 0)) ⟨w.heap.size, 4, none⟩ (.int .i64 0)) ⟨w.heap.size, 5, none⟩ (.int .i64 0)) ⟨w.heap.size, 6, none⟩ (.int .i64 0)) ⟨w.heap.size, 7, none⟩ (.int .i64 0)) ⟨w.heap.size, 8, none⟩ (.int .i64 0)) := ⟨_, rfl⟩
    have HOV : Hid (CsAt W5 w.heap.size (stCells zeroS)) := Lib.hid (by rw [hW5]; exact hov)
    have HGV : Hid (w2.grownBy W5 (some w.heap.size)) := Lib.hid (by rw [hW5]; exact hgv)
    rw [← hW5]
    clear hov hgv hW5
    have y0 : W5.cell? ⟨w.heap.size, 0, none⟩ = some (.int .i64 0) := HOV.out.cell 0
    have y1 : W5.cell? ⟨w.heap.size, 1, none⟩ = some (.int .i64 0) := HOV.out.cell 1
    have y2 : W5.cell? ⟨w.heap.size, 2, none⟩ = some (.int .i64 0) := HOV.out.cell 2
    have y3 : W5.cell? ⟨w.heap.size, 3, none⟩ = some (.int .i64 0) := HOV.out.cell 3
    have y4 : W5.cell? ⟨w.heap.size, 4, none⟩ = some (.int .i64 0) := HOV.out.cell 4
    have y5 : W5.cell? ⟨w.heap.size, 5, none⟩ = some (.int .i64 0) := HOV.out.cell 5
    have y6 : W5.cell? ⟨w.heap.size, 6, none⟩ = some (.int .i64 0) := HOV.out.cell 6
    have y7 : W5.cell? ⟨w.heap.size, 7, none⟩ = some (.int .i64 0) := HOV.out.cell 7
    have y8 : W5.cell? ⟨w.heap.size, 8, none⟩ = some (.int .i64 0) := HOV.out.cell 8
    refine bodyPost_ret (v := .agg #[.int .i64 0, .int .i64 0, .int .i64 0, .int .i64 0, .int .i64 0, .int .i64 0, .int .i64 0, .int .i64 0, .int .i64 0]) (by simp [results, Tryd.results29, go_sem, y0, y1, y2, y3, y4, y5, y6, y7, y8]) rfl ?_
    rw [HT2.out.1, HT2.out.2]
    exact ⟨rfl, HI2.out.r.kept HGV.out (fun e => by injection e with e; omega), grown_newS HI2.out.g HGV.out (Nat.le_refl _)⟩
  have hbe : (r1.e != 0) = false := by simpa using h1
  by_cases ht : t = 0
  · subst ht
    have HQ1 := Lib.hid (HQT.out h1 rfl)
    clear HQA HQT HQN HUI HUO
    have HI2 : Hid (R33 w g w1.heap.size r1 ⟨1, zeroC, 0⟩ (w1.alloc (.cells #[.int .i64 1, .int .i64 0, .int .i64 0, .int .i64 0, .int .i64 0, .int .i64 0, .int .i64 0, .int .i64 0, .int .i64 0] TSt))) := Lib.hid (by
      have hB : Below w1.heap.size w1 (w1.alloc (.cells #[.int .i64 1, .int .i64 0, .int .i64 0, .int .i64 0, .int .i64 0, .int .i64 0, .int .i64 0, .int .i64 0, .int .i64 0] TSt)) := (Below.refl _ _).alloc (Nat.le_refl _) _
      exact ⟨HR1.out.below hB, HZ1.out.below hw1 hB, CsAt.made _ _ _, by simp; omega, by simp, grown_belowS HG1.out hB⟩)
    clear HR1 HG1 HZ1
    go_upto_region 2 with fail
    generalize (w1.alloc (.cells #[.int .i64 1, .int .i64 0, .int .i64 0, .int .i64 0, .int .i64 0, .int .i64 0, .int .i64 0, .int .i64 0, .int .i64 0] TSt)) = w2 at *
    generalize w1.heap.size = bb at *
    have z0 : w2.cell? ⟨w.heap.size, 0, none⟩ = some (.int .i64 0) := HI2.out.z.cell 0
    have z1 : w2.cell? ⟨w.heap.size, 1, none⟩ = some (.int .i64 0) := HI2.out.z.cell 1
    have z2 : w2.cell? ⟨w.heap.size, 2, none⟩ = some (.int .i64 0) := HI2.out.z.cell 2
    have z3 : w2.cell? ⟨w.heap.size, 3, none⟩ = some (.int .i64 0) := HI2.out.z.cell 3
    have z4 : w2.cell? ⟨w.heap.size, 4, none⟩ = some (.int .i64 0) := HI2.out.z.cell 4
    have z5 : w2.cell? ⟨w.heap.size, 5, none⟩ = some (.int .i64 0) := HI2.out.z.cell 5
    have z6 : w2.cell? ⟨w.heap.size, 6, none⟩ = some (.int .i64 0) := HI2.out.z.cell 6
    have z7 : w2.cell? ⟨w.heap.size, 7, none⟩ = some (.int .i64 0) := HI2.out.z.cell 7
    have z8 : w2.cell? ⟨w.heap.size, 8, none⟩ = some (.int .i64 0) := HI2.out.z.cell 8
    have zf := HI2.out.z.fz
    have x0 : w2.cell? ⟨bb, 0, none⟩ = some (.int .i64 1) := HI2.out.x.cell 0
    have x1 : w2.cell? ⟨bb, 1, none⟩ = some (.int .i64 0) := HI2.out.x.cell 1
    have x2 : w2.cell? ⟨bb, 2, none⟩ = some (.int .i64 0) := HI2.out.x.cell 2
    have x3 : w2.cell? ⟨bb, 3, none⟩ = some (.int .i64 0) := HI2.out.x.cell 3
    have x4 : w2.cell? ⟨bb, 4, none⟩ = some (.int .i64 0) := HI2.out.x.cell 4
    have x5 : w2.cell? ⟨bb, 5, none⟩ = some (.int .i64 0) := HI2.out.x.cell 5
    have x6 : w2.cell? ⟨bb, 6, none⟩ = some (.int .i64 0) := HI2.out.x.cell 6
    have x7 : w2.cell? ⟨bb, 7, none⟩ = some (.int .i64 0) := HI2.out.x.cell 7
    have x8 : w2.cell? ⟨bb, 8, none⟩ = some (.int .i64 0) := HI2.out.x.cell 8
    have xf := HI2.out.x.fz
    have e1 : w2.cell? ⟨g, 1, none⟩ = some (.int .i64 r1.e) := HI2.out.r.c1
    have ef := HI2.out.r.fz
    have HTX := Lib.hid (rrtext_any g r1 1024 w2 HI2.out.r (by omega))
    have hrl := rText_len 1024 r1
    have hrs := HI2.out.r.len
    generalize rText 1024 r1 = X at *
    obtain ⟨tx, r2⟩ := X
    simp only at HQ1 HTX hrl
    go_wp2_with fail
    refine HTX.out.mono ?_
    rintro e w3 ⟨rfl, hr3, hg3⟩
    have HI3 := Lib.hid (HI2.out.read hg3 hr3 hgl hw1)
    clear hr3 hg3 HTX HI2 z0 z1 z2 z3 z4 z5 z6 z7 z8 zf x0 x1 x2 x3 x4 x5 x6 x7 x8 xf e1 ef
    have z0 : w3.cell? ⟨w.heap.size, 0, none⟩ = some (.int .i64 0) := HI3.out.z.cell 0
    have z1 : w3.cell? ⟨w.heap.size, 1, none⟩ = some (.int .i64 0) := HI3.out.z.cell 1
    have z2 : w3.cell? ⟨w.heap.size, 2, none⟩ = some (.int .i64 0) := HI3.out.z.cell 2
    have z3 : w3.cell? ⟨w.heap.size, 3, none⟩ = some (.int .i64 0) := HI3.out.z.cell 3
    have z4 : w3.cell? ⟨w.heap.size, 4, none⟩ = some (.int .i64 0) := HI3.out.z.cell 4
    have z5 : w3.cell? ⟨w.heap.size, 5, none⟩ = some (.int .i64 0) := HI3.out.z.cell 5
    have z6 : w3.cell? ⟨w.heap.size, 6, none⟩ = some (.int .i64 0) := HI3.out.z.cell 6
    have z7 : w3.cell? ⟨w.heap.size, 7, none⟩ = some (.int .i64 0) := HI3.out.z.cell 7
    have z8 : w3.cell? ⟨w.heap.size, 8, none⟩ = some (.int .i64 0) := HI3.out.z.cell 8
    have zf := HI3.out.z.fz
    have x0 : w3.cell? ⟨bb, 0, none⟩ = some (.int .i64 1) := HI3.out.x.cell 0
    have x1 : w3.cell? ⟨bb, 1, none⟩ = some (.int .i64 0) := HI3.out.x.cell 1
    have x2 : w3.cell? ⟨bb, 2, none⟩ = some (.int .i64 0) := HI3.out.x.cell 2
    have x3 : w3.cell? ⟨bb, 3, none⟩ = some (.int .i64 0) := HI3.out.x.cell 3
    have x4 : w3.cell? ⟨bb, 4, none⟩ = some (.int .i64 0) := HI3.out.x.cell 4
    have x5 : w3.cell? ⟨bb, 5, none⟩ = some (.int .i64 0) := HI3.out.x.cell 5
    have x6 : w3.cell? ⟨bb, 6, none⟩ = some (.int .i64 0) := HI3.out.x.cell 6
    have x7 : w3.cell? ⟨bb, 7, none⟩ = some (.int .i64 0) := HI3.out.x.cell 7
    have x8 : w3.cell? ⟨bb, 8, none⟩ = some (.int .i64 0) := HI3.out.x.cell 8
    have xf := HI3.out.x.fz
    have e1 : w3.cell? ⟨g, 1, none⟩ = some (.int .i64 r2.e) := HI3.out.r.c1
    have ef := HI3.out.r.fz
    by_cases h2 : r2.e = 0
    case neg =>
      have hb2 : (r2.e != 0) = true := by simpa using h2
      have HT2 := Lib.hid (HTQ.out _ (HQ1.out.trans (if_neg h2)))
      clear HQ1
      go_wp2_with fail
      obtain ⟨hov, hgv⟩ := HI3.out.z.over zeroS
      obtain ⟨W5, hW5⟩ : ∃ W5, W5 = (World.setCell (World.setCell (World.setCell (World.setCell (World.setCell (World.setCell (World.setCell (World.setCell (World.setCell w3 ⟨w.heap.size, 0, none⟩ (.int .i64 0)) ⟨w.heap.size, 1, none⟩ (.int .i64 0)) ⟨w.heap.size, 2, none⟩ (.int .i64 0)) ⟨w.heap.size, 3, none⟩ (.int .i64 0)) ⟨w.heap.size, 4, none⟩ (.int .i64 0)) ⟨w.heap.size, 5, none⟩ (.int .i64 0)) ⟨w.heap.size, 6, none⟩ (.int .i64 0)) ⟨w.heap.size, 7, none⟩ (.int .i64 0)) ⟨w.heap.size, 8, none⟩ (.int .i64 0)) := ⟨_, rfl⟩
      have HOV : Hid (CsAt W5 w.heap.size (stCells zeroS)) := Lib.hid (by rw [hW5]; exact hov)
      have HGV : Hid (w3.grownBy W5 (some w.heap.size)) := Lib.hid (by rw [hW5]; exact hgv)
      rw [← hW5]
      clear hov hgv hW5
      have y0 : W5.cell? ⟨w.heap.size, 0, none⟩ = some (.int .i64 0) := HOV.out.cell 0
      have y1 : W5.cell? ⟨w.heap.size, 1, none⟩ = some (.int .i64 0) := HOV.out.cell 1
      have y2 : W5.cell? ⟨w.heap.size, 2, none⟩ = some (.int .i64 0) := HOV.out.cell 2
      have y3 : W5.cell? ⟨w.heap.size, 3, none⟩ = some (.int .i64 0) := HOV.out.cell 3
      have y4 : W5.cell? ⟨w.heap.size, 4, none⟩ = some (.int .i64 0) := HOV.out.cell 4
      have y5 : W5.cell? ⟨w.heap.size, 5, none⟩ = some (.int .i64 0) := HOV.out.cell 5
      have y6 : W5.cell? ⟨w.heap.size, 6, none⟩ = some (.int .i64 0) := HOV.out.cell 6
      have y7 : W5.cell? ⟨w.heap.size, 7, none⟩ = some (.int .i64 0) := HOV.out.cell 7
      have y8 : W5.cell? ⟨w.heap.size, 8, none⟩ = some (.int .i64 0) := HOV.out.cell 8
      refine bodyPost_ret (v := .agg #[.int .i64 0, .int .i64 0, .int .i64 0, .int .i64 0, .int .i64 0, .int .i64 0, .int .i64 0, .int .i64 0, .int .i64 0]) (by simp [results, Tryd.results29, go_sem, y0, y1, y2, y3, y4, y5, y6, y7, y8]) rfl ?_
      rw [HT2.out.1, HT2.out.2]
      exact ⟨rfl, HI3.out.r.kept HGV.out (fun e => by injection e with e; omega), grown_newS HI3.out.g HGV.out (Nat.le_refl _)⟩
    have hb2 : (r2.e != 0) = false := by simpa using h2
    have HQ2 := Lib.hid (HQ1.out.trans (if_pos h2))
    clear HQ1
    have HGE := Lib.hid (rget11_any tx w3 (by omega))
    generalize getC tx = GC at *
    obtain ⟨c, ce⟩ := GC
    unfold cmV at HGE
    simp only at HQ2 HGE
    go_wp2_with fail
    refine HGE.out.mono ?_
    rintro e w4 ⟨rfl, hb4⟩
    have HI4 := Lib.hid (HI3.out.below hb4)
    clear hb4 HGE HI3 z0 z1 z2 z3 z4 z5 z6 z7 z8 zf x0 x1 x2 x3 x4 x5 x6 x7 x8 xf e1 ef
    have z0 : w4.cell? ⟨w.heap.size, 0, none⟩ = some (.int .i64 0) := HI4.out.z.cell 0
    have z1 : w4.cell? ⟨w.heap.size, 1, none⟩ = some (.int .i64 0) := HI4.out.z.cell 1
    have z2 : w4.cell? ⟨w.heap.size, 2, none⟩ = some (.int .i64 0) := HI4.out.z.cell 2
    have z3 : w4.cell? ⟨w.heap.size, 3, none⟩ = some (.int .i64 0) := HI4.out.z.cell 3
    have z4 : w4.cell? ⟨w.heap.size, 4, none⟩ = some (.int .i64 0) := HI4.out.z.cell 4
    have z5 : w4.cell? ⟨w.heap.size, 5, none⟩ = some (.int .i64 0) := HI4.out.z.cell 5
    have z6 : w4.cell? ⟨w.heap.size, 6, none⟩ = some (.int .i64 0) := HI4.out.z.cell 6
    have z7 : w4.cell? ⟨w.heap.size, 7, none⟩ = some (.int .i64 0) := HI4.out.z.cell 7
    have z8 : w4.cell? ⟨w.heap.size, 8, none⟩ = some (.int .i64 0) := HI4.out.z.cell 8
    have zf := HI4.out.z.fz
    have x0 : w4.cell? ⟨bb, 0, none⟩ = some (.int .i64 1) := HI4.out.x.cell 0
    have x1 : w4.cell? ⟨bb, 1, none⟩ = some (.int .i64 0) := HI4.out.x.cell 1
    have x2 : w4.cell? ⟨bb, 2, none⟩ = some (.int .i64 0) := HI4.out.x.cell 2
    have x3 : w4.cell? ⟨bb, 3, none⟩ = some (.int .i64 0) := HI4.out.x.cell 3
    have x4 : w4.cell? ⟨bb, 4, none⟩ = some (.int .i64 0) := HI4.out.x.cell 4
    have x5 : w4.cell? ⟨bb, 5, none⟩ = some (.int .i64 0) := HI4.out.x.cell 5
    have x6 : w4.cell? ⟨bb, 6, none⟩ = some (.int .i64 0) := HI4.out.x.cell 6
    have x7 : w4.cell? ⟨bb, 7, none⟩ = some (.int .i64 0) := HI4.out.x.cell 7
    have x8 : w4.cell? ⟨bb, 8, none⟩ = some (.int .i64 0) := HI4.out.x.cell 8
    have xf := HI4.out.x.fz
    have e1 : w4.cell? ⟨g, 1, none⟩ = some (.int .i64 r2.e) := HI4.out.r.c1
    have ef := HI4.out.r.fz
    have HI5 : Hid (R33 w g bb ⟨r2.s, ce⟩ ⟨1, c, 0⟩ (World.setCell (World.setCell (World.setCell (World.setCell (World.setCell (World.setCell (World.setCell (World.setCell w4 ⟨bb, 1, none⟩ (.int .i64 c.k)) ⟨bb, 2, none⟩ (.int .i64 c.i)) ⟨bb, 3, none⟩ (.int .i64 c.m)) ⟨bb, 4, none⟩ (.int .i64 c.o)) ⟨bb, 5, none⟩ (.int .i64 c.s)) ⟨bb, 6, none⟩ (.int .i64 c.q)) ⟨bb, 7, none⟩ (.int .i64 c.p)) ⟨g, 1, none⟩ (.int .i64 ce))) := Lib.hid ((HI4.out.setx (HI4.out.x.overC c).2 (HI4.out.x.overC c).1 hgl hw1).sete ce hgl hw1)
    skip
    go_upto_region 12 with fail
    generalize (World.setCell (World.setCell (World.setCell (World.setCell (World.setCell (World.setCell (World.setCell (World.setCell w4 ⟨bb, 1, none⟩ (.int .i64 c.k)) ⟨bb, 2, none⟩ (.int .i64 c.i)) ⟨bb, 3, none⟩ (.int .i64 c.m)) ⟨bb, 4, none⟩ (.int .i64 c.o)) ⟨bb, 5, none⟩ (.int .i64 c.s)) ⟨bb, 6, none⟩ (.int .i64 c.q)) ⟨bb, 7, none⟩ (.int .i64 c.p)) ⟨g, 1, none⟩ (.int .i64 ce)) = w5 at *
    have z0 : w5.cell? ⟨w.heap.size, 0, none⟩ = some (.int .i64 0) := HI5.out.z.cell 0
    have z1 : w5.cell? ⟨w.heap.size, 1, none⟩ = some (.int .i64 0) := HI5.out.z.cell 1
    have z2 : w5.cell? ⟨w.heap.size, 2, none⟩ = some (.int .i64 0) := HI5.out.z.cell 2
    have z3 : w5.cell? ⟨w.heap.size, 3, none⟩ = some (.int .i64 0) := HI5.out.z.cell 3
    have z4 : w5.cell? ⟨w.heap.size, 4, none⟩ = some (.int .i64 0) := HI5.out.z.cell 4
    have z5 : w5.cell? ⟨w.heap.size, 5, none⟩ = some (.int .i64 0) := HI5.out.z.cell 5
    have z6 : w5.cell? ⟨w.heap.size, 6, none⟩ = some (.int .i64 0) := HI5.out.z.cell 6
    have z7 : w5.cell? ⟨w.heap.size, 7, none⟩ = some (.int .i64 0) := HI5.out.z.cell 7
    have z8 : w5.cell? ⟨w.heap.size, 8, none⟩ = some (.int .i64 0) := HI5.out.z.cell 8
    have zf := HI5.out.z.fz
    have x0 : w5.cell? ⟨bb, 0, none⟩ = some (.int .i64 1) := HI5.out.x.cell 0
    have x1 : w5.cell? ⟨bb, 1, none⟩ = some (.int .i64 c.k) := HI5.out.x.cell 1
    have x2 : w5.cell? ⟨bb, 2, none⟩ = some (.int .i64 c.i) := HI5.out.x.cell 2
    have x3 : w5.cell? ⟨bb, 3, none⟩ = some (.int .i64 c.m) := HI5.out.x.cell 3
    have x4 : w5.cell? ⟨bb, 4, none⟩ = some (.int .i64 c.o) := HI5.out.x.cell 4
    have x5 : w5.cell? ⟨bb, 5, none⟩ = some (.int .i64 c.s) := HI5.out.x.cell 5
    have x6 : w5.cell? ⟨bb, 6, none⟩ = some (.int .i64 c.q) := HI5.out.x.cell 6
    have x7 : w5.cell? ⟨bb, 7, none⟩ = some (.int .i64 c.p) := HI5.out.x.cell 7
    have x8 : w5.cell? ⟨bb, 8, none⟩ = some (.int .i64 0) := HI5.out.x.cell 8
    have xf := HI5.out.x.fz
    have e1 : w5.cell? ⟨g, 1, none⟩ = some (.int .i64 ce) := HI5.out.r.c1
    have ef := HI5.out.r.fz
    by_cases h3 : ce = 0
    case neg =>
      have hb3 : (ce != 0) = true := by simpa using h3
      have HT2 := Lib.hid (HTQ.out _ (HQ2.out.trans (if_neg h3)))
      clear HQ2
      have HI6 := Lib.hid (HI5.out.sete 3 hgl hw1)
      go_wp2_with fail
      clear z0 z1 z2 z3 z4 z5 z6 z7 z8 zf x0 x1 x2 x3 x4 x5 x6 x7 x8 xf e1 ef
      generalize (World.setCell w5 ⟨g, 1, none⟩ (.int .i64 3)) = w6 at *
      obtain ⟨hov, hgv⟩ := HI6.out.z.over zeroS
      obtain ⟨W5, hW5⟩ : ∃ W5, W5 = (World.setCell (World.setCell (World.setCell (World.setCell (World.setCell (World.setCell (World.setCell (World.setCell (World.setCell w6 ⟨w.heap.size, 0, none⟩ (.int .i64 0)) ⟨w.heap.size, 1, none⟩ (.int .i64 0)) ⟨w.heap.size, 2, none⟩ (.int .i64 0)) ⟨w.heap.size, 3, none⟩ (.int .i64 0)) ⟨w.heap.size, 4, none⟩ (.int .i64 0)) ⟨w.heap.size, 5, none⟩ (.int .i64 0)) ⟨w.heap.size, 6, none⟩ (.int .i64 0)) ⟨w.heap.size, 7, none⟩ (.int .i64 0)) ⟨w.heap.size, 8, none⟩ (.int .i64 0)) := ⟨_, rfl⟩
      have HOV : Hid (CsAt W5 w.heap.size (stCells zeroS)) := Lib.hid (by rw [hW5]; exact hov)
      have HGV : Hid (w6.grownBy W5 (some w.heap.size)) := Lib.hid (by rw [hW5]; exact hgv)
      rw [← hW5]
      clear hov hgv hW5
      have y0 : W5.cell? ⟨w.heap.size, 0, none⟩ = some (.int .i64 0) := HOV.out.cell 0
      have y1 : W5.cell? ⟨w.heap.size, 1, none⟩ = some (.int .i64 0) := HOV.out.cell 1
      have y2 : W5.cell? ⟨w.heap.size, 2, none⟩ = some (.int .i64 0) := HOV.out.cell 2
      have y3 : W5.cell? ⟨w.heap.size, 3, none⟩ = some (.int .i64 0) := HOV.out.cell 3
      have y4 : W5.cell? ⟨w.heap.size, 4, none⟩ = some (.int .i64 0) := HOV.out.cell 4
      have y5 : W5.cell? ⟨w.heap.size, 5, none⟩ = some (.int .i64 0) := HOV.out.cell 5
      have y6 : W5.cell? ⟨w.heap.size, 6, none⟩ = some (.int .i64 0) := HOV.out.cell 6
      have y7 : W5.cell? ⟨w.heap.size, 7, none⟩ = some (.int .i64 0) := HOV.out.cell 7
      have y8 : W5.cell? ⟨w.heap.size, 8, none⟩ = some (.int .i64 0) := HOV.out.cell 8
      refine bodyPost_ret (v := .agg #[.int .i64 0, .int .i64 0, .int .i64 0, .int .i64 0, .int .i64 0, .int .i64 0, .int .i64 0, .int .i64 0, .int .i64 0]) (by simp [results, Tryd.results29, go_sem, y0, y1, y2, y3, y4, y5, y6, y7, y8]) rfl ?_
      rw [HT2.out.1, HT2.out.2]
      exact ⟨rfl, HI6.out.r.kept HGV.out (fun e => by injection e with e; omega), grown_newS HI6.out.g HGV.out (Nat.le_refl _)⟩
    have hb3 : (ce != 0) = false := by simpa using h3
    have HQ3 := Lib.hid (HQ2.out.trans (if_pos h3))
    have HRI := Lib.hid (srright_any ⟨1, c, 0⟩ w5)
    unfold stV stCells at HRI
    subst h3
    generalize hrr : rightS ⟨1, c, 0⟩ = rr at *
    clear hrr
    cases rr with
    | false =>
      have HT2 := Lib.hid (HTQ.out _ (HQ3.out.trans (if_neg (by simp))))
      clear HQ2 HQ3
      go_upto_region 13 with (go_at_call 19; refine HRI.out.mono ?_; rintro e w7 ⟨rfl, hb7⟩; have HI7 := Lib.hid (HI5.out.below hb7); clear hb7 HRI)
      clear z0 z1 z2 z3 z4 z5 z6 z7 z8 zf x0 x1 x2 x3 x4 x5 x6 x7 x8 xf e1 ef
      have z0 : w7.cell? ⟨w.heap.size, 0, none⟩ = some (.int .i64 0) := HI7.out.z.cell 0
      have z1 : w7.cell? ⟨w.heap.size, 1, none⟩ = some (.int .i64 0) := HI7.out.z.cell 1
      have z2 : w7.cell? ⟨w.heap.size, 2, none⟩ = some (.int .i64 0) := HI7.out.z.cell 2
      have z3 : w7.cell? ⟨w.heap.size, 3, none⟩ = some (.int .i64 0) := HI7.out.z.cell 3
      have z4 : w7.cell? ⟨w.heap.size, 4, none⟩ = some (.int .i64 0) := HI7.out.z.cell 4
      have z5 : w7.cell? ⟨w.heap.size, 5, none⟩ = some (.int .i64 0) := HI7.out.z.cell 5
      have z6 : w7.cell? ⟨w.heap.size, 6, none⟩ = some (.int .i64 0) := HI7.out.z.cell 6
      have z7 : w7.cell? ⟨w.heap.size, 7, none⟩ = some (.int .i64 0) := HI7.out.z.cell 7
      have z8 : w7.cell? ⟨w.heap.size, 8, none⟩ = some (.int .i64 0) := HI7.out.z.cell 8
      have zf := HI7.out.z.fz
      have x0 : w7.cell? ⟨bb, 0, none⟩ = some (.int .i64 1) := HI7.out.x.cell 0
      have x1 : w7.cell? ⟨bb, 1, none⟩ = some (.int .i64 c.k) := HI7.out.x.cell 1
      have x2 : w7.cell? ⟨bb, 2, none⟩ = some (.int .i64 c.i) := HI7.out.x.cell 2
      have x3 : w7.cell? ⟨bb, 3, none⟩ = some (.int .i64 c.m) := HI7.out.x.cell 3
      have x4 : w7.cell? ⟨bb, 4, none⟩ = some (.int .i64 c.o) := HI7.out.x.cell 4
      have x5 : w7.cell? ⟨bb, 5, none⟩ = some (.int .i64 c.s) := HI7.out.x.cell 5
      have x6 : w7.cell? ⟨bb, 6, none⟩ = some (.int .i64 c.q) := HI7.out.x.cell 6
      have x7 : w7.cell? ⟨bb, 7, none⟩ = some (.int .i64 c.p) := HI7.out.x.cell 7
      have x8 : w7.cell? ⟨bb, 8, none⟩ = some (.int .i64 0) := HI7.out.x.cell 8
      have xf := HI7.out.x.fz
      have e1 : w7.cell? ⟨g, 1, none⟩ = some (.int .i64 0) := HI7.out.r.c1
      have ef := HI7.out.r.fz
      have HI6 := Lib.hid (HI7.out.sete 3 hgl hw1)
      go_wp2_with fail
      clear z0 z1 z2 z3 z4 z5 z6 z7 z8 zf x0 x1 x2 x3 x4 x5 x6 x7 x8 xf e1 ef
      generalize (World.setCell w7 ⟨g, 1, none⟩ (.int .i64 3)) = w6 at *
      obtain ⟨hov, hgv⟩ := HI6.out.z.over zeroS
      obtain ⟨W5, hW5⟩ : ∃ W5, W5 = (World.setCell (World.setCell (World.setCell (World.setCell (World.setCell (World.setCell (World.setCell (World.setCell (World.setCell w6 ⟨w.heap.size, 0, none⟩ (.int .i64 0)) ⟨w.heap.size, 1, none⟩ (.int .i64 0)) ⟨w.heap.size, 2, none⟩ (.int .i64 0)) ⟨w.heap.size, 3, none⟩ (.int .i64 0)) ⟨w.heap.size, 4, none⟩ (.int .i64 0)) ⟨w.heap.size, 5, none⟩ (.int .i64 0)) ⟨w.heap.size, 6, none⟩ (.int .i64 0)) ⟨w.heap.size, 7, none⟩ (.int .i64 0)) ⟨w.heap.size, 8, none⟩ (.int .i64 0)) := ⟨_, rfl⟩
      have HOV : Hid (CsAt W5 w.heap.size (stCells zeroS)) := Lib.hid (by rw [hW5]; exact hov)
      have HGV : Hid (w6.grownBy W5 (some w.heap.size)) := Lib.hid (by rw [hW5]; exact hgv)
      rw [← hW5]
      clear hov hgv hW5
      have y0 : W5.cell? ⟨w.heap.size, 0, none⟩ = some (.int .i64 0) := HOV.out.cell 0
      have y1 : W5.cell? ⟨w.heap.size, 1, none⟩ = some (.int .i64 0) := HOV.out.cell 1
      have y2 : W5.cell? ⟨w.heap.size, 2, none⟩ = some (.int .i64 0) := HOV.out.cell 2
      have y3 : W5.cell? ⟨w.heap.size, 3, none⟩ = some (.int .i64 0) := HOV.out.cell 3
      have y4 : W5.cell? ⟨w.heap.size, 4, none⟩ = some (.int .i64 0) := HOV.out.cell 4
      have y5 : W5.cell? ⟨w.heap.size, 5, none⟩ = some (.int .i64 0) := HOV.out.cell 5
      have y6 : W5.cell? ⟨w.heap.size, 6, none⟩ = some (.int .i64 0) := HOV.out.cell 6
      have y7 : W5.cell? ⟨w.heap.size, 7, none⟩ = some (.int .i64 0) := HOV.out.cell 7
      have y8 : W5.cell? ⟨w.heap.size, 8, none⟩ = some (.int .i64 0) := HOV.out.cell 8
      refine bodyPost_ret (v := .agg #[.int .i64 0, .int .i64 0, .int .i64 0, .int .i64 0, .int .i64 0, .int .i64 0, .int .i64 0, .int .i64 0, .int .i64 0]) (by simp [results, Tryd.results29, go_sem, y0, y1, y2, y3, y4, y5, y6, y7, y8]) rfl ?_
      rw [HT2.out.1, HT2.out.2]
      exact ⟨rfl, HI6.out.r.kept HGV.out (fun e => by injection e with e; omega), grown_newS HI6.out.g HGV.out (Nat.le_refl _)⟩
    | true =>
      have HT2 := Lib.hid (HTQ.out _ (HQ3.out.trans (if_pos rfl)))
      clear HQ2 HQ3
      go_upto_region 15 with (go_at_call 19; refine HRI.out.mono ?_; rintro e w7 ⟨rfl, hb7⟩; have HI7 := Lib.hid (HI5.out.below hb7); clear hb7 HRI)
      clear z0 z1 z2 z3 z4 z5 z6 z7 z8 zf x0 x1 x2 x3 x4 x5 x6 x7 x8 xf e1 ef
      have z0 : w7.cell? ⟨w.heap.size, 0, none⟩ = some (.int .i64 0) := HI7.out.z.cell 0
      have z1 : w7.cell? ⟨w.heap.size, 1, none⟩ = some (.int .i64 0) := HI7.out.z.cell 1
      have z2 : w7.cell? ⟨w.heap.size, 2, none⟩ = some (.int .i64 0) := HI7.out.z.cell 2
      have z3 : w7.cell? ⟨w.heap.size, 3, none⟩ = some (.int .i64 0) := HI7.out.z.cell 3
      have z4 : w7.cell? ⟨w.heap.size, 4, none⟩ = some (.int .i64 0) := HI7.out.z.cell 4
      have z5 : w7.cell? ⟨w.heap.size, 5, none⟩ = some (.int .i64 0) := HI7.out.z.cell 5
      have z6 : w7.cell? ⟨w.heap.size, 6, none⟩ = some (.int .i64 0) := HI7.out.z.cell 6
      have z7 : w7.cell? ⟨w.heap.size, 7, none⟩ = some (.int .i64 0) := HI7.out.z.cell 7
      have z8 : w7.cell? ⟨w.heap.size, 8, none⟩ = some (.int .i64 0) := HI7.out.z.cell 8
      have zf := HI7.out.z.fz
      have x0 : w7.cell? ⟨bb, 0, none⟩ = some (.int .i64 1) := HI7.out.x.cell 0
      have x1 : w7.cell? ⟨bb, 1, none⟩ = some (.int .i64 c.k) := HI7.out.x.cell 1
      have x2 : w7.cell? ⟨bb, 2, none⟩ = some (.int .i64 c.i) := HI7.out.x.cell 2
      have x3 : w7.cell? ⟨bb, 3, none⟩ = some (.int .i64 c.m) := HI7.out.x.cell 3
      have x4 : w7.cell? ⟨bb, 4, none⟩ = some (.int .i64 c.o) := HI7.out.x.cell 4
      have x5 : w7.cell? ⟨bb, 5, none⟩ = some (.int .i64 c.s) := HI7.out.x.cell 5
      have x6 : w7.cell? ⟨bb, 6, none⟩ = some (.int .i64 c.q) := HI7.out.x.cell 6
      have x7 : w7.cell? ⟨bb, 7, none⟩ = some (.int .i64 c.p) := HI7.out.x.cell 7
      have x8 : w7.cell? ⟨bb, 8, none⟩ = some (.int .i64 0) := HI7.out.x.cell 8
      have xf := HI7.out.x.fz
      have e1 : w7.cell? ⟨g, 1, none⟩ = some (.int .i64 0) := HI7.out.r.c1
      have ef := HI7.out.r.fz
      go_wp2_with fail
      obtain ⟨hov, hgv⟩ := HI7.out.z.over ⟨1, c, 0⟩
      obtain ⟨W5, hW5⟩ : ∃ W5, W5 = (World.setCell (World.setCell (World.setCell (World.setCell (World.setCell (World.setCell (World.setCell (World.setCell (World.setCell w7 ⟨w.heap.size, 0, none⟩ (.int .i64 1)) ⟨w.heap.size, 1, none⟩ (.int .i64 c.k)) ⟨w.heap.size, 2, none⟩ (.int .i64 c.i)) ⟨w.heap.size, 3, none⟩ (.int .i64 c.m)) ⟨w.heap.size, 4, none⟩ (.int .i64 c.o)) ⟨w.heap.size, 5, none⟩ (.int .i64 c.s)) ⟨w.heap.size, 6, none⟩ (.int .i64 c.q)) ⟨w.heap.size, 7, none⟩ (.int .i64 c.p)) ⟨w.heap.size, 8, none⟩ (.int .i64 0)) := ⟨_, rfl⟩
      have HOV : Hid (CsAt W5 w.heap.size (stCells ⟨1, c, 0⟩)) := Lib.hid (by rw [hW5]; exact hov)
      have HGV : Hid (w7.grownBy W5 (some w.heap.size)) := Lib.hid (by rw [hW5]; exact hgv)
      rw [← hW5]
      clear hov hgv hW5
      have y0 : W5.cell? ⟨w.heap.size, 0, none⟩ = some (.int .i64 1) := HOV.out.cell 0
      have y1 : W5.cell? ⟨w.heap.size, 1, none⟩ = some (.int .i64 c.k) := HOV.out.cell 1
      have y2 : W5.cell? ⟨w.heap.size, 2, none⟩ = some (.int .i64 c.i) := HOV.out.cell 2
      have y3 : W5.cell? ⟨w.heap.size, 3, none⟩ = some (.int .i64 c.m) := HOV.out.cell 3
      have y4 : W5.cell? ⟨w.heap.size, 4, none⟩ = some (.int .i64 c.o) := HOV.out.cell 4
      have y5 : W5.cell? ⟨w.heap.size, 5, none⟩ = some (.int .i64 c.s) := HOV.out.cell 5
      have y6 : W5.cell? ⟨w.heap.size, 6, none⟩ = some (.int .i64 c.q) := HOV.out.cell 6
      have y7 : W5.cell? ⟨w.heap.size, 7, none⟩ = some (.int .i64 c.p) := HOV.out.cell 7
      have y8 : W5.cell? ⟨w.heap.size, 8, none⟩ = some (.int .i64 0) := HOV.out.cell 8
      refine bodyPost_ret (v := .agg #[.int .i64 1, .int .i64 c.k, .int .i64 c.i, .int .i64 c.m, .int .i64 c.o, .int .i64 c.s, .int .i64 c.q, .int .i64 c.p, .int .i64 0]) (by simp [results, Tryd.results29, go_sem, y0, y1, y2, y3, y4, y5, y6, y7, y8]) rfl ?_
      rw [HT2.out.1, HT2.out.2]
      exact ⟨rfl, HI7.out.r.kept HGV.out (fun e => by injection e with e; omega), grown_newS HI7.out.g HGV.out (Nat.le_refl _)⟩
  · have HQ1 := Lib.hid (HQN.out t h1 rfl ht)
    clear HQA HQT HQN HUO
    have hk1 : ((1 + t) == 1) = false := by simp; omega
    have hkw : IntKind.i64.wrap (1 + t) = 1 + t := by rw [IntKind.wrap_i64]; omega
    have HI2 : Hid (R33 w g w1.heap.size r1 ⟨(1 + t), zeroC, 0⟩ (w1.alloc (.cells #[.int .i64 ((1 + t)), .int .i64 0, .int .i64 0, .int .i64 0, .int .i64 0, .int .i64 0, .int .i64 0, .int .i64 0, .int .i64 0] TSt))) := Lib.hid (by
      have hB : Below w1.heap.size w1 (w1.alloc (.cells #[.int .i64 ((1 + t)), .int .i64 0, .int .i64 0, .int .i64 0, .int .i64 0, .int .i64 0, .int .i64 0, .int .i64 0, .int .i64 0] TSt)) := (Below.refl _ _).alloc (Nat.le_refl _) _
      exact ⟨HR1.out.below hB, HZ1.out.below hw1 hB, CsAt.made _ _ _, by simp; omega, by simp, grown_belowS HG1.out hB⟩)
    clear HR1 HG1 HZ1
    go_upto_region 2 with fail
    generalize (w1.alloc (.cells #[.int .i64 ((1 + t)), .int .i64 0, .int .i64 0, .int .i64 0, .int .i64 0, .int .i64 0, .int .i64 0, .int .i64 0, .int .i64 0] TSt)) = w2 at *
    generalize w1.heap.size = bb at *
    have z0 : w2.cell? ⟨w.heap.size, 0, none⟩ = some (.int .i64 0) := HI2.out.z.cell 0
    have z1 : w2.cell? ⟨w.heap.size, 1, none⟩ = some (.int .i64 0) := HI2.out.z.cell 1
    have z2 : w2.cell? ⟨w.heap.size, 2, none⟩ = some (.int .i64 0) := HI2.out.z.cell 2
    have z3 : w2.cell? ⟨w.heap.size, 3, none⟩ = some (.int .i64 0) := HI2.out.z.cell 3
    have z4 : w2.cell? ⟨w.heap.size, 4, none⟩ = some (.int .i64 0) := HI2.out.z.cell 4
    have z5 : w2.cell? ⟨w.heap.size, 5, none⟩ = some (.int .i64 0) := HI2.out.z.cell 5
    have z6 : w2.cell? ⟨w.heap.size, 6, none⟩ = some (.int .i64 0) := HI2.out.z.cell 6
    have z7 : w2.cell? ⟨w.heap.size, 7, none⟩ = some (.int .i64 0) := HI2.out.z.cell 7
    have z8 : w2.cell? ⟨w.heap.size, 8, none⟩ = some (.int .i64 0) := HI2.out.z.cell 8
    have zf := HI2.out.z.fz
    have x0 : w2.cell? ⟨bb, 0, none⟩ = some (.int .i64 (1 + t)) := HI2.out.x.cell 0
    have x1 : w2.cell? ⟨bb, 1, none⟩ = some (.int .i64 0) := HI2.out.x.cell 1
    have x2 : w2.cell? ⟨bb, 2, none⟩ = some (.int .i64 0) := HI2.out.x.cell 2
    have x3 : w2.cell? ⟨bb, 3, none⟩ = some (.int .i64 0) := HI2.out.x.cell 3
    have x4 : w2.cell? ⟨bb, 4, none⟩ = some (.int .i64 0) := HI2.out.x.cell 4
    have x5 : w2.cell? ⟨bb, 5, none⟩ = some (.int .i64 0) := HI2.out.x.cell 5
    have x6 : w2.cell? ⟨bb, 6, none⟩ = some (.int .i64 0) := HI2.out.x.cell 6
    have x7 : w2.cell? ⟨bb, 7, none⟩ = some (.int .i64 0) := HI2.out.x.cell 7
    have x8 : w2.cell? ⟨bb, 8, none⟩ = some (.int .i64 0) := HI2.out.x.cell 8
    have xf := HI2.out.x.fz
    have e1 : w2.cell? ⟨g, 1, none⟩ = some (.int .i64 r1.e) := HI2.out.r.c1
    have ef := HI2.out.r.fz
    clear hkw
    have HNM := Lib.hid (rnum_any g r1 w2 HI2.out.r)
    generalize rNum r1 = X at *
    obtain ⟨n, r2⟩ := X
    simp only at HQ1 HNM
    go_wp2_with fail
    refine HNM.out.mono ?_
    rintro e w3 ⟨rfl, hr3, hg3⟩
    have HI3 := Lib.hid (HI2.out.read hg3 hr3 hgl hw1)
    clear hr3 hg3 HNM HI2
    clear z0 z1 z2 z3 z4 z5 z6 z7 z8 zf x0 x1 x2 x3 x4 x5 x6 x7 x8 xf e1 ef
    have z0 : w3.cell? ⟨w.heap.size, 0, none⟩ = some (.int .i64 0) := HI3.out.z.cell 0
    have z1 : w3.cell? ⟨w.heap.size, 1, none⟩ = some (.int .i64 0) := HI3.out.z.cell 1
    have z2 : w3.cell? ⟨w.heap.size, 2, none⟩ = some (.int .i64 0) := HI3.out.z.cell 2
    have z3 : w3.cell? ⟨w.heap.size, 3, none⟩ = some (.int .i64 0) := HI3.out.z.cell 3
    have z4 : w3.cell? ⟨w.heap.size, 4, none⟩ = some (.int .i64 0) := HI3.out.z.cell 4
    have z5 : w3.cell? ⟨w.heap.size, 5, none⟩ = some (.int .i64 0) := HI3.out.z.cell 5
    have z6 : w3.cell? ⟨w.heap.size, 6, none⟩ = some (.int .i64 0) := HI3.out.z.cell 6
    have z7 : w3.cell? ⟨w.heap.size, 7, none⟩ = some (.int .i64 0) := HI3.out.z.cell 7
    have z8 : w3.cell? ⟨w.heap.size, 8, none⟩ = some (.int .i64 0) := HI3.out.z.cell 8
    have zf := HI3.out.z.fz
    have x0 : w3.cell? ⟨bb, 0, none⟩ = some (.int .i64 (1 + t)) := HI3.out.x.cell 0
    have x1 : w3.cell? ⟨bb, 1, none⟩ = some (.int .i64 0) := HI3.out.x.cell 1
    have x2 : w3.cell? ⟨bb, 2, none⟩ = some (.int .i64 0) := HI3.out.x.cell 2
    have x3 : w3.cell? ⟨bb, 3, none⟩ = some (.int .i64 0) := HI3.out.x.cell 3
    have x4 : w3.cell? ⟨bb, 4, none⟩ = some (.int .i64 0) := HI3.out.x.cell 4
    have x5 : w3.cell? ⟨bb, 5, none⟩ = some (.int .i64 0) := HI3.out.x.cell 5
    have x6 : w3.cell? ⟨bb, 6, none⟩ = some (.int .i64 0) := HI3.out.x.cell 6
    have x7 : w3.cell? ⟨bb, 7, none⟩ = some (.int .i64 0) := HI3.out.x.cell 7
    have x8 : w3.cell? ⟨bb, 8, none⟩ = some (.int .i64 0) := HI3.out.x.cell 8
    have xf := HI3.out.x.fz
    have e1 : w3.cell? ⟨g, 1, none⟩ = some (.int .i64 r2.e) := HI3.out.r.c1
    have ef := HI3.out.r.fz
    have HI5 := Lib.hid (HI3.out.setn n hgl hw1)
    go_upto_region 10 with fail
    clear z0 z1 z2 z3 z4 z5 z6 z7 z8 zf x0 x1 x2 x3 x4 x5 x6 x7 x8 xf e1 ef
    generalize (World.setCell w3 ⟨bb, 8, none⟩ (.int .i64 n)) = w5 at *
    have z0 : w5.cell? ⟨w.heap.size, 0, none⟩ = some (.int .i64 0) := HI5.out.z.cell 0
    have z1 : w5.cell? ⟨w.heap.size, 1, none⟩ = some (.int .i64 0) := HI5.out.z.cell 1
    have z2 : w5.cell? ⟨w.heap.size, 2, none⟩ = some (.int .i64 0) := HI5.out.z.cell 2
    have z3 : w5.cell? ⟨w.heap.size, 3, none⟩ = some (.int .i64 0) := HI5.out.z.cell 3
    have z4 : w5.cell? ⟨w.heap.size, 4, none⟩ = some (.int .i64 0) := HI5.out.z.cell 4
    have z5 : w5.cell? ⟨w.heap.size, 5, none⟩ = some (.int .i64 0) := HI5.out.z.cell 5
    have z6 : w5.cell? ⟨w.heap.size, 6, none⟩ = some (.int .i64 0) := HI5.out.z.cell 6
    have z7 : w5.cell? ⟨w.heap.size, 7, none⟩ = some (.int .i64 0) := HI5.out.z.cell 7
    have z8 : w5.cell? ⟨w.heap.size, 8, none⟩ = some (.int .i64 0) := HI5.out.z.cell 8
    have zf := HI5.out.z.fz
    have x0 : w5.cell? ⟨bb, 0, none⟩ = some (.int .i64 (1 + t)) := HI5.out.x.cell 0
    have x1 : w5.cell? ⟨bb, 1, none⟩ = some (.int .i64 0) := HI5.out.x.cell 1
    have x2 : w5.cell? ⟨bb, 2, none⟩ = some (.int .i64 0) := HI5.out.x.cell 2
    have x3 : w5.cell? ⟨bb, 3, none⟩ = some (.int .i64 0) := HI5.out.x.cell 3
    have x4 : w5.cell? ⟨bb, 4, none⟩ = some (.int .i64 0) := HI5.out.x.cell 4
    have x5 : w5.cell? ⟨bb, 5, none⟩ = some (.int .i64 0) := HI5.out.x.cell 5
    have x6 : w5.cell? ⟨bb, 6, none⟩ = some (.int .i64 0) := HI5.out.x.cell 6
    have x7 : w5.cell? ⟨bb, 7, none⟩ = some (.int .i64 0) := HI5.out.x.cell 7
    have x8 : w5.cell? ⟨bb, 8, none⟩ = some (.int .i64 n) := HI5.out.x.cell 8
    have xf := HI5.out.x.fz
    have e1 : w5.cell? ⟨g, 1, none⟩ = some (.int .i64 r2.e) := HI5.out.r.c1
    have ef := HI5.out.r.fz
    by_cases h2 : r2.e = 0
    case neg =>
      have hb2 : (r2.e != 0) = true := by simpa using h2
      have HT2 := Lib.hid (HTQ.out _ (HQ1.out.trans (if_neg h2)))
      clear HQ1
      go_wp2_with fail
      obtain ⟨hov, hgv⟩ := HI5.out.z.over zeroS
      obtain ⟨W5, hW5⟩ : ∃ W5, W5 = (World.setCell (World.setCell (World.setCell (World.setCell (World.setCell (World.setCell (World.setCell (World.setCell (World.setCell w5 ⟨w.heap.size, 0, none⟩ (.int .i64 0)) ⟨w.heap.size, 1, none⟩ (.int .i64 0)) ⟨w.heap.size, 2, none⟩ (.int .i64 0)) ⟨w.heap.size, 3, none⟩ (.int .i64 0)) ⟨w.heap.size, 4, none⟩ (.int .i64 0)) ⟨w.heap.size, 5, none⟩ (.int .i64 0)) ⟨w.heap.size, 6, none⟩ (.int .i64 0)) ⟨w.heap.size, 7, none⟩ (.int .i64 0)) ⟨w.heap.size, 8, none⟩ (.int .i64 0)) := ⟨_, rfl⟩
      have HOV : Hid (CsAt W5 w.heap.size (stCells zeroS)) := Lib.hid (by rw [hW5]; exact hov)
      have HGV : Hid (w5.grownBy W5 (some w.heap.size)) := Lib.hid (by rw [hW5]; exact hgv)
      rw [← hW5]
      clear hov hgv hW5
      have y0 : W5.cell? ⟨w.heap.size, 0, none⟩ = some (.int .i64 0) := HOV.out.cell 0
      have y1 : W5.cell? ⟨w.heap.size, 1, none⟩ = some (.int .i64 0) := HOV.out.cell 1
      have y2 : W5.cell? ⟨w.heap.size, 2, none⟩ = some (.int .i64 0) := HOV.out.cell 2
      have y3 : W5.cell? ⟨w.heap.size, 3, none⟩ = some (.int .i64 0) := HOV.out.cell 3
      have y4 : W5.cell? ⟨w.heap.size, 4, none⟩ = some (.int .i64 0) := HOV.out.cell 4
      have y5 : W5.cell? ⟨w.heap.size, 5, none⟩ = some (.int .i64 0) := HOV.out.cell 5
      have y6 : W5.cell? ⟨w.heap.size, 6, none⟩ = some (.int .i64 0) := HOV.out.cell 6
      have y7 : W5.cell? ⟨w.heap.size, 7, none⟩ = some (.int .i64 0) := HOV.out.cell 7
      have y8 : W5.cell? ⟨w.heap.size, 8, none⟩ = some (.int .i64 0) := HOV.out.cell 8
      refine bodyPost_ret (v := .agg #[.int .i64 0, .int .i64 0, .int .i64 0, .int .i64 0, .int .i64 0, .int .i64 0, .int .i64 0, .int .i64 0, .int .i64 0]) (by simp [results, Tryd.results29, go_sem, y0, y1, y2, y3, y4, y5, y6, y7, y8]) rfl ?_
      rw [HT2.out.1, HT2.out.2]
      exact ⟨rfl, HI5.out.r.kept HGV.out (fun e => by injection e with e; omega), grown_newS HI5.out.g HGV.out (Nat.le_refl _)⟩
    have hb2 : (r2.e != 0) = false := by simpa using h2
    have HQ2 := Lib.hid (HQ1.out.trans (if_pos h2))
    obtain ⟨s2, e2⟩ := r2
    simp only at h2 hb2 e1
    subst h2
    have HQ3 := HQ2
    have HRI := Lib.hid (srright_any ⟨1 + t, zeroC, n⟩ w5)
    generalize hrr : rightS ⟨1 + t, zeroC, n⟩ = rr at *
    unfold stV stCells zeroC at HRI
    clear hrr HQ1
    cases rr with
    | false =>
      have HT2 := Lib.hid (HTQ.out _ (HQ3.out.trans (if_neg (by simp))))
      clear HQ2 HQ3
      go_upto_region 13 with (go_at_call 19; refine HRI.out.mono ?_; rintro e w7 ⟨rfl, hb7⟩; have HI7 := Lib.hid (HI5.out.below hb7); clear hb7 HRI)
      clear z0 z1 z2 z3 z4 z5 z6 z7 z8 zf x0 x1 x2 x3 x4 x5 x6 x7 x8 xf e1 ef
      have z0 : w7.cell? ⟨w.heap.size, 0, none⟩ = some (.int .i64 0) := HI7.out.z.cell 0
      have z1 : w7.cell? ⟨w.heap.size, 1, none⟩ = some (.int .i64 0) := HI7.out.z.cell 1
      have z2 : w7.cell? ⟨w.heap.size, 2, none⟩ = some (.int .i64 0) := HI7.out.z.cell 2
      have z3 : w7.cell? ⟨w.heap.size, 3, none⟩ = some (.int .i64 0) := HI7.out.z.cell 3
      have z4 : w7.cell? ⟨w.heap.size, 4, none⟩ = some (.int .i64 0) := HI7.out.z.cell 4
      have z5 : w7.cell? ⟨w.heap.size, 5, none⟩ = some (.int .i64 0) := HI7.out.z.cell 5
      have z6 : w7.cell? ⟨w.heap.size, 6, none⟩ = some (.int .i64 0) := HI7.out.z.cell 6
      have z7 : w7.cell? ⟨w.heap.size, 7, none⟩ = some (.int .i64 0) := HI7.out.z.cell 7
      have z8 : w7.cell? ⟨w.heap.size, 8, none⟩ = some (.int .i64 0) := HI7.out.z.cell 8
      have zf := HI7.out.z.fz
      have x0 : w7.cell? ⟨bb, 0, none⟩ = some (.int .i64 (1 + t)) := HI7.out.x.cell 0
      have x1 : w7.cell? ⟨bb, 1, none⟩ = some (.int .i64 0) := HI7.out.x.cell 1
      have x2 : w7.cell? ⟨bb, 2, none⟩ = some (.int .i64 0) := HI7.out.x.cell 2
      have x3 : w7.cell? ⟨bb, 3, none⟩ = some (.int .i64 0) := HI7.out.x.cell 3
      have x4 : w7.cell? ⟨bb, 4, none⟩ = some (.int .i64 0) := HI7.out.x.cell 4
      have x5 : w7.cell? ⟨bb, 5, none⟩ = some (.int .i64 0) := HI7.out.x.cell 5
      have x6 : w7.cell? ⟨bb, 6, none⟩ = some (.int .i64 0) := HI7.out.x.cell 6
      have x7 : w7.cell? ⟨bb, 7, none⟩ = some (.int .i64 0) := HI7.out.x.cell 7
      have x8 : w7.cell? ⟨bb, 8, none⟩ = some (.int .i64 n) := HI7.out.x.cell 8
      have xf := HI7.out.x.fz
      have e1 : w7.cell? ⟨g, 1, none⟩ = some (.int .i64 0) := HI7.out.r.c1
      have ef := HI7.out.r.fz
      have HI6 := Lib.hid (HI7.out.sete 3 hgl hw1)
      go_wp2_with fail
      clear z0 z1 z2 z3 z4 z5 z6 z7 z8 zf x0 x1 x2 x3 x4 x5 x6 x7 x8 xf e1 ef
      generalize (World.setCell w7 ⟨g, 1, none⟩ (.int .i64 3)) = w6 at *
      obtain ⟨hov, hgv⟩ := HI6.out.z.over zeroS
      obtain ⟨W5, hW5⟩ : ∃ W5, W5 = (World.setCell (World.setCell (World.setCell (World.setCell (World.setCell (World.setCell (World.setCell (World.setCell (World.setCell w6 ⟨w.heap.size, 0, none⟩ (.int .i64 0)) ⟨w.heap.size, 1, none⟩ (.int .i64 0)) ⟨w.heap.size, 2, none⟩ (.int .i64 0)) ⟨w.heap.size, 3, none⟩ (.int .i64 0)) ⟨w.heap.size, 4, none⟩ (.int .i64 0)) ⟨w.heap.size, 5, none⟩ (.int .i64 0)) ⟨w.heap.size, 6, none⟩ (.int .i64 0)) ⟨w.heap.size, 7, none⟩ (.int .i64 0)) ⟨w.heap.size, 8, none⟩ (.int .i64 0)) := ⟨_, rfl⟩
      have HOV : Hid (CsAt W5 w.heap.size (stCells zeroS)) := Lib.hid (by rw [hW5]; exact hov)
      have HGV : Hid (w6.grownBy W5 (some w.heap.size)) := Lib.hid (by rw [hW5]; exact hgv)
      rw [← hW5]
      clear hov hgv hW5
      have y0 : W5.cell? ⟨w.heap.size, 0, none⟩ = some (.int .i64 0) := HOV.out.cell 0
      have y1 : W5.cell? ⟨w.heap.size, 1, none⟩ = some (.int .i64 0) := HOV.out.cell 1
      have y2 : W5.cell? ⟨w.heap.size, 2, none⟩ = some (.int .i64 0) := HOV.out.cell 2
      have y3 : W5.cell? ⟨w.heap.size, 3, none⟩ = some (.int .i64 0) := HOV.out.cell 3
      have y4 : W5.cell? ⟨w.heap.size, 4, none⟩ = some (.int .i64 0) := HOV.out.cell 4
      have y5 : W5.cell? ⟨w.heap.size, 5, none⟩ = some (.int .i64 0) := HOV.out.cell 5
      have y6 : W5.cell? ⟨w.heap.size, 6, none⟩ = some (.int .i64 0) := HOV.out.cell 6
      have y7 : W5.cell? ⟨w.heap.size, 7, none⟩ = some (.int .i64 0) := HOV.out.cell 7
      have y8 : W5.cell? ⟨w.heap.size, 8, none⟩ = some (.int .i64 0) := HOV.out.cell 8
      refine bodyPost_ret (v := .agg #[.int .i64 0, .int .i64 0, .int .i64 0, .int .i64 0, .int .i64 0, .int .i64 0, .int .i64 0, .int .i64 0, .int .i64 0]) (by simp [results, Tryd.results29, go_sem, y0, y1, y2, y3, y4, y5, y6, y7, y8]) rfl ?_
      rw [HT2.out.1, HT2.out.2]
      exact ⟨rfl, HI6.out.r.kept HGV.out (fun e => by injection e with e; omega), grown_newS HI6.out.g HGV.out (Nat.le_refl _)⟩
    | true =>
      have HT2 := Lib.hid (HTQ.out _ (HQ3.out.trans (if_pos rfl)))
      clear HQ2 HQ3
      go_upto_region 15 with (go_at_call 19; refine HRI.out.mono ?_; rintro e w7 ⟨rfl, hb7⟩; have HI7 := Lib.hid (HI5.out.below hb7); clear hb7 HRI)
      clear z0 z1 z2 z3 z4 z5 z6 z7 z8 zf x0 x1 x2 x3 x4 x5 x6 x7 x8 xf e1 ef
      have z0 : w7.cell? ⟨w.heap.size, 0, none⟩ = some (.int .i64 0) := HI7.out.z.cell 0
      have z1 : w7.cell? ⟨w.heap.size, 1, none⟩ = some (.int .i64 0) := HI7.out.z.cell 1
      have z2 : w7.cell? ⟨w.heap.size, 2, none⟩ = some (.int .i64 0) := HI7.out.z.cell 2
      have z3 : w7.cell? ⟨w.heap.size, 3, none⟩ = some (.int .i64 0) := HI7.out.z.cell 3
      have z4 : w7.cell? ⟨w.heap.size, 4, none⟩ = some (.int .i64 0) := HI7.out.z.cell 4
      have z5 : w7.cell? ⟨w.heap.size, 5, none⟩ = some (.int .i64 0) := HI7.out.z.cell 5
      have z6 : w7.cell? ⟨w.heap.size, 6, none⟩ = some (.int .i64 0) := HI7.out.z.cell 6
      have z7 : w7.cell? ⟨w.heap.size, 7, none⟩ = some (.int .i64 0) := HI7.out.z.cell 7
      have z8 : w7.cell? ⟨w.heap.size, 8, none⟩ = some (.int .i64 0) := HI7.out.z.cell 8
      have zf := HI7.out.z.fz
      have x0 : w7.cell? ⟨bb, 0, none⟩ = some (.int .i64 (1 + t)) := HI7.out.x.cell 0
      have x1 : w7.cell? ⟨bb, 1, none⟩ = some (.int .i64 0) := HI7.out.x.cell 1
      have x2 : w7.cell? ⟨bb, 2, none⟩ = some (.int .i64 0) := HI7.out.x.cell 2
      have x3 : w7.cell? ⟨bb, 3, none⟩ = some (.int .i64 0) := HI7.out.x.cell 3
      have x4 : w7.cell? ⟨bb, 4, none⟩ = some (.int .i64 0) := HI7.out.x.cell 4
      have x5 : w7.cell? ⟨bb, 5, none⟩ = some (.int .i64 0) := HI7.out.x.cell 5
      have x6 : w7.cell? ⟨bb, 6, none⟩ = some (.int .i64 0) := HI7.out.x.cell 6
      have x7 : w7.cell? ⟨bb, 7, none⟩ = some (.int .i64 0) := HI7.out.x.cell 7
      have x8 : w7.cell? ⟨bb, 8, none⟩ = some (.int .i64 n) := HI7.out.x.cell 8
      have xf := HI7.out.x.fz
      have e1 : w7.cell? ⟨g, 1, none⟩ = some (.int .i64 0) := HI7.out.r.c1
      have ef := HI7.out.r.fz
      go_wp2_with fail
      obtain ⟨hov, hgv⟩ := HI7.out.z.over ⟨1 + t, zeroC, n⟩
      obtain ⟨W5, hW5⟩ : ∃ W5, W5 = (World.setCell (World.setCell (World.setCell (World.setCell (World.setCell (World.setCell (World.setCell (World.setCell (World.setCell w7 ⟨w.heap.size, 0, none⟩ (.int .i64 (1 + t))) ⟨w.heap.size, 1, none⟩ (.int .i64 0)) ⟨w.heap.size, 2, none⟩ (.int .i64 0)) ⟨w.heap.size, 3, none⟩ (.int .i64 0)) ⟨w.heap.size, 4, none⟩ (.int .i64 0)) ⟨w.heap.size, 5, none⟩ (.int .i64 0)) ⟨w.heap.size, 6, none⟩ (.int .i64 0)) ⟨w.heap.size, 7, none⟩ (.int .i64 0)) ⟨w.heap.size, 8, none⟩ (.int .i64 n)) := ⟨_, rfl⟩
      have HOV : Hid (CsAt W5 w.heap.size (stCells ⟨1 + t, zeroC, n⟩)) := Lib.hid (by rw [hW5]; exact hov)
      have HGV : Hid (w7.grownBy W5 (some w.heap.size)) := Lib.hid (by rw [hW5]; exact hgv)
      rw [← hW5]
      clear hov hgv hW5
      have y0 : W5.cell? ⟨w.heap.size, 0, none⟩ = some (.int .i64 (1 + t)) := HOV.out.cell 0
      have y1 : W5.cell? ⟨w.heap.size, 1, none⟩ = some (.int .i64 0) := HOV.out.cell 1
      have y2 : W5.cell? ⟨w.heap.size, 2, none⟩ = some (.int .i64 0) := HOV.out.cell 2
      have y3 : W5.cell? ⟨w.heap.size, 3, none⟩ = some (.int .i64 0) := HOV.out.cell 3
      have y4 : W5.cell? ⟨w.heap.size, 4, none⟩ = some (.int .i64 0) := HOV.out.cell 4
      have y5 : W5.cell? ⟨w.heap.size, 5, none⟩ = some (.int .i64 0) := HOV.out.cell 5
      have y6 : W5.cell? ⟨w.heap.size, 6, none⟩ = some (.int .i64 0) := HOV.out.cell 6
      have y7 : W5.cell? ⟨w.heap.size, 7, none⟩ = some (.int .i64 0) := HOV.out.cell 7
      have y8 : W5.cell? ⟨w.heap.size, 8, none⟩ = some (.int .i64 n) := HOV.out.cell 8
      refine bodyPost_ret (v := .agg #[.int .i64 (1 + t), .int .i64 0, .int .i64 0, .int .i64 0, .int .i64 0, .int .i64 0, .int .i64 0, .int .i64 0, .int .i64 n]) (by simp [results, Tryd.results29, go_sem, y0, y1, y2, y3, y4, y5, y6, y7, y8]) rfl ?_
      rw [HT2.out.1, HT2.out.2]
      exact ⟨rfl, HI7.out.r.kept HGV.out (fun e => by injection e with e; omega), grown_newS HI7.out.g HGV.out (Nat.le_refl _)⟩
end Go.Proofs.YtmplokdbbhlomaaDoor
