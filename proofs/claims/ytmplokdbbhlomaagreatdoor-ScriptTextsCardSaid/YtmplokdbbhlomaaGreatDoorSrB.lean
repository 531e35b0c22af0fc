/-
  Several texts in one: Sr6, Sr7, Sr8, Sr9, Sr10, Sr11.
-/
import Derived.Test.YtmplokdbbhlomaaGreatDoorSr5
import Derived.Test.YtmplokdbbhlomaaGreatDoorRegLast
import Derived.Deep.Cut
/-
  What complineref11.Read and Get come to, over this seat's translation: contracts for callers. (Printed by gen_sr6.py.)
-/
namespace Go.Proofs.YtmplokdbbhlomaaGreatDoor
open Go.RowKit

/-- What the document's Read leaves of the reader. -/
def rdOut (r : Rd) : Rd := ⟨(readC r).2.2.s, (readC r).2.1⟩
theorem jsOf_rd (n : Int) (r : Rd) : rdJ (jsOf n) ⟨n, 0, 0, 0, 0, 0, 0⟩ r = rdF six ⟨n, 0, 0, 0, 0, 0, 0⟩ r := rdJ_all n six _ r rfl
/-- Where the loop of Read is. -/
structure R11 (w : World) (g b : Nat) (c : Cm) (r : Rd) (W : World) : Prop where
  z : CmAt W w.heap.size zeroC
  c : CmAt W b c
  r : RdAt W g r
  g : w.grownBy W (some g)
theorem R11.num {w W W' : World} {g b : Nat} {c : Cm} {r r' : Rd} (h : R11 w g b c r W) (hg : W.grownBy W' (some g)) (hr : RdAt W' g r') (h1 : g ≠ b) (h2 : g ≠ w.heap.size) : R11 w g b c r' W' :=
  ⟨h.z.kept hg (fun e => by injection e with e; omega), h.c.kept hg (fun e => by injection e with e; omega), hr, grown_twoS h.g hg⟩
theorem R11.below {w W W' : World} {g b : Nat} {c : Cm} {r : Rd} (h : R11 w g b c r W) (hb : Below W.heap.size W W') : R11 w g b c r W' :=
  ⟨h.z.below hb, h.c.below hb, h.r.below hb, grown_belowS h.g hb⟩
theorem R11.setc {w W W' : World} {g b : Nat} {c c' : Cm} {r : Rd} (h : R11 w g b c r W) (hg : W.grownBy W' (some b)) (hc : CmAt W' b c') (h1 : g ≠ b) (h3 : w.heap.size < b) : R11 w g b c' r W' :=
  ⟨h.z.kept hg (fun e => by injection e with e; omega), hc, h.r.kept hg (fun e => by injection e with e; omega), grown_newS h.g hg (by omega)⟩
set_option maxRecDepth 100000 in
set_option maxHeartbeats 12800000 in
theorem rread_any (g : Nat) (r : Rd) (w : World) (h : RdAt w g r) : Calls Tryz.prog 60 #[.pointer (some ⟨g, 0, none⟩)] w fun e w' => e = .returned (cmV (readC r).1) ∧ RdAt w' g (rdOut r) ∧ w.grownBy w' (some g) := by
  have hgl := h.lt
  have HB0 : Hid (Below w.heap.size w (w.alloc (.cells (cmCells zeroC) TC))) := Lib.hid ((Below.refl _ _).alloc (Nat.le_refl _) _)
  have HZ := Lib.hid (CmAt.made w zeroC)
  have HR0 := Lib.hid (h.below HB0.out)
  have hz0 : (w.alloc (.cells (cmCells zeroC) TC)).heap.size = w.heap.size + 1 := by simp
  obtain ⟨T, HT⟩ : ∃ T, Hid (T = (readC r).1) := ⟨_, Lib.hid rfl⟩
  obtain ⟨Q, HQ⟩ : ∃ Q, Hid (Q = rdOut r) := ⟨_, Lib.hid rfl⟩
  rw [← HT.out, ← HQ.out]
  clear h
  rw [zero_cells] at HB0 HZ HR0 hz0
  unfold cmV
  go_enter Tryz.func60, Tryz.ntmps60
  go_wp2_with fail
  have HZL := Lib.hid hz0
  clear hz0
  generalize w.alloc (.cells #[.int .i64 0, .int .i64 0, .int .i64 0, .int .i64 0, .int .i64 0, .int .i64 0, .int .i64 0] TC) = w0 at *
  refine (rnum_any g r w0 HR0.out).mono ?_
  rintro e w1 ⟨rfl, hr1, hg1⟩
  have HR1 := Lib.hid hr1
  have HG1 : Hid (w.grownBy w1 (some g)) := Lib.hid (grown_twoS (grown_toS HB0.out g) hg1)
  have HZ1 := Lib.hid (HZ.out.kept hg1 (fun e => by injection e with e; omega))
  have hw1 : w.heap.size < w1.heap.size := HZ1.out.lt
  clear hr1 hg1
  have HTC : Hid (readC r = if (rNum r).2.e = 0 then (if isK (rNum r).1 then (if (rdJ (jsOf (rNum r).1) ⟨(rNum r).1, 0, 0, 0, 0, 0, 0⟩ (rNum r).2).2.e = 0 then ((rdJ (jsOf (rNum r).1) ⟨(rNum r).1, 0, 0, 0, 0, 0, 0⟩ (rNum r).2).1, 0, (rdJ (jsOf (rNum r).1) ⟨(rNum r).1, 0, 0, 0, 0, 0, 0⟩ (rNum r).2).2) else (zeroC, (rdJ (jsOf (rNum r).1) ⟨(rNum r).1, 0, 0, 0, 0, 0, 0⟩ (rNum r).2).2.e, (rdJ (jsOf (rNum r).1) ⟨(rNum r).1, 0, 0, 0, 0, 0, 0⟩ (rNum r).2).2)) else (zeroC, 3, (rNum r).2)) else (zeroC, (rNum r).2.e, (rNum r).2)) := Lib.hid (by rw [jsOf_rd]; rfl)
  generalize rNum r = U at *
  obtain ⟨n, r1⟩ := U
  simp only at HTC HR1 ⊢
  have HC2 := Lib.hid (CmAt.made w1 ⟨n, 0, 0, 0, 0, 0, 0⟩)
  have HB2 : Hid (Below w1.heap.size w1 (w1.alloc (.cells (cmCells ⟨n, 0, 0, 0, 0, 0, 0⟩) TC))) := Lib.hid ((Below.refl _ _).alloc (Nat.le_refl _) _)
  have HI2 : Hid (R11 w g w1.heap.size ⟨n, 0, 0, 0, 0, 0, 0⟩ r1 (w1.alloc (.cells (cmCells ⟨n, 0, 0, 0, 0, 0, 0⟩) TC))) := Lib.hid ⟨HZ1.out.below HB2.out, HC2.out, HR1.out.below HB2.out, grown_belowS HG1.out HB2.out⟩
  have hcn : cmCells ⟨n, 0, 0, 0, 0, 0, 0⟩ = #[.int .i64 n, .int .i64 0, .int .i64 0, .int .i64 0, .int .i64 0, .int .i64 0, .int .i64 0] := rfl
  rw [hcn] at HI2
  clear hcn HC2 HB2 HB0 HZ HR0 HZ1 HG1 HZL
  have hne : g ≠ w1.heap.size := by have := HR1.out.lt; omega
  have e1 := HI2.out.r.c1
  have ef := HI2.out.r.fz
  have zf := HI2.out.z.fz
  have c0 : (w1.alloc (.cells #[.int .i64 n, .int .i64 0, .int .i64 0, .int .i64 0, .int .i64 0, .int .i64 0, .int .i64 0] TC)).cell? ⟨w1.heap.size, 0, none⟩ = some (.int .i64 n) := HI2.out.c.cell 0
  have z0 : (w1.alloc (.cells #[.int .i64 n, .int .i64 0, .int .i64 0, .int .i64 0, .int .i64 0, .int .i64 0, .int .i64 0] TC)).cell? ⟨w.heap.size, 0, none⟩ = some (.int .i64 0) := HI2.out.z.cell 0
  have z1 : (w1.alloc (.cells #[.int .i64 n, .int .i64 0, .int .i64 0, .int .i64 0, .int .i64 0, .int .i64 0, .int .i64 0] TC)).cell? ⟨w.heap.size, 1, none⟩ = some (.int .i64 0) := HI2.out.z.cell 1
  have z2 : (w1.alloc (.cells #[.int .i64 n, .int .i64 0, .int .i64 0, .int .i64 0, .int .i64 0, .int .i64 0, .int .i64 0] TC)).cell? ⟨w.heap.size, 2, none⟩ = some (.int .i64 0) := HI2.out.z.cell 2
  have z3 : (w1.alloc (.cells #[.int .i64 n, .int .i64 0, .int .i64 0, .int .i64 0, .int .i64 0, .int .i64 0, .int .i64 0] TC)).cell? ⟨w.heap.size, 3, none⟩ = some (.int .i64 0) := HI2.out.z.cell 3
  have z4 : (w1.alloc (.cells #[.int .i64 n, .int .i64 0, .int .i64 0, .int .i64 0, .int .i64 0, .int .i64 0, .int .i64 0] TC)).cell? ⟨w.heap.size, 4, none⟩ = some (.int .i64 0) := HI2.out.z.cell 4
  have z5 : (w1.alloc (.cells #[.int .i64 n, .int .i64 0, .int .i64 0, .int .i64 0, .int .i64 0, .int .i64 0, .int .i64 0] TC)).cell? ⟨w.heap.size, 5, none⟩ = some (.int .i64 0) := HI2.out.z.cell 5
  have z6 : (w1.alloc (.cells #[.int .i64 n, .int .i64 0, .int .i64 0, .int .i64 0, .int .i64 0, .int .i64 0, .int .i64 0] TC)).cell? ⟨w.heap.size, 6, none⟩ = some (.int .i64 0) := HI2.out.z.cell 6
  have hbs : w1.heap.size < (w1.alloc (.cells #[.int .i64 n, .int .i64 0, .int .i64 0, .int .i64 0, .int .i64 0, .int .i64 0, .int .i64 0] TC)).heap.size := by simp
  obtain ⟨w2, hw2⟩ : ∃ w2, w2 = (w1.alloc (.cells #[.int .i64 n, .int .i64 0, .int .i64 0, .int .i64 0, .int .i64 0, .int .i64 0, .int .i64 0] TC)) := ⟨_, rfl⟩
  rw [← hw2] at HI2 c0 z0 z1 z2 z3 z4 z5 z6 e1 ef zf hbs
  have HW2 := Lib.hid hw2
  clear hw2
  go_upto_region 2 with fail
  rw [← HW2.out]
  clear HW2
  generalize w1.heap.size = bb at *
  by_cases h0 : r1.e = 0
  case neg =>
    have hb : (r1.e != 0) = true := by simpa using h0
    have HT2 : Hid (T = zeroC ∧ Q = r1) := Lib.hid ⟨by rw [HT.out, HTC.out, if_neg h0], by rw [HQ.out]; unfold rdOut; rw [HTC.out, if_neg h0]⟩
    go_wp2_with fail
    have HZZ := Lib.hid HI2.out.z
    obtain ⟨hov, hgv⟩ := HZZ.out.over zeroC
    obtain ⟨W5, hW5⟩ : ∃ W5, W5 = (World.setCell (World.setCell (World.setCell (World.setCell (World.setCell (World.setCell (World.setCell w2 ⟨w.heap.size, 0, none⟩ (.int .i64 0)) ⟨w.heap.size, 1, none⟩ (.int .i64 0)) ⟨w.heap.size, 2, none⟩ (.int .i64 0)) ⟨w.heap.size, 3, none⟩ (.int .i64 0)) ⟨w.heap.size, 4, none⟩ (.int .i64 0)) ⟨w.heap.size, 5, none⟩ (.int .i64 0)) ⟨w.heap.size, 6, none⟩ (.int .i64 0)) := ⟨_, rfl⟩
    have HOV : Hid (CmAt W5 w.heap.size zeroC) := Lib.hid (by rw [hW5]; exact hov)
    have HGV : Hid (w2.grownBy W5 (some w.heap.size)) := Lib.hid (by rw [hW5]; exact hgv)
    rw [← hW5]
    clear hov hgv hW5
    have y0 : W5.cell? ⟨w.heap.size, 0, none⟩ = some (.int .i64 0) := HOV.out.cell 0
    have y1 : W5.cell? ⟨w.heap.size, 1, none⟩ = some (.int .i64 0) := HOV.out.cell 1
    have y2 : W5.cell? ⟨w.heap.size, 2, none⟩ = some (.int .i64 0) := HOV.out.cell 2
    have y3 : W5.cell? ⟨w.heap.size, 3, none⟩ = some (.int .i64 0) := HOV.out.cell 3
    have y4 : W5.cell? ⟨w.heap.size, 4, none⟩ = some (.int .i64 0) := HOV.out.cell 4
    have y5 : W5.cell? ⟨w.heap.size, 5, none⟩ = some (.int .i64 0) := HOV.out.cell 5
    have y6 : W5.cell? ⟨w.heap.size, 6, none⟩ = some (.int .i64 0) := HOV.out.cell 6
    refine bodyPost_ret (v := .agg #[.int .i64 0, .int .i64 0, .int .i64 0, .int .i64 0, .int .i64 0, .int .i64 0, .int .i64 0]) (by simp [results, Tryz.results60, go_sem, y0, y1, y2, y3, y4, y5, y6]) rfl ?_
    rw [HT2.out.1, HT2.out.2]; exact ⟨rfl, (HI2.out.r.kept HGV.out (fun e => by injection e with e; omega)), grown_newS HI2.out.g HGV.out (Nat.le_refl _)⟩
  have hb : (r1.e != 0) = false := by simpa using h0
  have HTD : Hid (readC r = if isK n then (if (rdJ (jsOf n) ⟨n, 0, 0, 0, 0, 0, 0⟩ r1).2.e = 0 then ((rdJ (jsOf n) ⟨n, 0, 0, 0, 0, 0, 0⟩ r1).1, 0, (rdJ (jsOf n) ⟨n, 0, 0, 0, 0, 0, 0⟩ r1).2) else (zeroC, (rdJ (jsOf n) ⟨n, 0, 0, 0, 0, 0, 0⟩ r1).2.e, (rdJ (jsOf n) ⟨n, 0, 0, 0, 0, 0, 0⟩ r1).2)) else (zeroC, 3, r1)) := Lib.hid (by rw [HTC.out, if_pos h0])
  clear HTC
  have HH := Lib.hid (fun W => rhas_any n W)
  have hq0 := letters_nonel (k := n)
  cases hk : isK n with
  | false =>
    have hq1 : (lettersOf n == [63]) = true := by rw [hq0, hk]; rfl
    have HT2 : Hid (T = zeroC ∧ Q = ⟨r1.s, 3⟩) := Lib.hid ⟨by rw [HT.out, HTD.out, hk, if_neg (by simp)], by rw [HQ.out]; unfold rdOut; rw [HTD.out, hk, if_neg (by simp)]⟩
    clear hq0 hk HTD
    generalize lettersOf n = ls at *
    go_wp2_with fail
    refine (HH.out _).mono ?_
    rintro e w3 ⟨rfl, hb3⟩
    have HI3 := Lib.hid (HI2.out.below hb3)
    clear hb3 c0 z0 z1 z2 z3 z4 z5 z6 e1 ef zf
    have e1 : w3.cell? ⟨g, 1, none⟩ = some (.int .i64 r1.e) := HI3.out.r.c1
    have ef := HI3.out.r.fz
    have zf := HI3.out.z.fz
    have z0 : w3.cell? ⟨w.heap.size, 0, none⟩ = some (.int .i64 0) := HI3.out.z.cell 0
    have z1 : w3.cell? ⟨w.heap.size, 1, none⟩ = some (.int .i64 0) := HI3.out.z.cell 1
    have z2 : w3.cell? ⟨w.heap.size, 2, none⟩ = some (.int .i64 0) := HI3.out.z.cell 2
    have z3 : w3.cell? ⟨w.heap.size, 3, none⟩ = some (.int .i64 0) := HI3.out.z.cell 3
    have z4 : w3.cell? ⟨w.heap.size, 4, none⟩ = some (.int .i64 0) := HI3.out.z.cell 4
    have z5 : w3.cell? ⟨w.heap.size, 5, none⟩ = some (.int .i64 0) := HI3.out.z.cell 5
    have z6 : w3.cell? ⟨w.heap.size, 6, none⟩ = some (.int .i64 0) := HI3.out.z.cell 6
    have hgw : g ≠ w.heap.size := by omega
    have HIE : Hid (R11 w g bb ⟨n, 0, 0, 0, 0, 0, 0⟩ ⟨r1.s, 3⟩ (w3.setCell ⟨g, 1, none⟩ (.int .i64 3))) := Lib.hid (HI3.out.num (grown_setS _ _ _ _) (HI3.out.r.setE 3) hne hgw)
    go_wp2_with fail
    have HI4 := Lib.hid HIE.out
    clear HIE e1 ef zf z0 z1 z2 z3 z4 z5 z6
    generalize (w3.setCell ⟨g, 1, none⟩ (.int .i64 3)) = w4 at *
    have HZZ := Lib.hid HI4.out.z
    obtain ⟨hov, hgv⟩ := HZZ.out.over zeroC
    obtain ⟨W5, hW5⟩ : ∃ W5, W5 = (World.setCell (World.setCell (World.setCell (World.setCell (World.setCell (World.setCell (World.setCell w4 ⟨w.heap.size, 0, none⟩ (.int .i64 0)) ⟨w.heap.size, 1, none⟩ (.int .i64 0)) ⟨w.heap.size, 2, none⟩ (.int .i64 0)) ⟨w.heap.size, 3, none⟩ (.int .i64 0)) ⟨w.heap.size, 4, none⟩ (.int .i64 0)) ⟨w.heap.size, 5, none⟩ (.int .i64 0)) ⟨w.heap.size, 6, none⟩ (.int .i64 0)) := ⟨_, rfl⟩
    have HOV : Hid (CmAt W5 w.heap.size zeroC) := Lib.hid (by rw [hW5]; exact hov)
    have HGV : Hid (w4.grownBy W5 (some w.heap.size)) := Lib.hid (by rw [hW5]; exact hgv)
    rw [← hW5]
    clear hov hgv hW5
    have y0 : W5.cell? ⟨w.heap.size, 0, none⟩ = some (.int .i64 0) := HOV.out.cell 0
    have y1 : W5.cell? ⟨w.heap.size, 1, none⟩ = some (.int .i64 0) := HOV.out.cell 1
    have y2 : W5.cell? ⟨w.heap.size, 2, none⟩ = some (.int .i64 0) := HOV.out.cell 2
    have y3 : W5.cell? ⟨w.heap.size, 3, none⟩ = some (.int .i64 0) := HOV.out.cell 3
    have y4 : W5.cell? ⟨w.heap.size, 4, none⟩ = some (.int .i64 0) := HOV.out.cell 4
    have y5 : W5.cell? ⟨w.heap.size, 5, none⟩ = some (.int .i64 0) := HOV.out.cell 5
    have y6 : W5.cell? ⟨w.heap.size, 6, none⟩ = some (.int .i64 0) := HOV.out.cell 6
    refine bodyPost_ret (v := .agg #[.int .i64 0, .int .i64 0, .int .i64 0, .int .i64 0, .int .i64 0, .int .i64 0, .int .i64 0]) (by simp [results, Tryz.results60, go_sem, y0, y1, y2, y3, y4, y5, y6]) rfl ?_
    rw [HT2.out.1, HT2.out.2]; exact ⟨rfl, (HI4.out.r.kept HGV.out (fun e => by injection e with e; omega)), grown_newS HI4.out.g HGV.out (Nat.le_refl _)⟩
  | true =>
    have hq1 : (lettersOf n == [63]) = false := by rw [hq0, hk]; rfl
    have HAT : Hid (∀ i (hi : i < (jsOf n).length) (hb : i < (bs (lettersOf n)).size), ∃ x, (bs (lettersOf n))[i]'hb = x ∧ x.toNat = lett ((jsOf n)[i])) := Lib.hid fun i hi _ => letters_at hk hi
    have hlen : (bs (lettersOf n)).size = (jsOf n).length := by rw [bs_size, letters_len hk]
    have hl6 := jsOf_len n
    have HJL := Lib.hid (fun i (hi : i < (jsOf n).length) => jsOf_lt (k := n) (List.getElem_mem hi))
    have HST := Lib.hid (fun i (hi : i < (jsOf n).length) => rdJ_step ⟨n, 0, 0, 0, 0, 0, 0⟩ r1 (jsOf n) hi)
    have HTE : Hid (readC r = if (rdJ (jsOf n) ⟨n, 0, 0, 0, 0, 0, 0⟩ r1).2.e = 0 then ((rdJ (jsOf n) ⟨n, 0, 0, 0, 0, 0, 0⟩ r1).1, 0, (rdJ (jsOf n) ⟨n, 0, 0, 0, 0, 0, 0⟩ r1).2) else (zeroC, (rdJ (jsOf n) ⟨n, 0, 0, 0, 0, 0, 0⟩ r1).2.e, (rdJ (jsOf n) ⟨n, 0, 0, 0, 0, 0, 0⟩ r1).2)) := Lib.hid (by rw [HTD.out, hk, if_pos rfl])
    clear hq0 hk HTD
    generalize lettersOf n = ls at *
    go_wp2_with fail
    refine (HH.out _).mono ?_
    rintro e w3 ⟨rfl, hb3⟩
    have HI3 := Lib.hid (HI2.out.below hb3)
    have hgw : g ≠ w.heap.size := by omega
    clear hb3 c0 z0 z1 z2 z3 z4 z5 z6 e1 ef zf HI2
    go_wp2_with fail
    go_loopw [5] (fun i wr => ∃ k : Nat, k ≤ (jsOf n).length ∧ i = .int .i64 k ∧ Hid (R11 w g bb (rdJ ((jsOf n).take k) ⟨n, 0, 0, 0, 0, 0, 0⟩ r1).1 (rdJ ((jsOf n).take k) ⟨n, 0, 0, 0, 0, 0, 0⟩ r1).2 wr)) (fun i _ => (jsOf n).length - (intOf i).toNat)
    case atStart => exact ⟨0, Nat.zero_le _, rfl, HI3⟩
    case round =>
      obtain ⟨k, hk, rfl, HIk⟩ := hrel
      by_cases hlt : k < (jsOf n).length
      · have hkb : k < (bs ls).size := by rw [hlen]; exact hlt
        have hge : decide ((k : Int) < ((jsOf n).length : Int)) = true := decide_eq_true (by omega)
        obtain ⟨x, hx, hxl⟩ := HAT.out k hlt hkb
        have HST2 := Lib.hid (HST.out k hlt)
        have hj := HJL.out k hlt
        clear HAT HJL HST
        generalize (jsOf n)[k] = j at *
        generalize (jsOf n).length = m at *
        generalize rdJ ((jsOf n).take k) ⟨n, 0, 0, 0, 0, 0, 0⟩ r1 = DR at *
        obtain ⟨D, r2⟩ := DR
        simp only at HIk HST2
        have HNU := Lib.hid (fun W hW => rnum_any g r2 W hW)
        generalize rNum r2 = NR at *
        obtain ⟨y, r3⟩ := NR
        simp only at HNU HST2
        have HWI := Lib.hid (fun W => with_any D j hj y W)
        unfold cmV at HWI
        have HID : Hid (R11 w g bb D r2 wr.drew) := Lib.hid (HIk.out.below (Below.refl _ _).drew)
        obtain ⟨G, HG⟩ : ∃ G, Hid (G = D.set j y) := ⟨_, Lib.hid rfl⟩
        rw [← HG.out] at HWI HST2
        clear HG
        generalize lett j = lj at *
        clear HIk
        go_wp2_with fail
        refine wp_region_last (S := fun W => W.cell? ⟨bb, 0, none⟩ = some (.int .i64 D.k) ∧ W.cell? ⟨bb, 1, none⟩ = some (.int .i64 D.i) ∧ W.cell? ⟨bb, 2, none⟩ = some (.int .i64 D.m) ∧ W.cell? ⟨bb, 3, none⟩ = some (.int .i64 D.o) ∧ W.cell? ⟨bb, 4, none⟩ = some (.int .i64 D.s) ∧ W.cell? ⟨bb, 5, none⟩ = some (.int .i64 D.q) ∧ W.cell? ⟨bb, 6, none⟩ = some (.int .i64 D.p)) 7 (by kernel_rfl) ⟨HID.out.c.cell 0, HID.out.c.cell 1, HID.out.c.cell 2, HID.out.c.cell 3, HID.out.c.cell 4, HID.out.c.cell 5, HID.out.c.cell 6⟩ (fun hHeld => ?_)
        generalize wr.drew = w4 at *
        refine wpAnyL_take (i := 0) (v := .agg #[.int .i64 D.k, .int .i64 D.i, .int .i64 D.m, .int .i64 D.o, .int .i64 D.s, .int .i64 D.q, .int .i64 D.p]) rfl (by kernel_rfl) (by kernel_rfl) (by kernel_rfl) (by kernel_rfl) (by kernel_rfl) (fun _ _ _ h => h) (Or.inl ⟨by rfl, fun w' hSw => by obtain ⟨s0, s1, s2, s3, s4, s5, s6⟩ := hSw; go_simp⟩) hHeld ?_
        refine wpAnyL_take (i := 1) (v := .string (bs ls)) rfl (by kernel_rfl) (by kernel_rfl) (by kernel_rfl) (by kernel_rfl) (by kernel_rfl) (fun _ _ _ h => h) (Or.inl ⟨by rfl, fun w' hSw => by obtain ⟨s0, s1, s2, s3, s4, s5, s6⟩ := hSw; go_simp⟩) hHeld ?_
        refine wpAnyL_take (i := 2) (v := .int .i64 (k : Int)) rfl (by kernel_rfl) (by kernel_rfl) (by kernel_rfl) (by kernel_rfl) (by kernel_rfl) (fun _ _ _ h => h) (Or.inl ⟨by rfl, fun w' hSw => by obtain ⟨s0, s1, s2, s3, s4, s5, s6⟩ := hSw; go_simp⟩) hHeld ?_
        refine wpAnyL_take (i := 3) (v := .int .u8 (lj : Int)) rfl (by kernel_rfl) (by kernel_rfl) (by kernel_rfl) (by kernel_rfl) (by kernel_rfl) (fun _ _ _ h => h) (Or.inl ⟨by rfl, fun w' hSw => by obtain ⟨s0, s1, s2, s3, s4, s5, s6⟩ := hSw; go_simp⟩) hHeld ?_
        refine wpAnyL_take (i := 4) (v := .pointer (some ⟨g, 0, none⟩)) rfl (by kernel_rfl) (by kernel_rfl) (by kernel_rfl) (by kernel_rfl) (by kernel_rfl) (fun _ _ _ h => h) (Or.inl ⟨by rfl, fun w' hSw => by obtain ⟨s0, s1, s2, s3, s4, s5, s6⟩ := hSw; go_simp⟩) hHeld ?_
        clear hHeld
        refine wpAnyL_ready (rs := [5]) (by kernel_rfl) (by simp) ?_
        refine AllReadyL.cons rfl (fun K hK => ?_) AllReadyL.nil
        go_simp
        go_at_call 89
        refine (HNU.out _ HID.out.r).mono ?_
        rintro e w5 ⟨rfl, hr5, hg5⟩
        have HI5 := Lib.hid (HID.out.num hg5 hr5 hne hgw)
        clear hr5 hg5
        go_wp2_with fail
        refine hK.out _ _ (fun _ => ⟨HI5.out.c.cell 0, HI5.out.c.cell 1, HI5.out.c.cell 2, HI5.out.c.cell 3, HI5.out.c.cell 4, HI5.out.c.cell 5, HI5.out.c.cell 6⟩) (fun _ => ?_)
        clear hK K
        refine wpAnyL_ready (rs := [6]) (by kernel_rfl) (by simp) ?_
        refine AllReadyL.cons rfl (fun K hK => ?_) AllReadyL.nil
        go_simp
        go_at_call 50
        refine (HWI.out _).mono ?_
        rintro e w6 ⟨rfl, hb6⟩
        have HI6 := Lib.hid (HI5.out.below hb6)
        clear hb6
        go_wp2_with fail
        refine hK.out _ _ (fun _ => ⟨HI6.out.c.cell 0, HI6.out.c.cell 1, HI6.out.c.cell 2, HI6.out.c.cell 3, HI6.out.c.cell 4, HI6.out.c.cell 5, HI6.out.c.cell 6⟩) (fun _ => ?_)
        clear hK K
        have HOV := Lib.hid (HI6.out.c.over G)
        have HI7 := Lib.hid (HI6.out.setc HOV.out.2 HOV.out.1 hne (by omega))
        have d0 : w6.cell? ⟨bb, 0, none⟩ = some (.int .i64 D.k) := HI6.out.c.cell 0
        have d1 : w6.cell? ⟨bb, 1, none⟩ = some (.int .i64 D.i) := HI6.out.c.cell 1
        have d2 : w6.cell? ⟨bb, 2, none⟩ = some (.int .i64 D.m) := HI6.out.c.cell 2
        have d3 : w6.cell? ⟨bb, 3, none⟩ = some (.int .i64 D.o) := HI6.out.c.cell 3
        have d4 : w6.cell? ⟨bb, 4, none⟩ = some (.int .i64 D.s) := HI6.out.c.cell 4
        have d5 : w6.cell? ⟨bb, 5, none⟩ = some (.int .i64 D.q) := HI6.out.c.cell 5
        have d6 : w6.cell? ⟨bb, 6, none⟩ = some (.int .i64 D.p) := HI6.out.c.cell 6
        have hfz := HI6.out.c.fz
        refine wpAnyL_ready (rs := [7]) (by kernel_rfl) (by simp) ?_
        refine AllReadyL.cons rfl (fun K hK => ?_) AllReadyL.nil
        go_simp
        refine hK.out _ _ (fun h => absurd rfl h) (fun _ => ?_)
        clear hK K d0 d1 d2 d3 d4 d5 d6 hfz HOV
        refine wpAnyL_done (by kernel_rfl) ?_ _
        generalize ((World.setCell (World.setCell (World.setCell (World.setCell (World.setCell (World.setCell (World.setCell w6 ⟨bb, 0, none⟩ (.int .i64 G.k)) ⟨bb, 1, none⟩ (.int .i64 G.i)) ⟨bb, 2, none⟩ (.int .i64 G.m)) ⟨bb, 3, none⟩ (.int .i64 G.o)) ⟨bb, 4, none⟩ (.int .i64 G.s)) ⟨bb, 5, none⟩ (.int .i64 G.q)) ⟨bb, 6, none⟩ (.int .i64 G.p))) = w7 at *
        go_wp2_with fail
        go_roundw
        case rel => exact ⟨k + 1, by omega, by go_num, by rw [HST2.out]; exact HI7⟩
        case measure => simp [intOf]; omega
      · obtain rfl : k = (jsOf n).length := by omega
        rw [List.take_length] at HIk
        clear HAT HJL HST
        generalize rdJ (jsOf n) ⟨n, 0, 0, 0, 0, 0, 0⟩ r1 = DR at *
        obtain ⟨D, r2⟩ := DR
        simp only at HIk HTE
        have e1 : wr.cell? ⟨g, 1, none⟩ = some (.int .i64 r2.e) := HIk.out.r.c1
        have zf := HIk.out.z.fz
        have z0 : wr.cell? ⟨w.heap.size, 0, none⟩ = some (.int .i64 0) := HIk.out.z.cell 0
        have z1 : wr.cell? ⟨w.heap.size, 1, none⟩ = some (.int .i64 0) := HIk.out.z.cell 1
        have z2 : wr.cell? ⟨w.heap.size, 2, none⟩ = some (.int .i64 0) := HIk.out.z.cell 2
        have z3 : wr.cell? ⟨w.heap.size, 3, none⟩ = some (.int .i64 0) := HIk.out.z.cell 3
        have z4 : wr.cell? ⟨w.heap.size, 4, none⟩ = some (.int .i64 0) := HIk.out.z.cell 4
        have z5 : wr.cell? ⟨w.heap.size, 5, none⟩ = some (.int .i64 0) := HIk.out.z.cell 5
        have z6 : wr.cell? ⟨w.heap.size, 6, none⟩ = some (.int .i64 0) := HIk.out.z.cell 6
        have d0 : wr.cell? ⟨bb, 0, none⟩ = some (.int .i64 D.k) := HIk.out.c.cell 0
        have d1 : wr.cell? ⟨bb, 1, none⟩ = some (.int .i64 D.i) := HIk.out.c.cell 1
        have d2 : wr.cell? ⟨bb, 2, none⟩ = some (.int .i64 D.m) := HIk.out.c.cell 2
        have d3 : wr.cell? ⟨bb, 3, none⟩ = some (.int .i64 D.o) := HIk.out.c.cell 3
        have d4 : wr.cell? ⟨bb, 4, none⟩ = some (.int .i64 D.s) := HIk.out.c.cell 4
        have d5 : wr.cell? ⟨bb, 5, none⟩ = some (.int .i64 D.q) := HIk.out.c.cell 5
        have d6 : wr.cell? ⟨bb, 6, none⟩ = some (.int .i64 D.p) := HIk.out.c.cell 6
        by_cases h2 : r2.e = 0
        case neg =>
          have hb2 : (r2.e != 0) = true := by simpa using h2
          have HT2 : Hid (T = zeroC ∧ Q = r2) := Lib.hid ⟨by rw [HT.out, HTE.out, if_neg h2], by rw [HQ.out]; unfold rdOut; rw [HTE.out, if_neg h2]⟩
          go_wp2_with fail
          have HZZ := Lib.hid HIk.out.z
          obtain ⟨hov, hgv⟩ := HZZ.out.over zeroC
          obtain ⟨W5, hW5⟩ : ∃ W5, W5 = (World.setCell (World.setCell (World.setCell (World.setCell (World.setCell (World.setCell (World.setCell wr ⟨w.heap.size, 0, none⟩ (.int .i64 0)) ⟨w.heap.size, 1, none⟩ (.int .i64 0)) ⟨w.heap.size, 2, none⟩ (.int .i64 0)) ⟨w.heap.size, 3, none⟩ (.int .i64 0)) ⟨w.heap.size, 4, none⟩ (.int .i64 0)) ⟨w.heap.size, 5, none⟩ (.int .i64 0)) ⟨w.heap.size, 6, none⟩ (.int .i64 0)) := ⟨_, rfl⟩
          have HOV : Hid (CmAt W5 w.heap.size zeroC) := Lib.hid (by rw [hW5]; exact hov)
          have HGV : Hid (wr.grownBy W5 (some w.heap.size)) := Lib.hid (by rw [hW5]; exact hgv)
          rw [← hW5]
          clear hov hgv hW5
          have y0 : W5.cell? ⟨w.heap.size, 0, none⟩ = some (.int .i64 0) := HOV.out.cell 0
          have y1 : W5.cell? ⟨w.heap.size, 1, none⟩ = some (.int .i64 0) := HOV.out.cell 1
          have y2 : W5.cell? ⟨w.heap.size, 2, none⟩ = some (.int .i64 0) := HOV.out.cell 2
          have y3 : W5.cell? ⟨w.heap.size, 3, none⟩ = some (.int .i64 0) := HOV.out.cell 3
          have y4 : W5.cell? ⟨w.heap.size, 4, none⟩ = some (.int .i64 0) := HOV.out.cell 4
          have y5 : W5.cell? ⟨w.heap.size, 5, none⟩ = some (.int .i64 0) := HOV.out.cell 5
          have y6 : W5.cell? ⟨w.heap.size, 6, none⟩ = some (.int .i64 0) := HOV.out.cell 6
          refine bodyPost_ret (v := .agg #[.int .i64 0, .int .i64 0, .int .i64 0, .int .i64 0, .int .i64 0, .int .i64 0, .int .i64 0]) (by simp [results, Tryz.results60, go_sem, y0, y1, y2, y3, y4, y5, y6]) rfl ?_
          rw [HT2.out.1, HT2.out.2]; exact ⟨rfl, (HIk.out.r.kept HGV.out (fun e => by injection e with e; omega)), grown_newS HIk.out.g HGV.out (Nat.le_refl _)⟩
        have hb2 : (r2.e != 0) = false := by simpa using h2
        have HT2 : Hid (T = D ∧ Q = r2) := Lib.hid ⟨by rw [HT.out, HTE.out, if_pos h2], by rw [HQ.out]; unfold rdOut; rw [HTE.out, if_pos h2, ← h2]⟩
        clear h2
        go_wp2_with fail
        have HZZ := Lib.hid HIk.out.z
        obtain ⟨hov, hgv⟩ := HZZ.out.over D
        obtain ⟨W5, hW5⟩ : ∃ W5, W5 = (World.setCell (World.setCell (World.setCell (World.setCell (World.setCell (World.setCell (World.setCell wr ⟨w.heap.size, 0, none⟩ (.int .i64 D.k)) ⟨w.heap.size, 1, none⟩ (.int .i64 D.i)) ⟨w.heap.size, 2, none⟩ (.int .i64 D.m)) ⟨w.heap.size, 3, none⟩ (.int .i64 D.o)) ⟨w.heap.size, 4, none⟩ (.int .i64 D.s)) ⟨w.heap.size, 5, none⟩ (.int .i64 D.q)) ⟨w.heap.size, 6, none⟩ (.int .i64 D.p)) := ⟨_, rfl⟩
        have HOV : Hid (CmAt W5 w.heap.size D) := Lib.hid (by rw [hW5]; exact hov)
        have HGV : Hid (wr.grownBy W5 (some w.heap.size)) := Lib.hid (by rw [hW5]; exact hgv)
        rw [← hW5]
        clear hov hgv hW5
        have y0 : W5.cell? ⟨w.heap.size, 0, none⟩ = some (.int .i64 D.k) := HOV.out.cell 0
        have y1 : W5.cell? ⟨w.heap.size, 1, none⟩ = some (.int .i64 D.i) := HOV.out.cell 1
        have y2 : W5.cell? ⟨w.heap.size, 2, none⟩ = some (.int .i64 D.m) := HOV.out.cell 2
        have y3 : W5.cell? ⟨w.heap.size, 3, none⟩ = some (.int .i64 D.o) := HOV.out.cell 3
        have y4 : W5.cell? ⟨w.heap.size, 4, none⟩ = some (.int .i64 D.s) := HOV.out.cell 4
        have y5 : W5.cell? ⟨w.heap.size, 5, none⟩ = some (.int .i64 D.q) := HOV.out.cell 5
        have y6 : W5.cell? ⟨w.heap.size, 6, none⟩ = some (.int .i64 D.p) := HOV.out.cell 6
        refine bodyPost_ret (v := .agg #[.int .i64 D.k, .int .i64 D.i, .int .i64 D.m, .int .i64 D.o, .int .i64 D.s, .int .i64 D.q, .int .i64 D.p]) (by simp [results, Tryz.results60, go_sem, y0, y1, y2, y3, y4, y5, y6]) rfl ?_
        rw [HT2.out.1, HT2.out.2]; exact ⟨rfl, (HIk.out.r.kept HGV.out (fun e => by injection e with e; omega)), grown_newS HIk.out.g HGV.out (Nat.le_refl _)⟩
end Go.Proofs.YtmplokdbbhlomaaGreatDoor

/-
  What complineref11.Get and complineref33.Right, Wrong, Bytes, Put come to, over this seat's translation: contracts for callers. (Printed by gen_sr7.py.)
-/
namespace Go.Proofs.YtmplokdbbhlomaaGreatDoor
open Go.RowKit

theorem getC_doc (s : List UInt8) : getC s = if rEnd (rdOut ⟨s, 0⟩) = 0 then ((readC ⟨s, 0⟩).1, 0) else (zeroC, rEnd (rdOut ⟨s, 0⟩)) := by
  unfold getC
  by_cases h0 : (readC ⟨s, 0⟩).2.1 = 0
  · have h1 := (readC_got h0).2.2.1
    have hr : ∀ R : Cm × Int × Rd, R.2.1 = 0 → R.2.2.e = 0 → Rd.mk R.2.2.s R.2.1 = R.2.2 := by
      rintro ⟨_, _, ⟨_, _⟩⟩ h h'
      simp only at h h'
      rw [h, h']
    have e : rdOut ⟨s, 0⟩ = (readC ⟨s, 0⟩).2.2 := hr _ h0 h1
    rw [if_pos h0, e]
  · have e : rEnd (rdOut ⟨s, 0⟩) = (readC ⟨s, 0⟩).2.1 := by
      unfold rEnd rdOut
      simp [h0]
    rw [if_neg h0, e, if_neg h0]
/-- A new reader. -/
theorem RdAt.made (w : World) (l : List UInt8) (hl : l.length ≤ 1000000) (t : TypeId) : RdAt (w.alloc (.cells #[.string (bs l), .int .i64 0] t)) w.heap.size ⟨l, 0⟩ :=
  ⟨cell_new _ _ _ 0 rfl, cell_new _ _ _ 1 rfl, fun j => by go_simp, hl⟩
set_option maxRecDepth 100000 in
set_option maxHeartbeats 6400000 in
theorem rget11_any (l : List UInt8) (w : World) (hl : l.length ≤ 1000000) : Calls Tryz.prog 34 #[.string (bs l)] w fun e w' => e = .returned (.tuple #[cmV (getC l).1, .int .i64 (getC l).2]) ∧ Below w.heap.size w w' := by
  have HB0 : Hid (Below w.heap.size w (w.alloc (.cells (cmCells zeroC) TC))) := Lib.hid ((Below.refl _ _).alloc (Nat.le_refl _) _)
  have HZ := Lib.hid (CmAt.made w zeroC)
  have hz0 : w.heap.size < (w.alloc (.cells (cmCells zeroC) TC)).heap.size := by simp
  obtain ⟨T, HT⟩ : ∃ T, Hid (T = getC l) := ⟨_, Lib.hid rfl⟩
  have HTD := Lib.hid (HT.out.trans (getC_doc l))
  rw [← HT.out]
  rw [zero_cells] at HB0 HZ hz0
  go_enter Tryz.func34, Tryz.ntmps34
  have HBR : Hid (Below w.heap.size w ((w.alloc (.cells #[.int .i64 0, .int .i64 0, .int .i64 0, .int .i64 0, .int .i64 0, .int .i64 0, .int .i64 0] TC)).alloc (.cells #[.string (bs l), .int .i64 0] 105))) := Lib.hid (HB0.out.alloc HB0.out.size _)
  have HRR := Lib.hid (RdAt.made (w.alloc (.cells #[.int .i64 0, .int .i64 0, .int .i64 0, .int .i64 0, .int .i64 0, .int .i64 0, .int .i64 0] TC)) l hl 105)
  have HZR := Lib.hid (HZ.out.below ((Below.refl _ _).alloc (Nat.le_refl _) (.cells #[.string (bs l), .int .i64 0] 105)))
  go_upto_region 2 with fail
  have hgg : (w.alloc (.cells #[.int .i64 0, .int .i64 0, .int .i64 0, .int .i64 0, .int .i64 0, .int .i64 0, .int .i64 0] TC)).heap.size = w.heap.size + 1 := by simp
  rw [hgg] at HRR
  clear hgg hz0
  generalize (w.alloc (.cells #[.int .i64 0, .int .i64 0, .int .i64 0, .int .i64 0, .int .i64 0, .int .i64 0, .int .i64 0] TC)).alloc (.cells #[.string (bs l), .int .i64 0] 105) = w1 at *
  have HB1 := Lib.hid HBR.out
  clear HB0 HZ HBR
  go_wp2_with (go_at_call 60; refine (rread_any (w.heap.size + 1) ⟨l, 0⟩ w1 HRR.out).mono ?_)
  rintro e w2 ⟨rfl, hr2, hg2⟩
  generalize (readC ⟨l, 0⟩).1 = c at *
  generalize rdOut ⟨l, 0⟩ = r2 at *
  have HZ2 := Lib.hid (HZR.out.kept hg2 (fun e => by injection e with e; omega))
  have HB2 : Hid (Below w.heap.size w w2) := Lib.hid (HB1.out.grown hg2 HB1.out.size (fun k hk => by injection hk with hk; omega))
  have HR2 := Lib.hid hr2
  clear hr2 hg2 HZR HRR HB1
  unfold cmV
  have HBA : Hid (Below w2.heap.size w2 (w2.alloc (.cells (cmCells c) TC))) := Lib.hid ((Below.refl _ _).alloc (Nat.le_refl _) _)
  have HC3 := Lib.hid (CmAt.made w2 c)
  have HZ3 := Lib.hid (HZ2.out.below HBA.out)
  have HR3 := Lib.hid (HR2.out.below HBA.out)
  have HB3 : Hid (Below w.heap.size w (w2.alloc (.cells (cmCells c) TC))) := Lib.hid (HB2.out.trans (HBA.out.mono HB2.out.size))
  have hcc : cmCells c = #[.int .i64 c.k, .int .i64 c.i, .int .i64 c.m, .int .i64 c.o, .int .i64 c.s, .int .i64 c.q, .int .i64 c.p] := rfl
  rw [hcc] at HC3 HZ3 HR3 HB3
  have hlz : w.heap.size < w2.heap.size := HZ2.out.lt
  clear hcc HBA HZ2 HR2 HB2
  go_upto_region 3 with fail
  generalize (w2.alloc (.cells #[.int .i64 c.k, .int .i64 c.i, .int .i64 c.m, .int .i64 c.o, .int .i64 c.s, .int .i64 c.q, .int .i64 c.p] TC)) = w3 at *
  generalize w2.heap.size = bb at *
  have c0 : w3.cell? ⟨bb, 0, none⟩ = some (.int .i64 c.k) := HC3.out.cell 0
  have c1 : w3.cell? ⟨bb, 1, none⟩ = some (.int .i64 c.i) := HC3.out.cell 1
  have c2 : w3.cell? ⟨bb, 2, none⟩ = some (.int .i64 c.m) := HC3.out.cell 2
  have c3 : w3.cell? ⟨bb, 3, none⟩ = some (.int .i64 c.o) := HC3.out.cell 3
  have c4 : w3.cell? ⟨bb, 4, none⟩ = some (.int .i64 c.s) := HC3.out.cell 4
  have c5 : w3.cell? ⟨bb, 5, none⟩ = some (.int .i64 c.q) := HC3.out.cell 5
  have c6 : w3.cell? ⟨bb, 6, none⟩ = some (.int .i64 c.p) := HC3.out.cell 6
  have z0 : w3.cell? ⟨w.heap.size, 0, none⟩ = some (.int .i64 0) := HZ3.out.cell 0
  have z1 : w3.cell? ⟨w.heap.size, 1, none⟩ = some (.int .i64 0) := HZ3.out.cell 1
  have z2 : w3.cell? ⟨w.heap.size, 2, none⟩ = some (.int .i64 0) := HZ3.out.cell 2
  have z3 : w3.cell? ⟨w.heap.size, 3, none⟩ = some (.int .i64 0) := HZ3.out.cell 3
  have z4 : w3.cell? ⟨w.heap.size, 4, none⟩ = some (.int .i64 0) := HZ3.out.cell 4
  have z5 : w3.cell? ⟨w.heap.size, 5, none⟩ = some (.int .i64 0) := HZ3.out.cell 5
  have z6 : w3.cell? ⟨w.heap.size, 6, none⟩ = some (.int .i64 0) := HZ3.out.cell 6
  have zf := HZ3.out.fz
  have HEN := Lib.hid (rend_any (w.heap.size + 1) r2 w3 HR3.out)
  generalize rEnd r2 = en at *
  by_cases h0 : en = 0
  case neg =>
    have hb : (en != 0) = true := by simpa using h0
    have HT2 : Hid (T = (zeroC, en)) := Lib.hid (by rw [HTD.out, if_neg h0])
    go_wp2_with (go_at_call 61; refine HEN.out.mono ?_; rintro e w4 ⟨rfl, rfl⟩)
    obtain ⟨hov, hgv⟩ := HZ3.out.over zeroC
    obtain ⟨W5, hW5⟩ : ∃ W5, W5 = (World.setCell (World.setCell (World.setCell (World.setCell (World.setCell (World.setCell (World.setCell w4 ⟨w.heap.size, 0, none⟩ (.int .i64 0)) ⟨w.heap.size, 1, none⟩ (.int .i64 0)) ⟨w.heap.size, 2, none⟩ (.int .i64 0)) ⟨w.heap.size, 3, none⟩ (.int .i64 0)) ⟨w.heap.size, 4, none⟩ (.int .i64 0)) ⟨w.heap.size, 5, none⟩ (.int .i64 0)) ⟨w.heap.size, 6, none⟩ (.int .i64 0)) := ⟨_, rfl⟩
    have HOV : Hid (CmAt W5 w.heap.size zeroC) := Lib.hid (by rw [hW5]; exact hov)
    have HGV : Hid (w4.grownBy W5 (some w.heap.size)) := Lib.hid (by rw [hW5]; exact hgv)
    rw [← hW5]
    clear hov hgv hW5
    have y0 : W5.cell? ⟨w.heap.size, 0, none⟩ = some (.int .i64 0) := HOV.out.cell 0
    have y1 : W5.cell? ⟨w.heap.size, 1, none⟩ = some (.int .i64 0) := HOV.out.cell 1
    have y2 : W5.cell? ⟨w.heap.size, 2, none⟩ = some (.int .i64 0) := HOV.out.cell 2
    have y3 : W5.cell? ⟨w.heap.size, 3, none⟩ = some (.int .i64 0) := HOV.out.cell 3
    have y4 : W5.cell? ⟨w.heap.size, 4, none⟩ = some (.int .i64 0) := HOV.out.cell 4
    have y5 : W5.cell? ⟨w.heap.size, 5, none⟩ = some (.int .i64 0) := HOV.out.cell 5
    have y6 : W5.cell? ⟨w.heap.size, 6, none⟩ = some (.int .i64 0) := HOV.out.cell 6
    refine bodyPost_ret (v := .tuple #[.agg #[.int .i64 0, .int .i64 0, .int .i64 0, .int .i64 0, .int .i64 0, .int .i64 0, .int .i64 0], .int .i64 en]) (by simp [results, Tryz.results34, go_sem, y0, y1, y2, y3, y4, y5, y6]) rfl ?_
    rw [HT2.out]; exact ⟨rfl, below_byS HB3.out HGV.out⟩
  subst h0
  have HT2 : Hid (T = (c, 0)) := Lib.hid (by rw [HTD.out, if_pos rfl])
  go_wp2_with (go_at_call 61; refine HEN.out.mono ?_; rintro e w4 ⟨rfl, rfl⟩)
  obtain ⟨hov, hgv⟩ := HZ3.out.over c
  obtain ⟨W5, hW5⟩ : ∃ W5, W5 = (World.setCell (World.setCell (World.setCell (World.setCell (World.setCell (World.setCell (World.setCell w4 ⟨w.heap.size, 0, none⟩ (.int .i64 c.k)) ⟨w.heap.size, 1, none⟩ (.int .i64 c.i)) ⟨w.heap.size, 2, none⟩ (.int .i64 c.m)) ⟨w.heap.size, 3, none⟩ (.int .i64 c.o)) ⟨w.heap.size, 4, none⟩ (.int .i64 c.s)) ⟨w.heap.size, 5, none⟩ (.int .i64 c.q)) ⟨w.heap.size, 6, none⟩ (.int .i64 c.p)) := ⟨_, rfl⟩
  have HOV : Hid (CmAt W5 w.heap.size c) := Lib.hid (by rw [hW5]; exact hov)
  have HGV : Hid (w4.grownBy W5 (some w.heap.size)) := Lib.hid (by rw [hW5]; exact hgv)
  rw [← hW5]
  clear hov hgv hW5
  have y0 : W5.cell? ⟨w.heap.size, 0, none⟩ = some (.int .i64 c.k) := HOV.out.cell 0
  have y1 : W5.cell? ⟨w.heap.size, 1, none⟩ = some (.int .i64 c.i) := HOV.out.cell 1
  have y2 : W5.cell? ⟨w.heap.size, 2, none⟩ = some (.int .i64 c.m) := HOV.out.cell 2
  have y3 : W5.cell? ⟨w.heap.size, 3, none⟩ = some (.int .i64 c.o) := HOV.out.cell 3
  have y4 : W5.cell? ⟨w.heap.size, 4, none⟩ = some (.int .i64 c.s) := HOV.out.cell 4
  have y5 : W5.cell? ⟨w.heap.size, 5, none⟩ = some (.int .i64 c.q) := HOV.out.cell 5
  have y6 : W5.cell? ⟨w.heap.size, 6, none⟩ = some (.int .i64 c.p) := HOV.out.cell 6
  refine bodyPost_ret (v := .tuple #[.agg #[.int .i64 c.k, .int .i64 c.i, .int .i64 c.m, .int .i64 c.o, .int .i64 c.s, .int .i64 c.q, .int .i64 c.p], .int .i64 0]) (by simp [results, Tryz.results34, go_sem, y0, y1, y2, y3, y4, y5, y6]) rfl ?_
  rw [HT2.out]; exact ⟨rfl, below_byS HB3.out HGV.out⟩
end Go.Proofs.YtmplokdbbhlomaaGreatDoor

/-
  What complineref33.Right, Wrong, Bytes, Put come to, over this seat's translation: contracts for callers. (Printed by gen_sr8.py.)
-/
namespace Go.Proofs.YtmplokdbbhlomaaGreatDoor
open Go.RowKit

set_option maxRecDepth 100000 in
set_option maxHeartbeats 6400000 in
theorem srright_any (x : St) (w : World) : Calls Tryz.prog 7 #[stV x] w fun e w' => e = .returned (.bool (rightS x)) ∧ Below w.heap.size w w' := by
  obtain ⟨k, c, n⟩ := x
  have heq := eqC_zero c
  have HCK := Lib.hid (fun W => rright_any c W)
  have HW0 : Hid (Below w.heap.size w (w.alloc (.cells (stCells ⟨k, c, n⟩) TSt))) := Lib.hid ((Below.refl _ _).alloc (Nat.le_refl _) _)
  have HER : Hid (rightS ⟨k, c, n⟩ = if k = 1 then decide (n = 0) && rightC c else decide (c = zeroC) && (decide (k = 2) && decide (-1 ≤ n) || decide (k = 3) && decide (0 ≤ n))) := Lib.hid rfl
  obtain ⟨er, her⟩ : ∃ er, er = rightS ⟨k, c, n⟩ := ⟨_, rfl⟩
  rw [← her]
  rw [← her] at HER
  clear her
  unfold cmV at HCK
  unfold stCells at HW0
  simp only at HW0
  unfold stV stCells
  simp only
  generalize decide (c = zeroC) = bz at *
  by_cases h1 : k = 1
  · subst h1
    by_cases hn : n = 0
    · subst hn
      have HE : Hid (er = rightC c) := Lib.hid (by rw [HER.out]; simp)
      go_enter Tryz.func7, Tryz.ntmps7
      go_wp2_with (go_at_call 21; refine (HCK.out _).mono ?_; rintro e w1 ⟨rfl, hb⟩; have HB1 := Lib.hid hb; clear hb)
      go_ret
      exact ⟨by rw [HE.out]; rfl, HW0.out.trans (HB1.out.mono HW0.out.size)⟩
    · have hb : (n == 0) = false := by simpa using hn
      have HE : Hid (er = false) := Lib.hid (by rw [HER.out]; simp [hn])
      go_enter Tryz.func7, Tryz.ntmps7
      go_wp2_with fail
      go_ret
      exact ⟨by rw [HE.out]; rfl, HW0.out⟩
  have b1 : (k == 1) = false := by simpa using h1
  cases bz with
  | false =>
    have HE : Hid (er = false) := Lib.hid (by rw [HER.out, if_neg h1]; simp)
    go_enter Tryz.func7, Tryz.ntmps7
    go_wp2_with fail
    go_ret
    exact ⟨by rw [HE.out]; rfl, HW0.out⟩
  | true =>
    by_cases h2 : k = 2
    · subst h2
      by_cases hm : (-1 : Int) ≤ n
      · have hd : decide ((-1 : Int) ≤ n) = true := decide_eq_true hm
        have HE : Hid (er = true) := Lib.hid (by rw [HER.out]; simp [hm])
        go_enter Tryz.func7, Tryz.ntmps7
        go_wp2_with fail
        go_ret
        exact ⟨by rw [HE.out]; rfl, HW0.out⟩
      · have hd : decide ((-1 : Int) ≤ n) = false := decide_eq_false hm
        have HE : Hid (er = false) := Lib.hid (by rw [HER.out]; simp [hm])
        go_enter Tryz.func7, Tryz.ntmps7
        go_wp2_with fail
        go_ret
        exact ⟨by rw [HE.out]; rfl, HW0.out⟩
    have b2 : (k == 2) = false := by simpa using h2
    by_cases h3 : k = 3
    · subst h3
      by_cases hm : (0 : Int) ≤ n
      · have hd : decide ((0 : Int) ≤ n) = true := decide_eq_true hm
        have HE : Hid (er = true) := Lib.hid (by rw [HER.out]; simp [hm])
        go_enter Tryz.func7, Tryz.ntmps7
        go_wp2_with fail
        go_ret
        exact ⟨by rw [HE.out]; rfl, HW0.out⟩
      · have hd : decide ((0 : Int) ≤ n) = false := decide_eq_false hm
        have HE : Hid (er = false) := Lib.hid (by rw [HER.out]; simp [hm])
        go_enter Tryz.func7, Tryz.ntmps7
        go_wp2_with fail
        go_ret
        exact ⟨by rw [HE.out]; rfl, HW0.out⟩
    have b3 : (k == 3) = false := by simpa using h3
    have HE : Hid (er = false) := Lib.hid (by rw [HER.out, if_neg h1]; simp [h2, h3])
    go_enter Tryz.func7, Tryz.ntmps7
    go_wp2_with fail
    go_ret
    exact ⟨by rw [HE.out]; rfl, HW0.out⟩
set_option maxRecDepth 100000 in
set_option maxHeartbeats 3200000 in
theorem srwrong_any (l : List St) (A : Option Addr) (c : Nat) (w : World) (hs : Seg w w.heap.size A (stRows l)) : Calls Tryz.prog 13 #[.slice A l.length c] w fun e w' => e = .returned (.int .i64 (wrongL l)) ∧ Below w.heap.size w w' := by
  have HS := Lib.hid hs
  clear hs
  by_cases hbig : 1024 < l.length
  · have hd : decide ((1024 : Int) < (l.length : Int)) = true := decide_eq_true (by omega)
    have HE : Hid (wrongL l = 6) := Lib.hid (by unfold wrongL; rw [if_pos hbig])
    go_enter Tryz.func13, Tryz.ntmps13
    go_wp2_with fail
    go_ret
    exact ⟨by rw [HE.out]; rfl, Below.refl _ _⟩
  have hd : decide ((1024 : Int) < (l.length : Int)) = false := decide_eq_false (by omega)
  go_enter Tryz.func13, Tryz.ntmps13
  go_wp2_with fail
  go_loopw [3] (fun i wr => ∃ k : Nat, k ≤ l.length ∧ i = .int .i64 k ∧ Hid ((l.take k).all rightS = true) ∧ Hid (Below w.heap.size w wr)) (fun i _ => l.length - (intOf i).toNat)
  case atStart => exact ⟨0, Nat.zero_le _, rfl, rfl, Below.refl _ _⟩
  case round =>
    obtain ⟨k, hk, rfl, HOK, HB⟩ := hrel
    by_cases hlt : k < l.length
    · obtain ⟨b, o, rfl, hb, e0, e1, e2, e3, e4, e5, e6, e7, e8⟩ := st_at (HS.out.below HB.out) hlt
      have HBD := Lib.hid (wrongL_bad (l := l) (by omega) hlt)
      have HSN : Hid ((l.take (k + 1)).all rightS = ((l.take k).all rightS && rightS l[k])) := Lib.hid (by rw [List.take_succ_eq_append_getElem hlt, List.all_append]; simp)
      have HCK := Lib.hid (fun W => srright_any l[k] W)
      unfold stV stCells at HCK
      generalize l[k] = x at *
      cases hr : rightS x with
      | false =>
        rw [hr] at HCK
        have HE : Hid (wrongL l = 3) := Lib.hid (HBD.out hr)
        clear HBD HSN hr
        go_wp2_with (go_at_call 7; refine (HCK.out _).mono ?_; rintro e w1 ⟨rfl, hb⟩; have HB1 := Lib.hid (HB.out.trans (hb.mono HB.out.size)); clear hb)
        go_ret
        exact ⟨by rw [HE.out]; rfl, HB1.out⟩
      | true =>
        rw [hr] at HCK
        have HOK2 : Hid ((l.take (k + 1)).all rightS = true) := Lib.hid (by rw [HSN.out, HOK.out, hr]; rfl)
        clear HBD HSN hr
        go_wp2_with (go_at_call 7; refine (HCK.out _).mono ?_; rintro e w1 ⟨rfl, hb⟩; have HB1 := Lib.hid (HB.out.trans (hb.mono HB.out.size)); clear hb)
        go_roundw
        case rel => exact ⟨k + 1, by omega, by go_num, HOK2, HB1⟩
        case measure => simp [intOf]; omega
    · obtain rfl : k = l.length := by omega
      have HE : Hid (wrongL l = 0) := Lib.hid (by
        have h := HOK.out
        rw [List.take_length] at h
        unfold wrongL
        rw [if_neg (by omega), if_pos h])
      go_wp2_with fail
      go_ret
      exact ⟨by rw [HE.out]; rfl, HB.out⟩
end Go.Proofs.YtmplokdbbhlomaaGreatDoor

/-
  What complineref33.read comes to, over this seat's translation: a contract for callers. (Printed by gen_sr9.py.)
-/
namespace Go.Proofs.YtmplokdbbhlomaaGreatDoor
open Go.RowKit

/-- What the document's read leaves of the reader. -/
def rsOut (r : Rd) : Rd := ⟨(readS r).2.2.s, (readS r).2.1⟩
/-- The blocks of the document's read. -/
structure R33 (w : World) (g bb : Nat) (r : Rd) (x : St) (W : World) : Prop where
  r : RdAt W g r
  z : CsAt W w.heap.size (stCells zeroS)
  x : CsAt W bb (stCells x)
  lz : w.heap.size < W.heap.size
  lb : bb < W.heap.size
  g : w.grownBy W (some g)
theorem R33.below {w W W' : World} {g bb : Nat} {r : Rd} {x : St} (h : R33 w g bb r x W) (hb : Below W.heap.size W W') : R33 w g bb r x W' :=
  ⟨h.r.below hb, h.z.below h.lz hb, h.x.below h.lb hb, Nat.lt_of_lt_of_le h.lz hb.size, Nat.lt_of_lt_of_le h.lb hb.size, grown_belowS h.g hb⟩
theorem R33.read {w W W' : World} {g bb : Nat} {r r' : Rd} {x : St} (h : R33 w g bb r x W) (hg : W.grownBy W' (some g)) (hr : RdAt W' g r') (h1 : g < w.heap.size) (h2 : w.heap.size < bb) : R33 w g bb r' x W' :=
  ⟨hr, h.z.kept hg h.lz (fun e => by injection e with e; omega), h.x.kept hg h.lb (fun e => by injection e with e; omega), Nat.lt_of_lt_of_le h.lz hg.size, Nat.lt_of_lt_of_le h.lb hg.size, grown_twoS h.g hg⟩
theorem R33.setx {w W W' : World} {g bb : Nat} {r : Rd} {x x' : St} (h : R33 w g bb r x W) (hg : W.grownBy W' (some bb)) (hx : CsAt W' bb (stCells x')) (h1 : g < w.heap.size) (h2 : w.heap.size < bb) : R33 w g bb r x' W' :=
  ⟨h.r.kept hg (fun e => by injection e with e; omega), h.z.kept hg h.lz (fun e => by injection e with e; omega), hx, Nat.lt_of_lt_of_le h.lz hg.size, Nat.lt_of_lt_of_le h.lb hg.size, grown_newS h.g hg (by omega)⟩
theorem R33.sete {w W : World} {g bb : Nat} {r : Rd} {x : St} (h : R33 w g bb r x W) (e : Int) (h1 : g < w.heap.size) (h2 : w.heap.size < bb) : R33 w g bb ⟨r.s, e⟩ x (W.setCell ⟨g, 1, none⟩ (.int .i64 e)) :=
  h.read (grown_setS _ _ _ _) (h.r.setE e) h1 h2
theorem R33.setn {w W : World} {g bb : Nat} {r : Rd} {k n0 : Int} {c : Cm} (h : R33 w g bb r ⟨k, c, n0⟩ W) (n : Int) (h1 : g < w.heap.size) (h2 : w.heap.size < bb) : R33 w g bb r ⟨k, c, n⟩ (W.setCell ⟨bb, 8, none⟩ (.int .i64 n)) :=
  h.setx (grown_setS _ _ _ _) (by
    have h3 := h.x.set (i := 8) (by simp [stCells]) (.int .i64 n)
    simpa only [stCells, List.setIfInBounds_toArray, List.set_cons_zero, List.set_cons_succ] using h3) h1 h2
end Go.Proofs.YtmplokdbbhlomaaGreatDoor

/-
  What complineref33.Get and Same come to, over this seat's translation: contracts for callers.
-/
namespace Go.Proofs.YtmplokdbbhlomaaGreatDoor
open Go.RowKit

theorem readS_zero {r : Rd} (h : (readS r).2.1 = 0) : (readS r).2.2 = rsOut r := by
  have h1 := (readS_got h).2.2.1
  have hr : ∀ R : St × Int × Rd, R.2.1 = 0 → R.2.2.e = 0 → R.2.2 = Rd.mk R.2.2.s R.2.1 := by
    rintro ⟨_, _, ⟨_, _⟩⟩ h h'
    simp only at h h'
    rw [h, h']
  exact hr _ h h1
theorem readS_err {r : Rd} : (rsOut r).e = (readS r).2.1 := rfl
/-- Where the document's loop over a script is. -/
structure G33 (N : Nat) (T : List St × Int × Rd) (k : Nat) (acc : List St) (r : Rd) : Prop where
  ok : r.e = 0 → T = appL acc (readL (N - k) r)
  no : r.e ≠ 0 → T.2.1 = r.e
theorem G33.step {N k : Nat} {T : List St × Int × Rd} {acc : List St} {r : Rd} (h : G33 N T k acc r) (h0 : r.e = 0) (hk : k < N) : G33 N T (k + 1) (acc ++ [(readS r).1]) (rsOut r) := by
  have hm : N - k = (N - (k + 1)) + 1 := by omega
  have h1 := h.ok h0
  rw [hm] at h1
  refine ⟨fun he => ?_, fun he => ?_⟩
  · have he2 : (readS r).2.1 = 0 := he
    rw [h1, appL_ok he2, readS_zero he2]
  · have he2 : (readS r).2.1 ≠ 0 := he
    rw [h1, appL_bad he2]
    rfl
theorem rEnd_err {r : Rd} (h : r.e ≠ 0) : rEnd r = r.e := by
  unfold rEnd
  rw [if_neg (fun hh => h hh.1)]
end Go.Proofs.YtmplokdbbhlomaaGreatDoor

/-
  What complineref33.Same comes to, over this seat's translation: a contract for callers.
-/
namespace Go.Proofs.YtmplokdbbhlomaaGreatDoor
open Go.RowKit

instance : DecidableEq St := fun a b => by
  cases a; cases b
  simp only [St.mk.injEq]
  exact inferInstance
set_option maxHeartbeats 3200000 in
theorem eqS_run (a b : St) (w : World) : (Op.equalIn 10000 TSt (stV a) (stV b)).run Tryz.prog w = .ok (decide (a = b)) w := by
  obtain ⟨a7, ⟨a0, a1, a2, a3, a4, a5, a6⟩, a8⟩ := a
  obtain ⟨b7, ⟨b0, b1, b2, b3, b4, b5, b6⟩, b8⟩ := b
  unfold stV stCells
  have hd : decide (St.mk a7 (Cm.mk a0 a1 a2 a3 a4 a5 a6) a8 = St.mk b7 (Cm.mk b0 b1 b2 b3 b4 b5 b6) b8) = (a7 == b7 && ((a0 == b0 && (a1 == b1 && (a2 == b2 && (a3 == b3 && (a4 == b4 && (a5 == b5 && a6 == b6)))))) && a8 == b8)) := by
    by_cases h : St.mk a7 (Cm.mk a0 a1 a2 a3 a4 a5 a6) a8 = St.mk b7 (Cm.mk b0 b1 b2 b3 b4 b5 b6) b8
    · rw [decide_eq_true h]
      simp only [St.mk.injEq, Cm.mk.injEq] at h
      obtain ⟨rfl, ⟨rfl, rfl, rfl, rfl, rfl, rfl, rfl⟩, rfl⟩ := h
      simp
    · rw [decide_eq_false h]
      simp only [St.mk.injEq, Cm.mk.injEq] at h
      symm
      apply Bool.eq_false_iff.2
      intro h2
      simp at h2
      exact h ⟨h2.1, h2.2.1, h2.2.2⟩
  rw [hd]
  go_simp
  repeat' split
  all_goals simp [*]
theorem neqS_run (x y : St) (w : World) : (binOp .neq TSt (.agg #[.int .i64 x.k, .int .i64 x.c.k, .int .i64 x.c.i, .int .i64 x.c.m, .int .i64 x.c.o, .int .i64 x.c.s, .int .i64 x.c.q, .int .i64 x.c.p, .int .i64 x.n]) (.agg #[.int .i64 y.k, .int .i64 y.c.k, .int .i64 y.c.i, .int .i64 y.c.m, .int .i64 y.c.o, .int .i64 y.c.s, .int .i64 y.c.q, .int .i64 y.c.p, .int .i64 y.n])).run Tryz.prog w = .ok (.bool (!decide (x = y))) w := by
  rw [run_neq_struct]
  have h := eqS_run x y w
  unfold stV stCells at h
  rw [h]
  rfl
theorem take_same {a b : List St} {k : Nat} (ha : k < a.length) (hb : k < b.length) (h : a.take k = b.take k) (he : a[k] = b[k]) : a.take (k + 1) = b.take (k + 1) := by
  rw [List.take_succ_eq_append_getElem ha, List.take_succ_eq_append_getElem hb, h, he]
set_option maxRecDepth 100000 in
set_option maxHeartbeats 3200000 in
theorem rsame_any (a b : List St) (A B : Option Addr) (ca cb : Nat) (w : World) (ha : Seg w w.heap.size A (stRows a)) (hb : Seg w w.heap.size B (stRows b)) (hla : a.length ≤ 1000000) (hlb : b.length ≤ 1000000) : Calls Tryz.prog 16 #[.slice A a.length ca, .slice B b.length cb] w fun e w' => e = .returned (.bool (decide (a = b))) ∧ Below w.heap.size w w' := by
  have HA := Lib.hid ha
  have HBB := Lib.hid hb
  clear ha hb
  obtain ⟨R, HR⟩ : ∃ R, Hid (R = decide (a = b)) := ⟨_, Lib.hid rfl⟩
  rw [← HR.out]
  by_cases hl : a.length = b.length
  case neg =>
    have hne : ((a.length : Int) != (b.length : Int)) = true := by rw [bne_iff_ne]; omega
    have HE : Hid (R = false) := Lib.hid (by rw [HR.out]; exact decide_eq_false (fun h => hl (by rw [h])))
    clear hl
    go_enter Tryz.func16, Tryz.ntmps16
    go_wp2_with fail
    go_ret
    exact ⟨by rw [HE.out]; rfl, Below.refl _ _⟩
  have hne : ((a.length : Int) != (b.length : Int)) = false := by simp [hl]
  have HL := Lib.hid hl
  have hl1 : a.length ≤ b.length := by omega
  have hl2 : b.length ≤ a.length := by omega
  clear hl
  go_enter Tryz.func16, Tryz.ntmps16
  go_wp2_with fail
  go_loopw [5] (fun i wr => ∃ k : Nat, k ≤ a.length ∧ i = .int .i64 k ∧ Hid (a.take k = b.take k) ∧ Hid (Below w.heap.size w wr)) (fun i _ => a.length - (intOf i).toNat)
  case atStart => exact ⟨0, Nat.zero_le _, rfl, rfl, Below.refl _ _⟩
  case round =>
    obtain ⟨k, hk, rfl, HT, HB⟩ := hrel
    by_cases hlt : k < a.length
    · have hltb : k < b.length := by omega
      obtain ⟨b1, o1, rfl, hb1, e0, e1, e2, e3, e4, e5, e6, e7, e8⟩ := st_at (HA.out.below HB.out) hlt
      obtain ⟨b2, o2, rfl, hb2, f0, f1, f2, f3, f4, f5, f6, f7, f8⟩ := st_at (HBB.out.below HB.out) hltb
      have HTS := Lib.hid (take_same hlt hltb HT.out)
      have HNO : Hid (a[k] ≠ b[k] → R = false) := Lib.hid fun h => by rw [HR.out]; exact decide_eq_false (fun he => h (by subst he; rfl))
      have hrun := neqS_run a[k] b[k]
      generalize a[k] = x at *
      generalize b[k] = y at *
      have hk0 : (0 : Int) ≤ (k : Int) := by omega
      have hkb : (k : Int) < (a.length : Int) := by omega
      have hkc : (k : Int) < (b.length : Int) := by omega
      by_cases hxy : x = y
      · have hd : decide (x = y) = true := decide_eq_true hxy
        have HT2 := Lib.hid (HTS.out hxy)
        rw [hd] at hrun
        clear hxy HTS HNO hd
        go_wp2_with fail
        go_quiet (fail)
        have HBD : Hid (∀ n, Below w.heap.size w (wr.drewN n)) := Lib.hid fun n => below_drewN HB.out n
        go_wp2_with fail
        go_roundw
        case rel => exact ⟨k + 1, by omega, by go_num, HT2, HBD.out _⟩
        case measure => simp [intOf]; omega
      · have hd : decide (x = y) = false := decide_eq_false hxy
        have HE : Hid (R = false) := Lib.hid (HNO.out hxy)
        rw [hd] at hrun
        clear hxy HTS HNO hd
        go_wp2_with fail
        go_quiet (fail)
        have HBD : Hid (∀ n, Below w.heap.size w (wr.drewN n)) := Lib.hid fun n => below_drewN HB.out n
        go_wp2_with fail
        go_ret
        exact ⟨by rw [HE.out]; rfl, HBD.out _⟩
    · obtain rfl : k = a.length := by omega
      have HE : Hid (R = true) := Lib.hid (by
        have h := HT.out
        rw [List.take_length, List.take_of_length_le hl2] at h
        rw [HR.out]
        exact decide_eq_true h)
      go_wp2_with fail
      go_ret
      exact ⟨by rw [HE.out]; rfl, HB.out⟩
end Go.Proofs.YtmplokdbbhlomaaGreatDoor
