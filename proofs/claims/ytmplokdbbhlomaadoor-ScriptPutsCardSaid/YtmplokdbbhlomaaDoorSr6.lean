/-
  What complineref11.Read and Get come to, over this seat's translation: contracts for callers. (Printed by gen_sr6.py.)
-/
import Derived.Test.YtmplokdbbhlomaaDoorSr5
import Derived.Test.YtmplokdbbhlomaaDoorRegLast
import Derived.Deep.Cut
namespace Go.Proofs.YtmplokdbbhlomaaDoor
open Go.RowKit

/-- What the document's Read leaves of the reader. -/
def rdOut (r : Rd) : Rd := ⟨(readC r).2.2.s, (readC r).2.1⟩
theorem jsOf_rd (n : Int) (r : Rd) : rdJ (jsOf n) ⟨n, 0, 0, 0, 0, 0, 0⟩ r = rdF six ⟨n, 0, 0, 0, 0, 0, 0⟩ r := rdJ_all n six _ r rfl
/-- Where the loop of Read is. -/
structure R11 (w : World) (g b : Nat) (c : Cm) (r : Rd) (W : World) : Prop where
  z : CmAt W w.heap.size zeroC
  c : CmAt W b c
  r : RdAt W g r
  g : w.grownBy W (some g)
theorem R11.num {w W W' : World} {g b : Nat} {c : Cm} {r r' : Rd} (h : R11 w g b c r W) (hg : W.grownBy W' (some g)) (hr : RdAt W' g r') (h1 : g ≠ b) (h2 : g ≠ w.heap.size) : R11 w g b c r' W' :=
  ⟨h.z.kept hg (fun e => by injection e with e; omega), h.c.kept hg (fun e => by injection e with e; omega), hr, grown_twoS h.g hg⟩
theorem R11.below {w W W' : World} {g b : Nat} {c : Cm} {r : Rd} (h : R11 w g b c r W) (hb : Below W.heap.size W W') : R11 w g b c r W' :=
  ⟨h.z.below hb, h.c.below hb, h.r.below hb, grown_belowS h.g hb⟩
theorem R11.setc {w W W' : World} {g b : Nat} {c c' : Cm} {r : Rd} (h : R11 w g b c r W) (hg : W.grownBy W' (some b)) (hc : CmAt W' b c') (h1 : g ≠ b) (h3 : w.heap.size < b) : R11 w g b c' r W' :=
  ⟨h.z.kept hg (fun e => by injection e with e; omega), hc, h.r.kept hg (fun e => by injection e with e; omega), grown_newS h.g hg (by omega)⟩
set_option maxRecDepth 100000 in
set_option maxHeartbeats 12800000 in
theorem rread_any (g : Nat) (r : Rd) (w : World) (h : RdAt w g r) : Calls Tryd.prog 67 #[.pointer (some ⟨g, 0, none⟩)] w fun e w' => e = .returned (cmV (readC r).1) ∧ RdAt w' g (rdOut r) ∧ w.grownBy w' (some g) := by
  have hgl := h.lt
  have HB0 : Hid (Below w.heap.size w (w.alloc (.cells (cmCells zeroC) TC))) := Lib.hid ((Below.refl _ _).alloc (Nat.le_refl _) _)
  have HZ := Lib.hid (CmAt.made w zeroC)
  have HR0 := Lib.hid (h.below HB0.out)
  have hz0 : (w.alloc (.cells (cmCells zeroC) TC)).heap.size = w.heap.size + 1 := by simp
  obtain ⟨T, HT⟩ : ∃ T, Hid (T = (readC r).1) := ⟨_, Lib.hid rfl⟩
  obtain ⟨Q, HQ⟩ : ∃ Q, Hid (Q = rdOut r) := ⟨_, Lib.hid rfl⟩
  rw [← HT.out, ← HQ.out]
  clear h
  rw [zero_cells] at HB0 HZ HR0 hz0
  unfold cmV
  go_enter Tryd.func67, Tryd.ntmps67
  go_wp2_with fail
  have HZL := Lib.hid hz0
  clear hz0
  generalize w.alloc (.cells #[.int .i64 0, .int .i64 0, .int .i64 0, .int .i64 0, .int .i64 0, .int .i64 0, .int .i64 0] TC) = w0 at *
  refine (rnum_any g r w0 HR0.out).mono ?_
  rintro e w1 ⟨rfl, hr1, hg1⟩
  have HR1 := Lib.hid hr1
  have HG1 : Hid (w.grownBy w1 (some g)) := Lib.hid (grown_twoS (grown_toS HB0.out g) hg1)
  have HZ1 := Lib.hid (HZ.out.kept hg1 (fun e => by injection e with e; omega))
  have hw1 : w.heap.size < w1.heap.size := HZ1.out.lt
  clear hr1 hg1
  have HTC : Hid (readC r = if (rNum r).2.e = 0 then (if isK (rNum r).1 then (if (rdJ (jsOf (rNum r).1) ⟨(rNum r).1, 0, 0, 0, 0, 0, 0⟩ (rNum r).2).2.e = 0 then ((rdJ (jsOf (rNum r).1) ⟨(rNum r).1, 0, 0, 0, 0, 0, 0⟩ (rNum r).2).1, 0, (rdJ (jsOf (rNum r).1) ⟨(rNum r).1, 0, 0, 0, 0, 0, 0⟩ (rNum r).2).2) else (zeroC, (rdJ (jsOf (rNum r).1) ⟨(rNum r).1, 0, 0, 0, 0, 0, 0⟩ (rNum r).2).2.e, (rdJ (jsOf (rNum r).1) ⟨(rNum r).1, 0, 0, 0, 0, 0, 0⟩ (rNum r).2).2)) else (zeroC, 3, (rNum r).2)) else (zeroC, (rNum r).2.e, (rNum r).2)) := Lib.hid (by rw [jsOf_rd]; rfl)
  generalize rNum r = U at *
  obtain ⟨n, r1⟩ := U
  simp only at HTC HR1 ⊢
  have HC2 := Lib.hid (CmAt.made w1 ⟨n, 0, 0, 0, 0, 0, 0⟩)
  have HB2 : Hid (Below w1.heap.size w1 (w1.alloc (.cells (cmCells ⟨n, 0, 0, 0, 0, 0, 0⟩) TC))) := Lib.hid ((Below.refl _ _).alloc (Nat.le_refl _) _)
  have HI2 : Hid (R11 w g w1.heap.size ⟨n, 0, 0, 0, 0, 0, 0⟩ r1 (w1.alloc (.cells (cmCells ⟨n, 0, 0, 0, 0, 0, 0⟩) TC))) := Lib.hid ⟨HZ1.out.below HB2.out, HC2.out, HR1.out.below HB2.out, grown_belowS HG1.out HB2.out⟩
  have hcn : cmCells ⟨n, 0, 0, 0, 0, 0, 0⟩ = #[.int .i64 n, .int .i64 0, .int .i64 0, .int .i64 0, .int .i64 0, .int .i64 0, .int .i64 0] := rfl
  rw [hcn] at HI2
  clear hcn HC2 HB2 HB0 HZ HR0 HZ1 HG1 HZL
  have hne : g ≠ w1.heap.size := by have := HR1.out.lt; omega
  have e1 := HI2.out.r.c1
  have ef := HI2.out.r.fz
  have zf := HI2.out.z.fz
  have c0 : (w1.alloc (.cells #[.int .i64 n, .int .i64 0, .int .i64 0, .int .i64 0, .int .i64 0, .int .i64 0, .int .i64 0] TC)).cell? ⟨w1.heap.size, 0, none⟩ = some (.int .i64 n) := HI2.out.c.cell 0
  have z0 : (w1.alloc (.cells #[.int .i64 n, .int .i64 0, .int .i64 0, .int .i64 0, .int .i64 0, .int .i64 0, .int .i64 0] TC)).cell? ⟨w.heap.size, 0, none⟩ = some (.int .i64 0) := HI2.out.z.cell 0
  have z1 : (w1.alloc (.cells #[.int .i64 n, .int .i64 0, .int .i64 0, .int .i64 0, .int .i64 0, .int .i64 0, .int .i64 0] TC)).cell? ⟨w.heap.size, 1, none⟩ = some (.int .i64 0) := HI2.out.z.cell 1
  have z2 : (w1.alloc (.cells #[.int .i64 n, .int .i64 0, .int .i64 0, .int .i64 0, .int .i64 0, .int .i64 0, .int .i64 0] TC)).cell? ⟨w.heap.size, 2, none⟩ = some (.int .i64 0) := HI2.out.z.cell 2
  have z3 : (w1.alloc (.cells #[.int .i64 n, .int .i64 0, .int .i64 0, .int .i64 0, .int .i64 0, .int .i64 0, .int .i64 0] TC)).cell? ⟨w.heap.size, 3, none⟩ = some (.int .i64 0) := HI2.out.z.cell 3
  have z4 : (w1.alloc (.cells #[.int .i64 n, .int .i64 0, .int .i64 0, .int .i64 0, .int .i64 0, .int .i64 0, .int .i64 0] TC)).cell? ⟨w.heap.size, 4, none⟩ = some (.int .i64 0) := HI2.out.z.cell 4
  have z5 : (w1.alloc (.cells #[.int .i64 n, .int .i64 0, .int .i64 0, .int .i64 0, .int .i64 0, .int .i64 0, .int .i64 0] TC)).cell? ⟨w.heap.size, 5, none⟩ = some (.int .i64 0) := HI2.out.z.cell 5
  have z6 : (w1.alloc (.cells #[.int .i64 n, .int .i64 0, .int .i64 0, .int .i64 0, .int .i64 0, .int .i64 0, .int .i64 0] TC)).cell? ⟨w.heap.size, 6, none⟩ = some (.int .i64 0) := HI2.out.z.cell 6
  have hbs : w1.heap.size < (w1.alloc (.cells #[.int .i64 n, .int .i64 0, .int .i64 0, .int .i64 0, .int .i64 0, .int .i64 0, .int .i64 0] TC)).heap.size := by simp
  obtain ⟨w2, hw2⟩ : ∃ w2, w2 = (w1.alloc (.cells #[.int .i64 n, .int .i64 0, .int .i64 0, .int .i64 0, .int .i64 0, .int .i64 0, .int .i64 0] TC)) := ⟨_, rfl⟩
  rw [← hw2] at HI2 c0 z0 z1 z2 z3 z4 z5 z6 e1 ef zf hbs
  have HW2 := Lib.hid hw2
  clear hw2
  go_upto_region 2 with fail
  rw [← HW2.out]
  clear HW2
  generalize w1.heap.size = bb at *
  by_cases h0 : r1.e = 0
  case neg =>
    have hb : (r1.e != 0) = true := by simpa using h0
    have HT2 : Hid (T = zeroC ∧ Q = r1) := Lib.hid ⟨by rw [HT.out, HTC.out, if_neg h0], by rw [HQ.out]; unfold rdOut; rw [HTC.out, if_neg h0]⟩
    go_wp2_with fail
    have HZZ := Lib.hid HI2.out.z
    obtain ⟨hov, hgv⟩ := HZZ.out.over zeroC
    obtain ⟨W5, hW5⟩ : ∃ W5, W5 = (World.setCell (World.setCell (World.setCell (World.setCell (World.setCell (World.setCell (World.setCell w2 ⟨w.heap.size, 0, none⟩ (.int .i64 0)) ⟨w.heap.size, 1, none⟩ (.int .i64 0)) ⟨w.heap.size, 2, none⟩ (.int .i64 0)) ⟨w.heap.size, 3, none⟩ (.int .i64 0)) ⟨w.heap.size, 4, none⟩ (.int .i64 0)) ⟨w.heap.size, 5, none⟩ (.int .i64 0)) ⟨w.heap.size, 6, none⟩ (.int .i64 0)) := ⟨_, rfl⟩
    have HOV : Hid (CmAt W5 w.heap.size zeroC) := Lib.hid (by rw [hW5]; exact hov)
    have HGV : Hid (w2.grownBy W5 (some w.heap.size)) := Lib.hid (by rw [hW5]; exact hgv)
    rw [← hW5]
    clear hov hgv hW5
    have y0 : W5.cell? ⟨w.heap.size, 0, none⟩ = some (.int .i64 0) := HOV.out.cell 0
    have y1 : W5.cell? ⟨w.heap.size, 1, none⟩ = some (.int .i64 0) := HOV.out.cell 1
    have y2 : W5.cell? ⟨w.heap.size, 2, none⟩ = some (.int .i64 0) := HOV.out.cell 2
    have y3 : W5.cell? ⟨w.heap.size, 3, none⟩ = some (.int .i64 0) := HOV.out.cell 3
    have y4 : W5.cell? ⟨w.heap.size, 4, none⟩ = some (.int .i64 0) := HOV.out.cell 4
    have y5 : W5.cell? ⟨w.heap.size, 5, none⟩ = some (.int .i64 0) := HOV.out.cell 5
    have y6 : W5.cell? ⟨w.heap.size, 6, none⟩ = some (.int .i64 0) := HOV.out.cell 6
    refine bodyPost_ret (v := .agg #[.int .i64 0, .int .i64 0, .int .i64 0, .int .i64 0, .int .i64 0, .int .i64 0, .int .i64 0]) (by simp [results, Tryd.results67, go_sem, y0, y1, y2, y3, y4, y5, y6]) rfl ?_
    rw [HT2.out.1, HT2.out.2]; exact ⟨rfl, (HI2.out.r.kept HGV.out (fun e => by injection e with e; omega)), grown_newS HI2.out.g HGV.out (Nat.le_refl _)⟩
  have hb : (r1.e != 0) = false := by simpa using h0
  have HTD : Hid (readC r = if isK n then (if (rdJ (jsOf n) ⟨n, 0, 0, 0, 0, 0, 0⟩ r1).2.e = 0 then ((rdJ (jsOf n) ⟨n, 0, 0, 0, 0, 0, 0⟩ r1).1, 0, (rdJ (jsOf n) ⟨n, 0, 0, 0, 0, 0, 0⟩ r1).2) else (zeroC, (rdJ (jsOf n) ⟨n, 0, 0, 0, 0, 0, 0⟩ r1).2.e, (rdJ (jsOf n) ⟨n, 0, 0, 0, 0, 0, 0⟩ r1).2)) else (zeroC, 3, r1)) := Lib.hid (by rw [HTC.out, if_pos h0])
  clear HTC
  have HH := Lib.hid (fun W => rhas_any n W)
  have hq0 := letters_nonel (k := n)
  cases hk : isK n with
  | false =>
    have hq1 : (lettersOf n == [63]) = true := by rw [hq0, hk]; rfl
    have HT2 : Hid (T = zeroC ∧ Q = ⟨r1.s, 3⟩) := Lib.hid ⟨by rw [HT.out, HTD.out, hk, if_neg (by simp)], by rw [HQ.out]; unfold rdOut; rw [HTD.out, hk, if_neg (by simp)]⟩
    clear hq0 hk HTD
    generalize lettersOf n = ls at *
    go_wp2_with fail
    refine (HH.out _).mono ?_
    rintro e w3 ⟨rfl, hb3⟩
    have HI3 := Lib.hid (HI2.out.below hb3)
    clear hb3 c0 z0 z1 z2 z3 z4 z5 z6 e1 ef zf
    have e1 : w3.cell? ⟨g, 1, none⟩ = some (.int .i64 r1.e) := HI3.out.r.c1
    have ef := HI3.out.r.fz
    have zf := HI3.out.z.fz
    have z0 : w3.cell? ⟨w.heap.size, 0, none⟩ = some (.int .i64 0) := HI3.out.z.cell 0
    have z1 : w3.cell? ⟨w.heap.size, 1, none⟩ = some (.int .i64 0) := HI3.out.z.cell 1
    have z2 : w3.cell? ⟨w.heap.size, 2, none⟩ = some (.int .i64 0) := HI3.out.z.cell 2
    have z3 : w3.cell? ⟨w.heap.size, 3, none⟩ = some (.int .i64 0) := HI3.out.z.cell 3
    have z4 : w3.cell? ⟨w.heap.size, 4, none⟩ = some (.int .i64 0) := HI3.out.z.cell 4
    have z5 : w3.cell? ⟨w.heap.size, 5, none⟩ = some (.int .i64 0) := HI3.out.z.cell 5
    have z6 : w3.cell? ⟨w.heap.size, 6, none⟩ = some (.int .i64 0) := HI3.out.z.cell 6
    have hgw : g ≠ w.heap.size := by omega
    have HIE : Hid (R11 w g bb ⟨n, 0, 0, 0, 0, 0, 0⟩ ⟨r1.s, 3⟩ (w3.setCell ⟨g, 1, none⟩ (.int .i64 3))) := Lib.hid (HI3.out.num (grown_setS _ _ _ _) (HI3.out.r.setE 3) hne hgw)
    go_wp2_with fail
    have HI4 := Lib.hid HIE.out
    clear HIE e1 ef zf z0 z1 z2 z3 z4 z5 z6
    generalize (w3.setCell ⟨g, 1, none⟩ (.int .i64 3)) = w4 at *
    have HZZ := Lib.hid HI4.out.z
    obtain ⟨hov, hgv⟩ := HZZ.out.over zeroC
    obtain ⟨W5, hW5⟩ : ∃ W5, W5 = (World.setCell (World.setCell (World.setCell (World.setCell (World.setCell (World.setCell (World.setCell w4 ⟨w.heap.size, 0, none⟩ (.int .i64 0)) ⟨w.heap.size, 1, none⟩ (.int .i64 0)) ⟨w.heap.size, 2, none⟩ (.int .i64 0)) ⟨w.heap.size, 3, none⟩ (.int .i64 0)) ⟨w.heap.size, 4, none⟩ (.int .i64 0)) ⟨w.heap.size, 5, none⟩ (.int .i64 0)) ⟨w.heap.size, 6, none⟩ (.int .i64 0)) := ⟨_, rfl⟩
    have HOV : Hid (CmAt W5 w.heap.size zeroC) := Lib.hid (by rw [hW5]; exact hov)
    have HGV : Hid (w4.grownBy W5 (some w.heap.size)) := Lib.hid (by rw [hW5]; exact hgv)
    rw [← hW5]
    clear hov hgv hW5
    have y0 : W5.cell? ⟨w.heap.size, 0, none⟩ = some (.int .i64 0) := HOV.out.cell 0
    have y1 : W5.cell? ⟨w.heap.size, 1, none⟩ = some (.int .i64 0) := HOV.out.cell 1
    have y2 : W5.cell? ⟨w.heap.size, 2, none⟩ = some (.int .i64 0) := HOV.out.cell 2
    have y3 : W5.cell? ⟨w.heap.size, 3, none⟩ = some (.int .i64 0) := HOV.out.cell 3
    have y4 : W5.cell? ⟨w.heap.size, 4, none⟩ = some (.int .i64 0) := HOV.out.cell 4
    have y5 : W5.cell? ⟨w.heap.size, 5, none⟩ = some (.int .i64 0) := HOV.out.cell 5
    have y6 : W5.cell? ⟨w.heap.size, 6, none⟩ = some (.int .i64 0) := HOV.out.cell 6
    refine bodyPost_ret (v := .agg #[.int .i64 0, .int .i64 0, .int .i64 0, .int .i64 0, .int .i64 0, .int .i64 0, .int .i64 0]) (by simp [results, Tryd.results67, go_sem, y0, y1, y2, y3, y4, y5, y6]) rfl ?_
    rw [HT2.out.1, HT2.out.2]; exact ⟨rfl, (HI4.out.r.kept HGV.out (fun e => by injection e with e; omega)), grown_newS HI4.out.g HGV.out (Nat.le_refl _)⟩
  | true =>
    have hq1 : (lettersOf n == [63]) = false := by rw [hq0, hk]; rfl
    have HAT : Hid (∀ i (hi : i < (jsOf n).length) (hb : i < (bs (lettersOf n)).size), ∃ x, (bs (lettersOf n))[i]'hb = x ∧ x.toNat = lett ((jsOf n)[i])) := Lib.hid fun i hi _ => letters_at hk hi
    have hlen : (bs (lettersOf n)).size = (jsOf n).length := by rw [bs_size, letters_len hk]
    have hl6 := jsOf_len n
    have HJL := Lib.hid (fun i (hi : i < (jsOf n).length) => jsOf_lt (k := n) (List.getElem_mem hi))
    have HST := Lib.hid (fun i (hi : i < (jsOf n).length) => rdJ_step ⟨n, 0, 0, 0, 0, 0, 0⟩ r1 (jsOf n) hi)
    have HTE : Hid (readC r = if (rdJ (jsOf n) ⟨n, 0, 0, 0, 0, 0, 0⟩ r1).2.e = 0 then ((rdJ (jsOf n) ⟨n, 0, 0, 0, 0, 0, 0⟩ r1).1, 0, (rdJ (jsOf n) ⟨n, 0, 0, 0, 0, 0, 0⟩ r1).2) else (zeroC, (rdJ (jsOf n) ⟨n, 0, 0, 0, 0, 0, 0⟩ r1).2.e, (rdJ (jsOf n) ⟨n, 0, 0, 0, 0, 0, 0⟩ r1).2)) := Lib.hid (by rw [HTD.out, hk, if_pos rfl])
    clear hq0 hk HTD
    generalize lettersOf n = ls at *
    go_wp2_with fail
    refine (HH.out _).mono ?_
    rintro e w3 ⟨rfl, hb3⟩
    have HI3 := Lib.hid (HI2.out.below hb3)
    have hgw : g ≠ w.heap.size := by omega
    clear hb3 c0 z0 z1 z2 z3 z4 z5 z6 e1 ef zf HI2
    go_wp2_with fail
    go_loopw [5] (fun i wr => ∃ k : Nat, k ≤ (jsOf n).length ∧ i = .int .i64 k ∧ Hid (R11 w g bb (rdJ ((jsOf n).take k) ⟨n, 0, 0, 0, 0, 0, 0⟩ r1).1 (rdJ ((jsOf n).take k) ⟨n, 0, 0, 0, 0, 0, 0⟩ r1).2 wr)) (fun i _ => (jsOf n).length - (intOf i).toNat)
    case atStart => exact ⟨0, Nat.zero_le _, rfl, HI3⟩
    case round =>
      obtain ⟨k, hk, rfl, HIk⟩ := hrel
      by_cases hlt : k < (jsOf n).length
      · have hkb : k < (bs ls).size := by rw [hlen]; exact hlt
        have hge : decide ((k : Int) < ((jsOf n).length : Int)) = true := decide_eq_true (by omega)
        obtain ⟨x, hx, hxl⟩ := HAT.out k hlt hkb
        have HST2 := Lib.hid (HST.out k hlt)
        have hj := HJL.out k hlt
        clear HAT HJL HST
        generalize (jsOf n)[k] = j at *
        generalize (jsOf n).length = m at *
        generalize rdJ ((jsOf n).take k) ⟨n, 0, 0, 0, 0, 0, 0⟩ r1 = DR at *
        obtain ⟨D, r2⟩ := DR
        simp only at HIk HST2
        have HNU := Lib.hid (fun W hW => rnum_any g r2 W hW)
        generalize rNum r2 = NR at *
        obtain ⟨y, r3⟩ := NR
        simp only at HNU HST2
        have HWI := Lib.hid (fun W => with_any D j hj y W)
        unfold cmV at HWI
        have HID : Hid (R11 w g bb D r2 wr.drew) := Lib.hid (HIk.out.below (Below.refl _ _).drew)
        obtain ⟨G, HG⟩ : ∃ G, Hid (G = D.set j y) := ⟨_, Lib.hid rfl⟩
        rw [← HG.out] at HWI HST2
        clear HG
        generalize lett j = lj at *
        clear HIk
        go_wp2_with fail
        refine wp_region_last (S := fun W => W.cell? ⟨bb, 0, none⟩ = some (.int .i64 D.k) ∧ W.cell? ⟨bb, 1, none⟩ = some (.int .i64 D.i) ∧ W.cell? ⟨bb, 2, none⟩ = some (.int .i64 D.m) ∧ W.cell? ⟨bb, 3, none⟩ = some (.int .i64 D.o) ∧ W.cell? ⟨bb, 4, none⟩ = some (.int .i64 D.s) ∧ W.cell? ⟨bb, 5, none⟩ = some (.int .i64 D.q) ∧ W.cell? ⟨bb, 6, none⟩ = some (.int .i64 D.p)) 7 (by kernel_rfl) ⟨HID.out.c.cell 0, HID.out.c.cell 1, HID.out.c.cell 2, HID.out.c.cell 3, HID.out.c.cell 4, HID.out.c.cell 5, HID.out.c.cell 6⟩ (fun hHeld => ?_)
        generalize wr.drew = w4 at *
        refine wpAnyL_take (i := 0) (v := .agg #[.int .i64 D.k, .int .i64 D.i, .int .i64 D.m, .int .i64 D.o, .int .i64 D.s, .int .i64 D.q, .int .i64 D.p]) rfl (by kernel_rfl) (by kernel_rfl) (by kernel_rfl) (by kernel_rfl) (by kernel_rfl) (fun _ _ _ h => h) (Or.inl ⟨by rfl, fun w' hSw => by obtain ⟨s0, s1, s2, s3, s4, s5, s6⟩ := hSw; go_simp⟩) hHeld ?_
        refine wpAnyL_take (i := 1) (v := .string (bs ls)) rfl (by kernel_rfl) (by kernel_rfl) (by kernel_rfl) (by kernel_rfl) (by kernel_rfl) (fun _ _ _ h => h) (Or.inl ⟨by rfl, fun w' hSw => by obtain ⟨s0, s1, s2, s3, s4, s5, s6⟩ := hSw; go_simp⟩) hHeld ?_
        refine wpAnyL_take (i := 2) (v := .int .i64 (k : Int)) rfl (by kernel_rfl) (by kernel_rfl) (by kernel_rfl) (by kernel_rfl) (by kernel_rfl) (fun _ _ _ h => h) (Or.inl ⟨by rfl, fun w' hSw => by obtain ⟨s0, s1, s2, s3, s4, s5, s6⟩ := hSw; go_simp⟩) hHeld ?_
        refine wpAnyL_take (i := 3) (v := .int .u8 (lj : Int)) rfl (by kernel_rfl) (by kernel_rfl) (by kernel_rfl) (by kernel_rfl) (by kernel_rfl) (fun _ _ _ h => h) (Or.inl ⟨by rfl, fun w' hSw => by obtain ⟨s0, s1, s2, s3, s4, s5, s6⟩ := hSw; go_simp⟩) hHeld ?_
        refine wpAnyL_take (i := 4) (v := .pointer (some ⟨g, 0, none⟩)) rfl (by kernel_rfl) (by kernel_rfl) (by kernel_rfl) (by kernel_rfl) (by kernel_rfl) (fun _ _ _ h => h) (Or.inl ⟨by rfl, fun w' hSw => by obtain ⟨s0, s1, s2, s3, s4, s5, s6⟩ := hSw; go_simp⟩) hHeld ?_
        clear hHeld
        refine wpAnyL_ready (rs := [5]) (by kernel_rfl) (by simp) ?_
        refine AllReadyL.cons rfl (fun K hK => ?_) AllReadyL.nil
        go_simp
        go_at_call 47
        refine (HNU.out _ HID.out.r).mono ?_
        rintro e w5 ⟨rfl, hr5, hg5⟩
        have HI5 := Lib.hid (HID.out.num hg5 hr5 hne hgw)
        clear hr5 hg5
        go_wp2_with fail
        refine hK.out _ _ (fun _ => ⟨HI5.out.c.cell 0, HI5.out.c.cell 1, HI5.out.c.cell 2, HI5.out.c.cell 3, HI5.out.c.cell 4, HI5.out.c.cell 5, HI5.out.c.cell 6⟩) (fun _ => ?_)
        clear hK K
        refine wpAnyL_ready (rs := [6]) (by kernel_rfl) (by simp) ?_
        refine AllReadyL.cons rfl (fun K hK => ?_) AllReadyL.nil
        go_simp
        go_at_call 54
        refine (HWI.out _).mono ?_
        rintro e w6 ⟨rfl, hb6⟩
        have HI6 := Lib.hid (HI5.out.below hb6)
        clear hb6
        go_wp2_with fail
        refine hK.out _ _ (fun _ => ⟨HI6.out.c.cell 0, HI6.out.c.cell 1, HI6.out.c.cell 2, HI6.out.c.cell 3, HI6.out.c.cell 4, HI6.out.c.cell 5, HI6.out.c.cell 6⟩) (fun _ => ?_)
        clear hK K
        have HOV := Lib.hid (HI6.out.c.over G)
        have HI7 := Lib.hid (HI6.out.setc HOV.out.2 HOV.out.1 hne (by omega))
        have d0 : w6.cell? ⟨bb, 0, none⟩ = some (.int .i64 D.k) := HI6.out.c.cell 0
        have d1 : w6.cell? ⟨bb, 1, none⟩ = some (.int .i64 D.i) := HI6.out.c.cell 1
        have d2 : w6.cell? ⟨bb, 2, none⟩ = some (.int .i64 D.m) := HI6.out.c.cell 2
        have d3 : w6.cell? ⟨bb, 3, none⟩ = some (.int .i64 D.o) := HI6.out.c.cell 3
        have d4 : w6.cell? ⟨bb, 4, none⟩ = some (.int .i64 D.s) := HI6.out.c.cell 4
        have d5 : w6.cell? ⟨bb, 5, none⟩ = some (.int .i64 D.q) := HI6.out.c.cell 5
        have d6 : w6.cell? ⟨bb, 6, none⟩ = some (.int .i64 D.p) := HI6.out.c.cell 6
        have hfz := HI6.out.c.fz
        refine wpAnyL_ready (rs := [7]) (by kernel_rfl) (by simp) ?_
        refine AllReadyL.cons rfl (fun K hK => ?_) AllReadyL.nil
        go_simp
        refine hK.out _ _ (fun h => absurd rfl h) (fun _ => ?_)
        clear hK K d0 d1 d2 d3 d4 d5 d6 hfz HOV
        refine wpAnyL_done (by kernel_rfl) ?_ _
        generalize ((World.setCell (World.setCell (World.setCell (World.setCell (World.setCell (World.setCell (World.setCell w6 ⟨bb, 0, none⟩ (.int .i64 G.k)) ⟨bb, 1, none⟩ (.int .i64 G.i)) ⟨bb, 2, none⟩ (.int .i64 G.m)) ⟨bb, 3, none⟩ (.int .i64 G.o)) ⟨bb, 4, none⟩ (.int .i64 G.s)) ⟨bb, 5, none⟩ (.int .i64 G.q)) ⟨bb, 6, none⟩ (.int .i64 G.p))) = w7 at *
        go_wp2_with fail
        go_roundw
        case rel => exact ⟨k + 1, by omega, by go_num, by rw [HST2.out]; exact HI7⟩
        case measure => simp [intOf]; omega
      · obtain rfl : k = (jsOf n).length := by omega
        rw [List.take_length] at HIk
        clear HAT HJL HST
        generalize rdJ (jsOf n) ⟨n, 0, 0, 0, 0, 0, 0⟩ r1 = DR at *
        obtain ⟨D, r2⟩ := DR
        simp only at HIk HTE
        have e1 : wr.cell? ⟨g, 1, none⟩ = some (.int .i64 r2.e) := HIk.out.r.c1
        have zf := HIk.out.z.fz
        have z0 : wr.cell? ⟨w.heap.size, 0, none⟩ = some (.int .i64 0) := HIk.out.z.cell 0
        have z1 : wr.cell? ⟨w.heap.size, 1, none⟩ = some (.int .i64 0) := HIk.out.z.cell 1
        have z2 : wr.cell? ⟨w.heap.size, 2, none⟩ = some (.int .i64 0) := HIk.out.z.cell 2
        have z3 : wr.cell? ⟨w.heap.size, 3, none⟩ = some (.int .i64 0) := HIk.out.z.cell 3
        have z4 : wr.cell? ⟨w.heap.size, 4, none⟩ = some (.int .i64 0) := HIk.out.z.cell 4
        have z5 : wr.cell? ⟨w.heap.size, 5, none⟩ = some (.int .i64 0) := HIk.out.z.cell 5
        have z6 : wr.cell? ⟨w.heap.size, 6, none⟩ = some (.int .i64 0) := HIk.out.z.cell 6
        have d0 : wr.cell? ⟨bb, 0, none⟩ = some (.int .i64 D.k) := HIk.out.c.cell 0
        have d1 : wr.cell? ⟨bb, 1, none⟩ = some (.int .i64 D.i) := HIk.out.c.cell 1
        have d2 : wr.cell? ⟨bb, 2, none⟩ = some (.int .i64 D.m) := HIk.out.c.cell 2
        have d3 : wr.cell? ⟨bb, 3, none⟩ = some (.int .i64 D.o) := HIk.out.c.cell 3
        have d4 : wr.cell? ⟨bb, 4, none⟩ = some (.int .i64 D.s) := HIk.out.c.cell 4
        have d5 : wr.cell? ⟨bb, 5, none⟩ = some (.int .i64 D.q) := HIk.out.c.cell 5
        have d6 : wr.cell? ⟨bb, 6, none⟩ = some (.int .i64 D.p) := HIk.out.c.cell 6
        by_cases h2 : r2.e = 0
        case neg =>
          have hb2 : (r2.e != 0) = true := by simpa using h2
          have HT2 : Hid (T = zeroC ∧ Q = r2) := Lib.hid ⟨by rw [HT.out, HTE.out, if_neg h2], by rw [HQ.out]; unfold rdOut; rw [HTE.out, if_neg h2]⟩
          go_wp2_with fail
          have HZZ := Lib.hid HIk.out.z
          obtain ⟨hov, hgv⟩ := HZZ.out.over zeroC
          obtain ⟨W5, hW5⟩ : ∃ W5, W5 = (World.setCell (World.setCell (World.setCell (World.setCell (World.setCell (World.setCell (World.setCell wr ⟨w.heap.size, 0, none⟩ (.int .i64 0)) ⟨w.heap.size, 1, none⟩ (.int .i64 0)) ⟨w.heap.size, 2, none⟩ (.int .i64 0)) ⟨w.heap.size, 3, none⟩ (.int .i64 0)) ⟨w.heap.size, 4, none⟩ (.int .i64 0)) ⟨w.heap.size, 5, none⟩ (.int .i64 0)) ⟨w.heap.size, 6, none⟩ (.int .i64 0)) := ⟨_, rfl⟩
          have HOV : Hid (CmAt W5 w.heap.size zeroC) := Lib.hid (by rw [hW5]; exact hov)
          have HGV : Hid (wr.grownBy W5 (some w.heap.size)) := Lib.hid (by rw [hW5]; exact hgv)
          rw [← hW5]
          clear hov hgv hW5
          have y0 : W5.cell? ⟨w.heap.size, 0, none⟩ = some (.int .i64 0) := HOV.out.cell 0
          have y1 : W5.cell? ⟨w.heap.size, 1, none⟩ = some (.int .i64 0) := HOV.out.cell 1
          have y2 : W5.cell? ⟨w.heap.size, 2, none⟩ = some (.int .i64 0) := HOV.out.cell 2
          have y3 : W5.cell? ⟨w.heap.size, 3, none⟩ = some (.int .i64 0) := HOV.out.cell 3
          have y4 : W5.cell? ⟨w.heap.size, 4, none⟩ = some (.int .i64 0) := HOV.out.cell 4
          have y5 : W5.cell? ⟨w.heap.size, 5, none⟩ = some (.int .i64 0) := HOV.out.cell 5
          have y6 : W5.cell? ⟨w.heap.size, 6, none⟩ = some (.int .i64 0) := HOV.out.cell 6
          refine bodyPost_ret (v := .agg #[.int .i64 0, .int .i64 0, .int .i64 0, .int .i64 0, .int .i64 0, .int .i64 0, .int .i64 0]) (by simp [results, Tryd.results67, go_sem, y0, y1, y2, y3, y4, y5, y6]) rfl ?_
          rw [HT2.out.1, HT2.out.2]; exact ⟨rfl, (HIk.out.r.kept HGV.out (fun e => by injection e with e; omega)), grown_newS HIk.out.g HGV.out (Nat.le_refl _)⟩
        have hb2 : (r2.e != 0) = false := by simpa using h2
        have HT2 : Hid (T = D ∧ Q = r2) := Lib.hid ⟨by rw [HT.out, HTE.out, if_pos h2], by rw [HQ.out]; unfold rdOut; rw [HTE.out, if_pos h2, ← h2]⟩
        clear h2
        go_wp2_with fail
        have HZZ := Lib.hid HIk.out.z
        obtain ⟨hov, hgv⟩ := HZZ.out.over D
        obtain ⟨W5, hW5⟩ : ∃ W5, W5 = (World.setCell (World.setCell (World.setCell (World.setCell (World.setCell (World.setCell (World.setCell wr ⟨w.heap.size, 0, none⟩ (.int .i64 D.k)) ⟨w.heap.size, 1, none⟩ (.int .i64 D.i)) ⟨w.heap.size, 2, none⟩ (.int .i64 D.m)) ⟨w.heap.size, 3, none⟩ (.int .i64 D.o)) ⟨w.heap.size, 4, none⟩ (.int .i64 D.s)) ⟨w.heap.size, 5, none⟩ (.int .i64 D.q)) ⟨w.heap.size, 6, none⟩ (.int .i64 D.p)) := ⟨_, rfl⟩
        have HOV : Hid (CmAt W5 w.heap.size D) := Lib.hid (by rw [hW5]; exact hov)
        have HGV : Hid (wr.grownBy W5 (some w.heap.size)) := Lib.hid (by rw [hW5]; exact hgv)
        rw [← hW5]
        clear hov hgv hW5
        have y0 : W5.cell? ⟨w.heap.size, 0, none⟩ = some (.int .i64 D.k) := HOV.out.cell 0
        have y1 : W5.cell? ⟨w.heap.size, 1, none⟩ = some (.int .i64 D.i) := HOV.out.cell 1
        have y2 : W5.cell? ⟨w.heap.size, 2, none⟩ = some (.int .i64 D.m) := HOV.out.cell 2
        have y3 : W5.cell? ⟨w.heap.size, 3, none⟩ = some (.int .i64 D.o) := HOV.out.cell 3
        have y4 : W5.cell? ⟨w.heap.size, 4, none⟩ = some (.int .i64 D.s) := HOV.out.cell 4
        have y5 : W5.cell? ⟨w.heap.size, 5, none⟩ = some (.int .i64 D.q) := HOV.out.cell 5
        have y6 : W5.cell? ⟨w.heap.size, 6, none⟩ = some (.int .i64 D.p) := HOV.out.cell 6
        refine bodyPost_ret (v := .agg #[.int .i64 D.k, .int .i64 D.i, .int .i64 D.m, .int .i64 D.o, .int .i64 D.s, .int .i64 D.q, .int .i64 D.p]) (by simp [results, Tryd.results67, go_sem, y0, y1, y2, y3, y4, y5, y6]) rfl ?_
        rw [HT2.out.1, HT2.out.2]; exact ⟨rfl, (HIk.out.r.kept HGV.out (fun e => by injection e with e; omega)), grown_newS HIk.out.g HGV.out (Nat.le_refl _)⟩
end Go.Proofs.YtmplokdbbhlomaaDoor
