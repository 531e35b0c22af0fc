/-
  The law ScriptLines, walked: it returns true. (Printed by gen_sd9.py.)
-/
import Derived.Test.YtmplokdbbhlomaaGreatDoorSd7
import Derived.Test.YtmplokdbbhlomaaGreatDoorSd8
import Derived.Test.YtmplokdbbhlomaaGreatDoorScG
import Derived.Test.YtmplokdbbhlomaaGreatDoorSe1
import Derived.Deep.Cut
namespace Go.Proofs.YtmplokdbbhlomaaGreatDoor
open Go.RowKit

/-- What is said of a line, in either way. -/
theorem parse_yes {line : List UInt8} (h : (parseD line).2 = true) : parseP line = ((parseD line).1, 0) := by rw [parse_same, if_pos h]
theorem parse_no {line : List UInt8} (h : ¬ (parseD line).2 = true) : parseP line = (zeroS, 3) := by rw [parse_same, if_neg h]
set_option maxRecDepth 100000 in
set_option maxHeartbeats 25600000 in
theorem lines_law (x : St) (line : List UInt8) (w : World) (hx : StOk x) (he : EnvZ w) : Calls Tryz.prog 3 #[stV x, .string (bs line)] w fun e w' => e = .returned (.bool true) ∧ Below w.heap.size w w' := by
  have HE := Lib.hid he
  clear he
  have hsz := bs_size line
  have HB0 : Hid (Below w.heap.size w (w.alloc (.cells #[.int .i64 x.k, .int .i64 x.c.k, .int .i64 x.c.i, .int .i64 x.c.m, .int .i64 x.c.o, .int .i64 x.c.s, .int .i64 x.c.q, .int .i64 x.c.p, .int .i64 x.n] TSt))) := Lib.hid ((Below.refl _ _).alloc (Nat.le_refl _) _)
  have HX0 : Hid (CsAt (w.alloc (.cells #[.int .i64 x.k, .int .i64 x.c.k, .int .i64 x.c.i, .int .i64 x.c.m, .int .i64 x.c.o, .int .i64 x.c.s, .int .i64 x.c.q, .int .i64 x.c.p, .int .i64 x.n] TSt)) w.heap.size #[.int .i64 x.k, .int .i64 x.c.k, .int .i64 x.c.i, .int .i64 x.c.m, .int .i64 x.c.o, .int .i64 x.c.s, .int .i64 x.c.q, .int .i64 x.c.p, .int .i64 x.n]) := Lib.hid (CsAt.made _ _ _)
  have HE0 := Lib.hid (HE.out.below HB0.out)
  by_cases hl : 200 < line.length
  · have HAW := Lib.hid (sawake_any _ HE0.out.s)
    unfold stV stCells
    go_enter Tryz.func3, Tryz.ntmps3
    go_wp2_with (go_at_call 5; refine HAW.out.mono ?_; rintro e w1 ⟨rfl, hb⟩; have HB1 : Hid (Below w.heap.size w w1) := Lib.hid (HB0.out.trans (hb.mono HB0.out.size)); clear hb)
    go_ret
    exact ⟨rfl, HB1.out⟩
  have HLN := Lib.hid (line_any x hx _ HE0.out.s)
  have HRR := Lib.hid (fun W => srright_any x W)
  have HCK := Lib.hid (fun W => scheck_any x W)
  have hlx := lineS_len hx
  have hx0 : w.heap.size < (w.alloc (.cells #[.int .i64 x.k, .int .i64 x.c.k, .int .i64 x.c.i, .int .i64 x.c.m, .int .i64 x.c.o, .int .i64 x.c.s, .int .i64 x.c.q, .int .i64 x.c.p, .int .i64 x.n] TSt)).heap.size := by simp
  by_cases hr : rightS x = true
  case neg =>
    have hb : rightS x = false := by simpa using hr
    have her : errS x = 3 := by unfold errS; rw [hb]; rfl
    rw [hb, her, if_neg (by simp)] at HLN
    rw [hb] at HRR
    rw [her] at HCK
    clear hr hb her
    unfold stV stCells at HLN HRR HCK ⊢
    go_enter Tryz.func3, Tryz.ntmps3
    go_wp2_with (go_at_call 6; refine HLN.out.mono ?_)
    rintro e w1 ⟨rfl, hb⟩
    have HB1 : Hid (Below w.heap.size w w1) := Lib.hid (HB0.out.trans (hb.mono HB0.out.size))
    have HX1 := Lib.hid (HX0.out.below hx0 hb)
    have hx1 : w.heap.size < w1.heap.size := Nat.lt_of_lt_of_le hx0 hb.size
    clear hb HB0 HX0 HE0 HLN
    have x0 : w1.cell? ⟨w.heap.size, 0, none⟩ = some (.int .i64 x.k) := HX1.out.cell 0
    have x1 : w1.cell? ⟨w.heap.size, 1, none⟩ = some (.int .i64 x.c.k) := HX1.out.cell 1
    have x2 : w1.cell? ⟨w.heap.size, 2, none⟩ = some (.int .i64 x.c.i) := HX1.out.cell 2
    have x3 : w1.cell? ⟨w.heap.size, 3, none⟩ = some (.int .i64 x.c.m) := HX1.out.cell 3
    have x4 : w1.cell? ⟨w.heap.size, 4, none⟩ = some (.int .i64 x.c.o) := HX1.out.cell 4
    have x5 : w1.cell? ⟨w.heap.size, 5, none⟩ = some (.int .i64 x.c.s) := HX1.out.cell 5
    have x6 : w1.cell? ⟨w.heap.size, 6, none⟩ = some (.int .i64 x.c.q) := HX1.out.cell 6
    have x7 : w1.cell? ⟨w.heap.size, 7, none⟩ = some (.int .i64 x.c.p) := HX1.out.cell 7
    have x8 : w1.cell? ⟨w.heap.size, 8, none⟩ = some (.int .i64 x.n) := HX1.out.cell 8
    go_wp2_with (go_at_call 7; refine (HRR.out _).mono ?_)
    rintro e w2 ⟨rfl, hb⟩
    have HB2 : Hid (Below w.heap.size w w2) := Lib.hid (HB1.out.trans (hb.mono HB1.out.size))
    have HX2 := Lib.hid (HX1.out.below hx1 hb)
    clear x0 x1 x2 x3 x4 x5 x6 x7 x8 hb HB1 HX1
    have x0 : w2.cell? ⟨w.heap.size, 0, none⟩ = some (.int .i64 x.k) := HX2.out.cell 0
    have x1 : w2.cell? ⟨w.heap.size, 1, none⟩ = some (.int .i64 x.c.k) := HX2.out.cell 1
    have x2 : w2.cell? ⟨w.heap.size, 2, none⟩ = some (.int .i64 x.c.i) := HX2.out.cell 2
    have x3 : w2.cell? ⟨w.heap.size, 3, none⟩ = some (.int .i64 x.c.m) := HX2.out.cell 3
    have x4 : w2.cell? ⟨w.heap.size, 4, none⟩ = some (.int .i64 x.c.o) := HX2.out.cell 4
    have x5 : w2.cell? ⟨w.heap.size, 5, none⟩ = some (.int .i64 x.c.s) := HX2.out.cell 5
    have x6 : w2.cell? ⟨w.heap.size, 6, none⟩ = some (.int .i64 x.c.q) := HX2.out.cell 6
    have x7 : w2.cell? ⟨w.heap.size, 7, none⟩ = some (.int .i64 x.c.p) := HX2.out.cell 7
    have x8 : w2.cell? ⟨w.heap.size, 8, none⟩ = some (.int .i64 x.n) := HX2.out.cell 8
    go_wp2_with (go_at_call 8; refine (HCK.out _).mono ?_)
    rintro e w3 ⟨rfl, hb⟩
    have HB3 : Hid (Below w.heap.size w w3) := Lib.hid (HB2.out.trans (hb.mono HB2.out.size))
    have HE3 := Lib.hid (HE.out.below HB3.out)
    clear x0 x1 x2 x3 x4 x5 x6 x7 x8 hb HB2 HX2 HRR HCK
    have HPA := Lib.hid (sparse_any line (by omega) w3 HE3.out)
    have HPD := Lib.hid (fun V => rsparse_any line (by omega) V)
    have HGT := Lib.hid (fun h => parseD_got (line := line) h)
    by_cases hd : (parseD line).2 = true
    · rw [parse_yes hd] at HPA
      have hgot := HGT.out hd
      rw [hd] at HPD
      generalize (parseD line).1 = z at *
      obtain ⟨hz1, hz2, hz3⟩ := hgot
      have HZO := Lib.hid hz1
      have HLZ := Lib.hid (fun V => srline_any z HZO.out (line_kind hz2) V)
      rw [hz3] at HLZ
      have hrun := eqS_run z z
      rw [decide_eq_true rfl] at hrun
      unfold stV stCells at hrun HPA HPD HLZ
      clear hd hz1 hz2 hz3 HGT HZO
      go_wp2_with (go_at_call 9; refine HPA.out.mono ?_)
      rintro e v1 ⟨rfl, hb⟩
      have HV1 : Hid (Below w.heap.size w v1) := Lib.hid (HB3.out.trans (hb.mono HB3.out.size))
      clear hb HPA
      have HV1a : Hid (Below w.heap.size w (v1.alloc (.cells #[.int .i64 z.k, .int .i64 z.c.k, .int .i64 z.c.i, .int .i64 z.c.m, .int .i64 z.c.o, .int .i64 z.c.s, .int .i64 z.c.q, .int .i64 z.c.p, .int .i64 z.n] TSt))) := Lib.hid (HV1.out.trans (((Below.refl _ _).alloc (Nat.le_refl _) _).mono HV1.out.size))
      have HY : Hid (CsAt (v1.alloc (.cells #[.int .i64 z.k, .int .i64 z.c.k, .int .i64 z.c.i, .int .i64 z.c.m, .int .i64 z.c.o, .int .i64 z.c.s, .int .i64 z.c.q, .int .i64 z.c.p, .int .i64 z.n] TSt)) v1.heap.size #[.int .i64 z.k, .int .i64 z.c.k, .int .i64 z.c.i, .int .i64 z.c.m, .int .i64 z.c.o, .int .i64 z.c.s, .int .i64 z.c.q, .int .i64 z.c.p, .int .i64 z.n]) := Lib.hid (CsAt.made _ _ _)
      have hy : v1.heap.size < (v1.alloc (.cells #[.int .i64 z.k, .int .i64 z.c.k, .int .i64 z.c.i, .int .i64 z.c.m, .int .i64 z.c.o, .int .i64 z.c.s, .int .i64 z.c.q, .int .i64 z.c.p, .int .i64 z.n] TSt)).heap.size := by simp
      go_wp2_with (go_at_call 11; refine (HPD.out _).mono ?_)
      rintro e v2 ⟨rfl, hb⟩
      have HV2 : Hid (Below w.heap.size w v2) := Lib.hid (HV1a.out.trans (hb.mono HV1a.out.size))
      have HY2 := Lib.hid (HY.out.below hy hb)
      have hy2 : v1.heap.size < v2.heap.size := Nat.lt_of_lt_of_le hy hb.size
      clear hb HPD HV1a HY hy
      have HV2a : Hid (Below w.heap.size w (v2.alloc (.cells #[.int .i64 z.k, .int .i64 z.c.k, .int .i64 z.c.i, .int .i64 z.c.m, .int .i64 z.c.o, .int .i64 z.c.s, .int .i64 z.c.q, .int .i64 z.c.p, .int .i64 z.n] TSt))) := Lib.hid (HV2.out.trans (((Below.refl _ _).alloc (Nat.le_refl _) _).mono HV2.out.size))
      have HZ : Hid (CsAt (v2.alloc (.cells #[.int .i64 z.k, .int .i64 z.c.k, .int .i64 z.c.i, .int .i64 z.c.m, .int .i64 z.c.o, .int .i64 z.c.s, .int .i64 z.c.q, .int .i64 z.c.p, .int .i64 z.n] TSt)) v2.heap.size #[.int .i64 z.k, .int .i64 z.c.k, .int .i64 z.c.i, .int .i64 z.c.m, .int .i64 z.c.o, .int .i64 z.c.s, .int .i64 z.c.q, .int .i64 z.c.p, .int .i64 z.n]) := Lib.hid (CsAt.made _ _ _)
      have HY3 := Lib.hid (HY2.out.below hy2 ((Below.refl _ _).alloc (Nat.le_refl _) (.cells #[.int .i64 z.k, .int .i64 z.c.k, .int .i64 z.c.i, .int .i64 z.c.m, .int .i64 z.c.o, .int .i64 z.c.s, .int .i64 z.c.q, .int .i64 z.c.p, .int .i64 z.n] TSt)))
      have HE3 := Lib.hid (HE.out.below HV2a.out)
      have hz : v2.heap.size < (v2.alloc (.cells #[.int .i64 z.k, .int .i64 z.c.k, .int .i64 z.c.i, .int .i64 z.c.m, .int .i64 z.c.o, .int .i64 z.c.s, .int .i64 z.c.q, .int .i64 z.c.p, .int .i64 z.n] TSt)).heap.size := by simp
      have hy3 : v1.heap.size < (v2.alloc (.cells #[.int .i64 z.k, .int .i64 z.c.k, .int .i64 z.c.i, .int .i64 z.c.m, .int .i64 z.c.o, .int .i64 z.c.s, .int .i64 z.c.q, .int .i64 z.c.p, .int .i64 z.n] TSt)).heap.size := Nat.lt_trans hy2 hz
      clear HY2
      have HAW := Lib.hid (sawake_any _ HE3.out.s)
      go_wp2_with (first | (go_at_call 10; refine (HLZ.out _).mono ?_; rintro e v4 ⟨rfl, hb⟩; have HV4 : Hid (Below w.heap.size w v4) := Lib.hid (HV3.out.trans (hb.mono HV3.out.size)); clear hb) | (go_at_call 5; refine HAW.out.mono ?_; rintro e v3 ⟨rfl, hb⟩; have HV3 : Hid (Below w.heap.size w v3) := Lib.hid (HV2a.out.trans (hb.mono HV2a.out.size)); have HZ4 := Lib.hid (HZ.out.below hz hb); have HY4 := Lib.hid (HY3.out.below hy3 hb); clear hb HZ HY3; have y0 : v3.cell? ⟨v1.heap.size, 0, none⟩ = some (.int .i64 (z.k)) := HY4.out.cell 0; have y1 : v3.cell? ⟨v1.heap.size, 1, none⟩ = some (.int .i64 (z.c.k)) := HY4.out.cell 1; have y2 : v3.cell? ⟨v1.heap.size, 2, none⟩ = some (.int .i64 (z.c.i)) := HY4.out.cell 2; have y3 : v3.cell? ⟨v1.heap.size, 3, none⟩ = some (.int .i64 (z.c.m)) := HY4.out.cell 3; have y4 : v3.cell? ⟨v1.heap.size, 4, none⟩ = some (.int .i64 (z.c.o)) := HY4.out.cell 4; have y5 : v3.cell? ⟨v1.heap.size, 5, none⟩ = some (.int .i64 (z.c.s)) := HY4.out.cell 5; have y6 : v3.cell? ⟨v1.heap.size, 6, none⟩ = some (.int .i64 (z.c.q)) := HY4.out.cell 6; have y7 : v3.cell? ⟨v1.heap.size, 7, none⟩ = some (.int .i64 (z.c.p)) := HY4.out.cell 7; have y8 : v3.cell? ⟨v1.heap.size, 8, none⟩ = some (.int .i64 (z.n)) := HY4.out.cell 8; have z0 : v3.cell? ⟨v2.heap.size, 0, none⟩ = some (.int .i64 (z.k)) := HZ4.out.cell 0; have z1 : v3.cell? ⟨v2.heap.size, 1, none⟩ = some (.int .i64 (z.c.k)) := HZ4.out.cell 1; have z2 : v3.cell? ⟨v2.heap.size, 2, none⟩ = some (.int .i64 (z.c.i)) := HZ4.out.cell 2; have z3 : v3.cell? ⟨v2.heap.size, 3, none⟩ = some (.int .i64 (z.c.m)) := HZ4.out.cell 3; have z4 : v3.cell? ⟨v2.heap.size, 4, none⟩ = some (.int .i64 (z.c.o)) := HZ4.out.cell 4; have z5 : v3.cell? ⟨v2.heap.size, 5, none⟩ = some (.int .i64 (z.c.s)) := HZ4.out.cell 5; have z6 : v3.cell? ⟨v2.heap.size, 6, none⟩ = some (.int .i64 (z.c.q)) := HZ4.out.cell 6; have z7 : v3.cell? ⟨v2.heap.size, 7, none⟩ = some (.int .i64 (z.c.p)) := HZ4.out.cell 7; have z8 : v3.cell? ⟨v2.heap.size, 8, none⟩ = some (.int .i64 (z.n)) := HZ4.out.cell 8))
      go_ret
      exact ⟨rfl, HV4.out⟩
    · have hb : (parseD line).2 = false := by simpa using hd
      rw [parse_no hd] at HPA
      rw [hb] at HPD
      generalize (parseD line).1 = z at *
      unfold stV stCells at HPD HPA
      unfold zeroS zeroC at HPA
      clear hd hb HGT
      go_wp2_with (go_at_call 9; refine HPA.out.mono ?_)
      rintro e v1 ⟨rfl, hb⟩
      have HV1 : Hid (Below w.heap.size w v1) := Lib.hid (HB3.out.trans (hb.mono HB3.out.size))
      clear hb HPA
      have HV1a : Hid (Below w.heap.size w (v1.alloc (.cells #[.int .i64 0, .int .i64 0, .int .i64 0, .int .i64 0, .int .i64 0, .int .i64 0, .int .i64 0, .int .i64 0, .int .i64 0] TSt))) := Lib.hid (HV1.out.trans (((Below.refl _ _).alloc (Nat.le_refl _) _).mono HV1.out.size))
      have HY : Hid (CsAt (v1.alloc (.cells #[.int .i64 0, .int .i64 0, .int .i64 0, .int .i64 0, .int .i64 0, .int .i64 0, .int .i64 0, .int .i64 0, .int .i64 0] TSt)) v1.heap.size #[.int .i64 0, .int .i64 0, .int .i64 0, .int .i64 0, .int .i64 0, .int .i64 0, .int .i64 0, .int .i64 0, .int .i64 0]) := Lib.hid (CsAt.made _ _ _)
      have hy : v1.heap.size < (v1.alloc (.cells #[.int .i64 0, .int .i64 0, .int .i64 0, .int .i64 0, .int .i64 0, .int .i64 0, .int .i64 0, .int .i64 0, .int .i64 0] TSt)).heap.size := by simp
      go_wp2_with (go_at_call 11; refine (HPD.out _).mono ?_)
      rintro e v2 ⟨rfl, hb⟩
      have HV2 : Hid (Below w.heap.size w v2) := Lib.hid (HV1a.out.trans (hb.mono HV1a.out.size))
      have HY2 := Lib.hid (HY.out.below hy hb)
      have hy2 : v1.heap.size < v2.heap.size := Nat.lt_of_lt_of_le hy hb.size
      clear hb HPD HV1a HY hy
      have HV2a : Hid (Below w.heap.size w (v2.alloc (.cells #[.int .i64 z.k, .int .i64 z.c.k, .int .i64 z.c.i, .int .i64 z.c.m, .int .i64 z.c.o, .int .i64 z.c.s, .int .i64 z.c.q, .int .i64 z.c.p, .int .i64 z.n] TSt))) := Lib.hid (HV2.out.trans (((Below.refl _ _).alloc (Nat.le_refl _) _).mono HV2.out.size))
      have HZ : Hid (CsAt (v2.alloc (.cells #[.int .i64 z.k, .int .i64 z.c.k, .int .i64 z.c.i, .int .i64 z.c.m, .int .i64 z.c.o, .int .i64 z.c.s, .int .i64 z.c.q, .int .i64 z.c.p, .int .i64 z.n] TSt)) v2.heap.size #[.int .i64 z.k, .int .i64 z.c.k, .int .i64 z.c.i, .int .i64 z.c.m, .int .i64 z.c.o, .int .i64 z.c.s, .int .i64 z.c.q, .int .i64 z.c.p, .int .i64 z.n]) := Lib.hid (CsAt.made _ _ _)
      have HY3 := Lib.hid (HY2.out.below hy2 ((Below.refl _ _).alloc (Nat.le_refl _) (.cells #[.int .i64 z.k, .int .i64 z.c.k, .int .i64 z.c.i, .int .i64 z.c.m, .int .i64 z.c.o, .int .i64 z.c.s, .int .i64 z.c.q, .int .i64 z.c.p, .int .i64 z.n] TSt)))
      have HE3 := Lib.hid (HE.out.below HV2a.out)
      have hz : v2.heap.size < (v2.alloc (.cells #[.int .i64 z.k, .int .i64 z.c.k, .int .i64 z.c.i, .int .i64 z.c.m, .int .i64 z.c.o, .int .i64 z.c.s, .int .i64 z.c.q, .int .i64 z.c.p, .int .i64 z.n] TSt)).heap.size := by simp
      have hy3 : v1.heap.size < (v2.alloc (.cells #[.int .i64 z.k, .int .i64 z.c.k, .int .i64 z.c.i, .int .i64 z.c.m, .int .i64 z.c.o, .int .i64 z.c.s, .int .i64 z.c.q, .int .i64 z.c.p, .int .i64 z.n] TSt)).heap.size := Nat.lt_trans hy2 hz
      clear HY2
      have HAW := Lib.hid (sawake_any _ HE3.out.s)
      go_wp2_with (go_at_call 5; refine HAW.out.mono ?_; rintro e v3 ⟨rfl, hb⟩; have HV3 : Hid (Below w.heap.size w v3) := Lib.hid (HV2a.out.trans (hb.mono HV2a.out.size)); have HZ4 := Lib.hid (HZ.out.below hz hb); have HY4 := Lib.hid (HY3.out.below hy3 hb); clear hb HZ HY3; have y0 : v3.cell? ⟨v1.heap.size, 0, none⟩ = some (.int .i64 (0)) := HY4.out.cell 0; have y1 : v3.cell? ⟨v1.heap.size, 1, none⟩ = some (.int .i64 (0)) := HY4.out.cell 1; have y2 : v3.cell? ⟨v1.heap.size, 2, none⟩ = some (.int .i64 (0)) := HY4.out.cell 2; have y3 : v3.cell? ⟨v1.heap.size, 3, none⟩ = some (.int .i64 (0)) := HY4.out.cell 3; have y4 : v3.cell? ⟨v1.heap.size, 4, none⟩ = some (.int .i64 (0)) := HY4.out.cell 4; have y5 : v3.cell? ⟨v1.heap.size, 5, none⟩ = some (.int .i64 (0)) := HY4.out.cell 5; have y6 : v3.cell? ⟨v1.heap.size, 6, none⟩ = some (.int .i64 (0)) := HY4.out.cell 6; have y7 : v3.cell? ⟨v1.heap.size, 7, none⟩ = some (.int .i64 (0)) := HY4.out.cell 7; have y8 : v3.cell? ⟨v1.heap.size, 8, none⟩ = some (.int .i64 (0)) := HY4.out.cell 8)
      go_ret
      exact ⟨rfl, HV3.out⟩
  have her : errS x = 0 := by unfold errS; rw [hr]; rfl
  have HPP : Hid (parseP (lineS x) = (x, 0)) := Lib.hid (parseP_line hx hr)
  have HLY := Lib.hid (fun V => srline_any x hx (line_kind hr) V)
  have HPX := Lib.hid (fun V hV => sparse_any (lineS x) (by omega) V hV)
  rw [HPP.out] at HPX
  rw [hr, her, if_pos rfl] at HLN
  rw [hr] at HRR
  rw [her] at HCK
  have hrunN := neqS_run x x
  rw [decide_eq_true rfl] at hrunN
  clear hr her HPP
  unfold stV stCells at HLN HRR HCK HPX HLY ⊢
  generalize lineS x = sx at *
  go_enter Tryz.func3, Tryz.ntmps3
  go_wp2_with (go_at_call 6; refine HLN.out.mono ?_)
  rintro e w1 rfl hb
  have HB1 : Hid (Below w.heap.size w w1) := Lib.hid (HB0.out.trans ((by simpa using hb : Below (w.alloc (.cells #[.int .i64 x.k, .int .i64 x.c.k, .int .i64 x.c.i, .int .i64 x.c.m, .int .i64 x.c.o, .int .i64 x.c.s, .int .i64 x.c.q, .int .i64 x.c.p, .int .i64 x.n] TSt)).heap.size _ w1).mono HB0.out.size))
  have HX1 := Lib.hid (HX0.out.below hx0 (by simpa using hb))
  have hx1 : w.heap.size < w1.heap.size := Nat.lt_of_lt_of_le (by simp) hb.size
  clear hb HB0 HX0 HE0 HLN hx0
  have x0 : w1.cell? ⟨w.heap.size, 0, none⟩ = some (.int .i64 x.k) := HX1.out.cell 0
  have x1 : w1.cell? ⟨w.heap.size, 1, none⟩ = some (.int .i64 x.c.k) := HX1.out.cell 1
  have x2 : w1.cell? ⟨w.heap.size, 2, none⟩ = some (.int .i64 x.c.i) := HX1.out.cell 2
  have x3 : w1.cell? ⟨w.heap.size, 3, none⟩ = some (.int .i64 x.c.m) := HX1.out.cell 3
  have x4 : w1.cell? ⟨w.heap.size, 4, none⟩ = some (.int .i64 x.c.o) := HX1.out.cell 4
  have x5 : w1.cell? ⟨w.heap.size, 5, none⟩ = some (.int .i64 x.c.s) := HX1.out.cell 5
  have x6 : w1.cell? ⟨w.heap.size, 6, none⟩ = some (.int .i64 x.c.q) := HX1.out.cell 6
  have x7 : w1.cell? ⟨w.heap.size, 7, none⟩ = some (.int .i64 x.c.p) := HX1.out.cell 7
  have x8 : w1.cell? ⟨w.heap.size, 8, none⟩ = some (.int .i64 x.n) := HX1.out.cell 8
  go_wp2_with (go_at_call 7; refine (HRR.out _).mono ?_)
  rintro e w2 ⟨rfl, hb⟩
  have HB2 : Hid (Below w.heap.size w w2) := Lib.hid (HB1.out.trans (hb.mono HB1.out.size))
  have HX2 := Lib.hid (HX1.out.below hx1 hb)
  have hx2 : w.heap.size < w2.heap.size := Nat.lt_of_lt_of_le hx1 hb.size
  have HE2 := Lib.hid (HE.out.below HB2.out)
  clear x0 x1 x2 x3 x4 x5 x6 x7 x8 hb HB1 HX1 hx1
  go_wp2_with (go_at_call 9; refine (HPX.out _ HE2.out).mono ?_)
  rintro e w3 ⟨rfl, hb⟩
  have HB3 : Hid (Below w.heap.size w w3) := Lib.hid (HB2.out.trans (hb.mono HB2.out.size))
  have HX3 := Lib.hid (HX2.out.below hx2 hb)
  have hx3 : w.heap.size < w3.heap.size := Nat.lt_of_lt_of_le hx2 hb.size
  clear hb HB2 HX2 hx2 HE2 HPX
  have HB4 : Hid (Below w.heap.size w (w3.alloc (.cells #[.int .i64 x.k, .int .i64 x.c.k, .int .i64 x.c.i, .int .i64 x.c.m, .int .i64 x.c.o, .int .i64 x.c.s, .int .i64 x.c.q, .int .i64 x.c.p, .int .i64 x.n] TSt))) := Lib.hid (HB3.out.trans (((Below.refl _ _).alloc (Nat.le_refl _) _).mono HB3.out.size))
  have HY4 : Hid (CsAt (w3.alloc (.cells #[.int .i64 x.k, .int .i64 x.c.k, .int .i64 x.c.i, .int .i64 x.c.m, .int .i64 x.c.o, .int .i64 x.c.s, .int .i64 x.c.q, .int .i64 x.c.p, .int .i64 x.n] TSt)) w3.heap.size #[.int .i64 x.k, .int .i64 x.c.k, .int .i64 x.c.i, .int .i64 x.c.m, .int .i64 x.c.o, .int .i64 x.c.s, .int .i64 x.c.q, .int .i64 x.c.p, .int .i64 x.n]) := Lib.hid (CsAt.made _ _ _)
  have HX4 := Lib.hid (HX3.out.below hx3 ((Below.refl _ _).alloc (Nat.le_refl _) (.cells #[.int .i64 x.k, .int .i64 x.c.k, .int .i64 x.c.i, .int .i64 x.c.m, .int .i64 x.c.o, .int .i64 x.c.s, .int .i64 x.c.q, .int .i64 x.c.p, .int .i64 x.n] TSt)))
  have hy4 : w3.heap.size < (w3.alloc (.cells #[.int .i64 x.k, .int .i64 x.c.k, .int .i64 x.c.i, .int .i64 x.c.m, .int .i64 x.c.o, .int .i64 x.c.s, .int .i64 x.c.q, .int .i64 x.c.p, .int .i64 x.n] TSt)).heap.size := by simp
  have hx4 : w.heap.size < (w3.alloc (.cells #[.int .i64 x.k, .int .i64 x.c.k, .int .i64 x.c.i, .int .i64 x.c.m, .int .i64 x.c.o, .int .i64 x.c.s, .int .i64 x.c.q, .int .i64 x.c.p, .int .i64 x.n] TSt)).heap.size := Nat.lt_trans hx3 hy4
  clear HX3 HB3
  have x0 : (w3.alloc (.cells #[.int .i64 x.k, .int .i64 x.c.k, .int .i64 x.c.i, .int .i64 x.c.m, .int .i64 x.c.o, .int .i64 x.c.s, .int .i64 x.c.q, .int .i64 x.c.p, .int .i64 x.n] TSt)).cell? ⟨w.heap.size, 0, none⟩ = some (.int .i64 x.k) := HX4.out.cell 0
  have x1 : (w3.alloc (.cells #[.int .i64 x.k, .int .i64 x.c.k, .int .i64 x.c.i, .int .i64 x.c.m, .int .i64 x.c.o, .int .i64 x.c.s, .int .i64 x.c.q, .int .i64 x.c.p, .int .i64 x.n] TSt)).cell? ⟨w.heap.size, 1, none⟩ = some (.int .i64 x.c.k) := HX4.out.cell 1
  have x2 : (w3.alloc (.cells #[.int .i64 x.k, .int .i64 x.c.k, .int .i64 x.c.i, .int .i64 x.c.m, .int .i64 x.c.o, .int .i64 x.c.s, .int .i64 x.c.q, .int .i64 x.c.p, .int .i64 x.n] TSt)).cell? ⟨w.heap.size, 2, none⟩ = some (.int .i64 x.c.i) := HX4.out.cell 2
  have x3 : (w3.alloc (.cells #[.int .i64 x.k, .int .i64 x.c.k, .int .i64 x.c.i, .int .i64 x.c.m, .int .i64 x.c.o, .int .i64 x.c.s, .int .i64 x.c.q, .int .i64 x.c.p, .int .i64 x.n] TSt)).cell? ⟨w.heap.size, 3, none⟩ = some (.int .i64 x.c.m) := HX4.out.cell 3
  have x4 : (w3.alloc (.cells #[.int .i64 x.k, .int .i64 x.c.k, .int .i64 x.c.i, .int .i64 x.c.m, .int .i64 x.c.o, .int .i64 x.c.s, .int .i64 x.c.q, .int .i64 x.c.p, .int .i64 x.n] TSt)).cell? ⟨w.heap.size, 4, none⟩ = some (.int .i64 x.c.o) := HX4.out.cell 4
  have x5 : (w3.alloc (.cells #[.int .i64 x.k, .int .i64 x.c.k, .int .i64 x.c.i, .int .i64 x.c.m, .int .i64 x.c.o, .int .i64 x.c.s, .int .i64 x.c.q, .int .i64 x.c.p, .int .i64 x.n] TSt)).cell? ⟨w.heap.size, 5, none⟩ = some (.int .i64 x.c.s) := HX4.out.cell 5
  have x6 : (w3.alloc (.cells #[.int .i64 x.k, .int .i64 x.c.k, .int .i64 x.c.i, .int .i64 x.c.m, .int .i64 x.c.o, .int .i64 x.c.s, .int .i64 x.c.q, .int .i64 x.c.p, .int .i64 x.n] TSt)).cell? ⟨w.heap.size, 6, none⟩ = some (.int .i64 x.c.q) := HX4.out.cell 6
  have x7 : (w3.alloc (.cells #[.int .i64 x.k, .int .i64 x.c.k, .int .i64 x.c.i, .int .i64 x.c.m, .int .i64 x.c.o, .int .i64 x.c.s, .int .i64 x.c.q, .int .i64 x.c.p, .int .i64 x.n] TSt)).cell? ⟨w.heap.size, 7, none⟩ = some (.int .i64 x.c.p) := HX4.out.cell 7
  have x8 : (w3.alloc (.cells #[.int .i64 x.k, .int .i64 x.c.k, .int .i64 x.c.i, .int .i64 x.c.m, .int .i64 x.c.o, .int .i64 x.c.s, .int .i64 x.c.q, .int .i64 x.c.p, .int .i64 x.n] TSt)).cell? ⟨w.heap.size, 8, none⟩ = some (.int .i64 x.n) := HX4.out.cell 8
  go_wp2_with (go_at_call 10; refine (HLY.out _).mono ?_)
  rintro e w5 ⟨rfl, hb⟩
  have HB5 : Hid (Below w.heap.size w w5) := Lib.hid (HB4.out.trans (hb.mono HB4.out.size))
  have HX5 := Lib.hid (HX4.out.below hx4 hb)
  have HY5 := Lib.hid (HY4.out.below hy4 hb)
  clear x0 x1 x2 x3 x4 x5 x6 x7 x8 hb HB4 HX4 HY4 HLY
  have x0 : w5.cell? ⟨w.heap.size, 0, none⟩ = some (.int .i64 x.k) := HX5.out.cell 0
  have x1 : w5.cell? ⟨w.heap.size, 1, none⟩ = some (.int .i64 x.c.k) := HX5.out.cell 1
  have x2 : w5.cell? ⟨w.heap.size, 2, none⟩ = some (.int .i64 x.c.i) := HX5.out.cell 2
  have x3 : w5.cell? ⟨w.heap.size, 3, none⟩ = some (.int .i64 x.c.m) := HX5.out.cell 3
  have x4 : w5.cell? ⟨w.heap.size, 4, none⟩ = some (.int .i64 x.c.o) := HX5.out.cell 4
  have x5 : w5.cell? ⟨w.heap.size, 5, none⟩ = some (.int .i64 x.c.s) := HX5.out.cell 5
  have x6 : w5.cell? ⟨w.heap.size, 6, none⟩ = some (.int .i64 x.c.q) := HX5.out.cell 6
  have x7 : w5.cell? ⟨w.heap.size, 7, none⟩ = some (.int .i64 x.c.p) := HX5.out.cell 7
  have x8 : w5.cell? ⟨w.heap.size, 8, none⟩ = some (.int .i64 x.n) := HX5.out.cell 8
  have y0 : w5.cell? ⟨w3.heap.size, 0, none⟩ = some (.int .i64 x.k) := HY5.out.cell 0
  have y1 : w5.cell? ⟨w3.heap.size, 1, none⟩ = some (.int .i64 x.c.k) := HY5.out.cell 1
  have y2 : w5.cell? ⟨w3.heap.size, 2, none⟩ = some (.int .i64 x.c.i) := HY5.out.cell 2
  have y3 : w5.cell? ⟨w3.heap.size, 3, none⟩ = some (.int .i64 x.c.m) := HY5.out.cell 3
  have y4 : w5.cell? ⟨w3.heap.size, 4, none⟩ = some (.int .i64 x.c.o) := HY5.out.cell 4
  have y5 : w5.cell? ⟨w3.heap.size, 5, none⟩ = some (.int .i64 x.c.s) := HY5.out.cell 5
  have y6 : w5.cell? ⟨w3.heap.size, 6, none⟩ = some (.int .i64 x.c.q) := HY5.out.cell 6
  have y7 : w5.cell? ⟨w3.heap.size, 7, none⟩ = some (.int .i64 x.c.p) := HY5.out.cell 7
  have y8 : w5.cell? ⟨w3.heap.size, 8, none⟩ = some (.int .i64 x.n) := HY5.out.cell 8
  go_wp2_with (go_at_call 8; refine (HCK.out _).mono ?_)
  rintro e w6 ⟨rfl, hb⟩
  have HB6 : Hid (Below w.heap.size w w6) := Lib.hid (HB5.out.trans (hb.mono HB5.out.size))
  have HE6 := Lib.hid (HE.out.below HB6.out)
  clear x0 x1 x2 x3 x4 x5 x6 x7 x8 y0 y1 y2 y3 y4 y5 y6 y7 y8 hb HB5 HX5 HY5 HRR HCK hrunN
  have HPA := Lib.hid (sparse_any line (by omega) w6 HE6.out)
  have HPD := Lib.hid (fun V => rsparse_any line (by omega) V)
  have HGT := Lib.hid (fun h => parseD_got (line := line) h)
  by_cases hd : (parseD line).2 = true
  · rw [parse_yes hd] at HPA
    have hgot := HGT.out hd
    rw [hd] at HPD
    generalize (parseD line).1 = z at *
    obtain ⟨hz1, hz2, hz3⟩ := hgot
    have HZO := Lib.hid hz1
    have HLZ := Lib.hid (fun V => srline_any z HZO.out (line_kind hz2) V)
    rw [hz3] at HLZ
    have hrun := eqS_run z z
    rw [decide_eq_true rfl] at hrun
    unfold stV stCells at hrun HPA HPD HLZ
    clear hd hz1 hz2 hz3 HGT HZO
    go_wp2_with (go_at_call 9; refine HPA.out.mono ?_)
    rintro e v1 ⟨rfl, hb⟩
    have HV1 : Hid (Below w.heap.size w v1) := Lib.hid (HB6.out.trans (hb.mono HB6.out.size))
    clear hb HPA
    have HV1a : Hid (Below w.heap.size w (v1.alloc (.cells #[.int .i64 z.k, .int .i64 z.c.k, .int .i64 z.c.i, .int .i64 z.c.m, .int .i64 z.c.o, .int .i64 z.c.s, .int .i64 z.c.q, .int .i64 z.c.p, .int .i64 z.n] TSt))) := Lib.hid (HV1.out.trans (((Below.refl _ _).alloc (Nat.le_refl _) _).mono HV1.out.size))
    have HY : Hid (CsAt (v1.alloc (.cells #[.int .i64 z.k, .int .i64 z.c.k, .int .i64 z.c.i, .int .i64 z.c.m, .int .i64 z.c.o, .int .i64 z.c.s, .int .i64 z.c.q, .int .i64 z.c.p, .int .i64 z.n] TSt)) v1.heap.size #[.int .i64 z.k, .int .i64 z.c.k, .int .i64 z.c.i, .int .i64 z.c.m, .int .i64 z.c.o, .int .i64 z.c.s, .int .i64 z.c.q, .int .i64 z.c.p, .int .i64 z.n]) := Lib.hid (CsAt.made _ _ _)
    have hy : v1.heap.size < (v1.alloc (.cells #[.int .i64 z.k, .int .i64 z.c.k, .int .i64 z.c.i, .int .i64 z.c.m, .int .i64 z.c.o, .int .i64 z.c.s, .int .i64 z.c.q, .int .i64 z.c.p, .int .i64 z.n] TSt)).heap.size := by simp
    go_wp2_with (go_at_call 11; refine (HPD.out _).mono ?_)
    rintro e v2 ⟨rfl, hb⟩
    have HV2 : Hid (Below w.heap.size w v2) := Lib.hid (HV1a.out.trans (hb.mono HV1a.out.size))
    have HY2 := Lib.hid (HY.out.below hy hb)
    have hy2 : v1.heap.size < v2.heap.size := Nat.lt_of_lt_of_le hy hb.size
    clear hb HPD HV1a HY hy
    have HV2a : Hid (Below w.heap.size w (v2.alloc (.cells #[.int .i64 z.k, .int .i64 z.c.k, .int .i64 z.c.i, .int .i64 z.c.m, .int .i64 z.c.o, .int .i64 z.c.s, .int .i64 z.c.q, .int .i64 z.c.p, .int .i64 z.n] TSt))) := Lib.hid (HV2.out.trans (((Below.refl _ _).alloc (Nat.le_refl _) _).mono HV2.out.size))
    have HZ : Hid (CsAt (v2.alloc (.cells #[.int .i64 z.k, .int .i64 z.c.k, .int .i64 z.c.i, .int .i64 z.c.m, .int .i64 z.c.o, .int .i64 z.c.s, .int .i64 z.c.q, .int .i64 z.c.p, .int .i64 z.n] TSt)) v2.heap.size #[.int .i64 z.k, .int .i64 z.c.k, .int .i64 z.c.i, .int .i64 z.c.m, .int .i64 z.c.o, .int .i64 z.c.s, .int .i64 z.c.q, .int .i64 z.c.p, .int .i64 z.n]) := Lib.hid (CsAt.made _ _ _)
    have HY3 := Lib.hid (HY2.out.below hy2 ((Below.refl _ _).alloc (Nat.le_refl _) (.cells #[.int .i64 z.k, .int .i64 z.c.k, .int .i64 z.c.i, .int .i64 z.c.m, .int .i64 z.c.o, .int .i64 z.c.s, .int .i64 z.c.q, .int .i64 z.c.p, .int .i64 z.n] TSt)))
    have HE3 := Lib.hid (HE.out.below HV2a.out)
    have hz : v2.heap.size < (v2.alloc (.cells #[.int .i64 z.k, .int .i64 z.c.k, .int .i64 z.c.i, .int .i64 z.c.m, .int .i64 z.c.o, .int .i64 z.c.s, .int .i64 z.c.q, .int .i64 z.c.p, .int .i64 z.n] TSt)).heap.size := by simp
    have hy3 : v1.heap.size < (v2.alloc (.cells #[.int .i64 z.k, .int .i64 z.c.k, .int .i64 z.c.i, .int .i64 z.c.m, .int .i64 z.c.o, .int .i64 z.c.s, .int .i64 z.c.q, .int .i64 z.c.p, .int .i64 z.n] TSt)).heap.size := Nat.lt_trans hy2 hz
    clear HY2
    have HAW := Lib.hid (sawake_any _ HE3.out.s)
    go_wp2_with (first | (go_at_call 10; refine (HLZ.out _).mono ?_; rintro e v4 ⟨rfl, hb⟩; have HV4 : Hid (Below w.heap.size w v4) := Lib.hid (HV3.out.trans (hb.mono HV3.out.size)); clear hb) | (go_at_call 5; refine HAW.out.mono ?_; rintro e v3 ⟨rfl, hb⟩; have HV3 : Hid (Below w.heap.size w v3) := Lib.hid (HV2a.out.trans (hb.mono HV2a.out.size)); have HZ4 := Lib.hid (HZ.out.below hz hb); have HY4 := Lib.hid (HY3.out.below hy3 hb); clear hb HZ HY3; have y0 : v3.cell? ⟨v1.heap.size, 0, none⟩ = some (.int .i64 (z.k)) := HY4.out.cell 0; have y1 : v3.cell? ⟨v1.heap.size, 1, none⟩ = some (.int .i64 (z.c.k)) := HY4.out.cell 1; have y2 : v3.cell? ⟨v1.heap.size, 2, none⟩ = some (.int .i64 (z.c.i)) := HY4.out.cell 2; have y3 : v3.cell? ⟨v1.heap.size, 3, none⟩ = some (.int .i64 (z.c.m)) := HY4.out.cell 3; have y4 : v3.cell? ⟨v1.heap.size, 4, none⟩ = some (.int .i64 (z.c.o)) := HY4.out.cell 4; have y5 : v3.cell? ⟨v1.heap.size, 5, none⟩ = some (.int .i64 (z.c.s)) := HY4.out.cell 5; have y6 : v3.cell? ⟨v1.heap.size, 6, none⟩ = some (.int .i64 (z.c.q)) := HY4.out.cell 6; have y7 : v3.cell? ⟨v1.heap.size, 7, none⟩ = some (.int .i64 (z.c.p)) := HY4.out.cell 7; have y8 : v3.cell? ⟨v1.heap.size, 8, none⟩ = some (.int .i64 (z.n)) := HY4.out.cell 8; have z0 : v3.cell? ⟨v2.heap.size, 0, none⟩ = some (.int .i64 (z.k)) := HZ4.out.cell 0; have z1 : v3.cell? ⟨v2.heap.size, 1, none⟩ = some (.int .i64 (z.c.k)) := HZ4.out.cell 1; have z2 : v3.cell? ⟨v2.heap.size, 2, none⟩ = some (.int .i64 (z.c.i)) := HZ4.out.cell 2; have z3 : v3.cell? ⟨v2.heap.size, 3, none⟩ = some (.int .i64 (z.c.m)) := HZ4.out.cell 3; have z4 : v3.cell? ⟨v2.heap.size, 4, none⟩ = some (.int .i64 (z.c.o)) := HZ4.out.cell 4; have z5 : v3.cell? ⟨v2.heap.size, 5, none⟩ = some (.int .i64 (z.c.s)) := HZ4.out.cell 5; have z6 : v3.cell? ⟨v2.heap.size, 6, none⟩ = some (.int .i64 (z.c.q)) := HZ4.out.cell 6; have z7 : v3.cell? ⟨v2.heap.size, 7, none⟩ = some (.int .i64 (z.c.p)) := HZ4.out.cell 7; have z8 : v3.cell? ⟨v2.heap.size, 8, none⟩ = some (.int .i64 (z.n)) := HZ4.out.cell 8))
    go_ret
    exact ⟨rfl, HV4.out⟩
  · have hb : (parseD line).2 = false := by simpa using hd
    rw [parse_no hd] at HPA
    rw [hb] at HPD
    generalize (parseD line).1 = z at *
    unfold stV stCells at HPD HPA
    unfold zeroS zeroC at HPA
    clear hd hb HGT
    go_wp2_with (go_at_call 9; refine HPA.out.mono ?_)
    rintro e v1 ⟨rfl, hb⟩
    have HV1 : Hid (Below w.heap.size w v1) := Lib.hid (HB6.out.trans (hb.mono HB6.out.size))
    clear hb HPA
    have HV1a : Hid (Below w.heap.size w (v1.alloc (.cells #[.int .i64 0, .int .i64 0, .int .i64 0, .int .i64 0, .int .i64 0, .int .i64 0, .int .i64 0, .int .i64 0, .int .i64 0] TSt))) := Lib.hid (HV1.out.trans (((Below.refl _ _).alloc (Nat.le_refl _) _).mono HV1.out.size))
    have HY : Hid (CsAt (v1.alloc (.cells #[.int .i64 0, .int .i64 0, .int .i64 0, .int .i64 0, .int .i64 0, .int .i64 0, .int .i64 0, .int .i64 0, .int .i64 0] TSt)) v1.heap.size #[.int .i64 0, .int .i64 0, .int .i64 0, .int .i64 0, .int .i64 0, .int .i64 0, .int .i64 0, .int .i64 0, .int .i64 0]) := Lib.hid (CsAt.made _ _ _)
    have hy : v1.heap.size < (v1.alloc (.cells #[.int .i64 0, .int .i64 0, .int .i64 0, .int .i64 0, .int .i64 0, .int .i64 0, .int .i64 0, .int .i64 0, .int .i64 0] TSt)).heap.size := by simp
    go_wp2_with (go_at_call 11; refine (HPD.out _).mono ?_)
    rintro e v2 ⟨rfl, hb⟩
    have HV2 : Hid (Below w.heap.size w v2) := Lib.hid (HV1a.out.trans (hb.mono HV1a.out.size))
    have HY2 := Lib.hid (HY.out.below hy hb)
    have hy2 : v1.heap.size < v2.heap.size := Nat.lt_of_lt_of_le hy hb.size
    clear hb HPD HV1a HY hy
    have HV2a : Hid (Below w.heap.size w (v2.alloc (.cells #[.int .i64 z.k, .int .i64 z.c.k, .int .i64 z.c.i, .int .i64 z.c.m, .int .i64 z.c.o, .int .i64 z.c.s, .int .i64 z.c.q, .int .i64 z.c.p, .int .i64 z.n] TSt))) := Lib.hid (HV2.out.trans (((Below.refl _ _).alloc (Nat.le_refl _) _).mono HV2.out.size))
    have HZ : Hid (CsAt (v2.alloc (.cells #[.int .i64 z.k, .int .i64 z.c.k, .int .i64 z.c.i, .int .i64 z.c.m, .int .i64 z.c.o, .int .i64 z.c.s, .int .i64 z.c.q, .int .i64 z.c.p, .int .i64 z.n] TSt)) v2.heap.size #[.int .i64 z.k, .int .i64 z.c.k, .int .i64 z.c.i, .int .i64 z.c.m, .int .i64 z.c.o, .int .i64 z.c.s, .int .i64 z.c.q, .int .i64 z.c.p, .int .i64 z.n]) := Lib.hid (CsAt.made _ _ _)
    have HY3 := Lib.hid (HY2.out.below hy2 ((Below.refl _ _).alloc (Nat.le_refl _) (.cells #[.int .i64 z.k, .int .i64 z.c.k, .int .i64 z.c.i, .int .i64 z.c.m, .int .i64 z.c.o, .int .i64 z.c.s, .int .i64 z.c.q, .int .i64 z.c.p, .int .i64 z.n] TSt)))
    have HE3 := Lib.hid (HE.out.below HV2a.out)
    have hz : v2.heap.size < (v2.alloc (.cells #[.int .i64 z.k, .int .i64 z.c.k, .int .i64 z.c.i, .int .i64 z.c.m, .int .i64 z.c.o, .int .i64 z.c.s, .int .i64 z.c.q, .int .i64 z.c.p, .int .i64 z.n] TSt)).heap.size := by simp
    have hy3 : v1.heap.size < (v2.alloc (.cells #[.int .i64 z.k, .int .i64 z.c.k, .int .i64 z.c.i, .int .i64 z.c.m, .int .i64 z.c.o, .int .i64 z.c.s, .int .i64 z.c.q, .int .i64 z.c.p, .int .i64 z.n] TSt)).heap.size := Nat.lt_trans hy2 hz
    clear HY2
    have HAW := Lib.hid (sawake_any _ HE3.out.s)
    go_wp2_with (go_at_call 5; refine HAW.out.mono ?_; rintro e v3 ⟨rfl, hb⟩; have HV3 : Hid (Below w.heap.size w v3) := Lib.hid (HV2a.out.trans (hb.mono HV2a.out.size)); have HZ4 := Lib.hid (HZ.out.below hz hb); have HY4 := Lib.hid (HY3.out.below hy3 hb); clear hb HZ HY3; have y0 : v3.cell? ⟨v1.heap.size, 0, none⟩ = some (.int .i64 (0)) := HY4.out.cell 0; have y1 : v3.cell? ⟨v1.heap.size, 1, none⟩ = some (.int .i64 (0)) := HY4.out.cell 1; have y2 : v3.cell? ⟨v1.heap.size, 2, none⟩ = some (.int .i64 (0)) := HY4.out.cell 2; have y3 : v3.cell? ⟨v1.heap.size, 3, none⟩ = some (.int .i64 (0)) := HY4.out.cell 3; have y4 : v3.cell? ⟨v1.heap.size, 4, none⟩ = some (.int .i64 (0)) := HY4.out.cell 4; have y5 : v3.cell? ⟨v1.heap.size, 5, none⟩ = some (.int .i64 (0)) := HY4.out.cell 5; have y6 : v3.cell? ⟨v1.heap.size, 6, none⟩ = some (.int .i64 (0)) := HY4.out.cell 6; have y7 : v3.cell? ⟨v1.heap.size, 7, none⟩ = some (.int .i64 (0)) := HY4.out.cell 7; have y8 : v3.cell? ⟨v1.heap.size, 8, none⟩ = some (.int .i64 (0)) := HY4.out.cell 8)
    go_ret
    exact ⟨rfl, HV3.out⟩
end Go.Proofs.YtmplokdbbhlomaaGreatDoor
