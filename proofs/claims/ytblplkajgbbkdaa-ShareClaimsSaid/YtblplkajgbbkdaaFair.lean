/-
  What complinelaw03.fair comes to where a part is fair, over this seat's translation: a contract for callers.
-/
import Derived.Test.YtblplkajgbbkdaaRf2d
import Derived.Deep.RegionHeld3
namespace Go.Proofs.Ytblplkajgbbkdaa
open Go.RowKit Go.Lib Go.Sort

theorem of_num (a : Nat) (w : World) (h : a < 18446744073709551616) : Calls Try.prog 55 #[.int .u64 0, .int .u64 a] w fun e w' => e = .returned (numV a) ∧ Below w.heap.size w w' := by
  refine (of_any a _ _ _ _ w (dig4 a h)).mono ?_
  rintro e w' ⟨rfl, hb⟩
  refine ⟨?_, hb⟩
  have e4 : a / 18446744073709551616 % 65536 = 0 := by omega
  have e5 : a / 1208925819614629174706176 % 65536 = 0 := by omega
  have e6 : a / 79228162514264337593543950336 % 65536 = 0 := by omega
  have e7 : a / 5192296858534827628530496329220096 % 65536 = 0 := by omega
  unfold numV
  rw [e4, e5, e6, e7]
  rfl
theorem RowU.eight {w : World} {b : Nat} (h : RowU w b [0, 0, 0, 0, 0, 0, 0, 0]) : w.cell? ⟨b, 0, none⟩ = some (.int .u64 0) ∧ w.cell? ⟨b, 1, none⟩ = some (.int .u64 0) ∧ w.cell? ⟨b, 2, none⟩ = some (.int .u64 0) ∧ w.cell? ⟨b, 3, none⟩ = some (.int .u64 0) ∧ w.cell? ⟨b, 4, none⟩ = some (.int .u64 0) ∧ w.cell? ⟨b, 5, none⟩ = some (.int .u64 0) ∧ w.cell? ⟨b, 6, none⟩ = some (.int .u64 0) ∧ w.cell? ⟨b, 7, none⟩ = some (.int .u64 0) ∧ w.frozen? ⟨b, 0, none⟩ = false ∧ w.frozen? ⟨b, 1, none⟩ = false ∧ w.frozen? ⟨b, 2, none⟩ = false ∧ w.frozen? ⟨b, 3, none⟩ = false ∧ w.frozen? ⟨b, 4, none⟩ = false ∧ w.frozen? ⟨b, 5, none⟩ = false ∧ w.frozen? ⟨b, 6, none⟩ = false ∧ w.frozen? ⟨b, 7, none⟩ = false :=
  ⟨h.cell (i := 0) (by simp), h.cell (i := 1) (by simp), h.cell (i := 2) (by simp), h.cell (i := 3) (by simp), h.cell (i := 4) (by simp), h.cell (i := 5) (by simp), h.cell (i := 6) (by simp), h.cell (i := 7) (by simp), h.free 0, h.free 1, h.free 2, h.free 3, h.free 4, h.free 5, h.free 6, h.free 7⟩
theorem cmpN_le {a b : Nat} (h : a ≤ b) : cmpN a b ≤ 0 := by unfold cmpN; split <;> (try split) <;> omega
theorem cmpN_gt {a b : Nat} (h : b < a) : cmpN a b = 1 := by unfold cmpN; rw [if_neg (by omega), if_pos h]
theorem cmpN_lt {a b : Nat} (h : a < b) : cmpN a b = -1 := by unfold cmpN; rw [if_pos h]
set_option maxHeartbeats 6400000 in
set_option maxRecDepth 1000000 in
theorem fair_down (p T wt S : Nat) (w : World) (hp : p < 9223372036854775808) (hT : T < 9223372036854775808) (hw : wt < 9223372036854775808) (hS : S < 9223372036854775808) (h : p * S ≤ T * wt) (h2 : T * wt < p * S + S) :
    Calls Try.prog 20 #[.int .i64 p, .int .i64 T, .int .i64 wt, .int .i64 S] w fun e w' => e = .returned (.bool true) ∧ Below w.heap.size w w' := by
  have m1 : T * wt ≤ 9223372036854775807 * 9223372036854775807 := Nat.mul_le_mul (by omega) (by omega)
  have m2 : p * S ≤ 9223372036854775807 * 9223372036854775807 := Nat.mul_le_mul (by omega) (by omega)
  obtain ⟨e0, e1, e2, e3, e4, e5, e6, e7, -, he⟩ := numV_digs (T * wt)
  obtain ⟨o0, o1, o2, o3, o4, o5, o6, o7, -, ho⟩ := numV_digs (p * S)
  have HM1 := fun W => Lib.hid (rmul_num T wt W (by omega) (by omega))
  have HM2 := fun W => Lib.hid (rmul_num p S W (by omega) (by omega))
  have HC := fun W => Lib.hid (rcmp_any (p * S) (T * wt) W (by omega) (by omega))
  rw [he] at HM1
  rw [ho] at HM2
  rw [he, ho] at HC
  obtain ⟨s0, s1, s2, s3, s4, s5, s6, s7, -, hs⟩ := numV_digs (S)
  obtain ⟨r0, r1, r2, r3, r4, r5, r6, r7, -, hr⟩ := numV_digs (p * S + S)
  have HO := fun W => Lib.hid (of_num S W (by omega))
  have HP := fun W => Lib.hid (rplus_any (p * S) S W (by omega))
  have HC2 := fun W => Lib.hid (rcmp_any (p * S + S) (T * wt) W (by omega) (by omega))
  rw [hs] at HO
  rw [ho, hs, hr] at HP
  rw [he, hr, cmpN_gt h2] at HC2
  have hc1 := cmpN_le h
  generalize cmpN (p * S) (T * wt) = C at *
  have HALL := Lib.hid (And.intro he (And.intro ho (And.intro hs hr)))
  clear he ho hs hr m1 m2 h h2
  go_enter Try.func20, Try.ntmps20
  go_wp2_with fail
  refine (HM1 _).out.mono ?_
  rintro e w1 ⟨rfl, hb1⟩
  have HB1 := Lib.hid hb1
  clear hb1
  go_wp2_with fail
  refine (HM2 _).out.mono ?_
  rintro e w2 ⟨rfl, hb2⟩
  have HBE : Hid (Below w.heap.size w w2) := HB1.out.trans (((Below.refl _ _).alloc HB1.out.size _).trans (hb2.mono (by simp; have := HB1.out.size; omega)))
  have s2 : w1.heap.size < w2.heap.size := by have := hb2.size; simp at this; omega
  have HRE : Hid (RowU w2 w1.heap.size [e0, e1, e2, e3, e4, e5, e6, e7]) := (RowU.new w1 [e0, e1, e2, e3, e4, e5, e6, e7]).below (by rw [Deep.nblk_alloc]; omega) hb2
  have HRO : Hid (RowU (w2.alloc (.cells #[.int .u64 (o0 : Int), .int .u64 (o1 : Int), .int .u64 (o2 : Int), .int .u64 (o3 : Int), .int .u64 (o4 : Int), .int .u64 (o5 : Int), .int .u64 (o6 : Int), .int .u64 (o7 : Int)] 78)) w2.heap.size [o0, o1, o2, o3, o4, o5, o6, o7]) := RowU.new w2 [o0, o1, o2, o3, o4, o5, o6, o7]
  have HRE2 : Hid (RowU (w2.alloc (.cells #[.int .u64 (o0 : Int), .int .u64 (o1 : Int), .int .u64 (o2 : Int), .int .u64 (o3 : Int), .int .u64 (o4 : Int), .int .u64 (o5 : Int), .int .u64 (o6 : Int), .int .u64 (o7 : Int)] 78)) w1.heap.size [e0, e1, e2, e3, e4, e5, e6, e7]) := HRE.out.alloc s2 _
  have HB2 : Hid (Below w.heap.size w (w2.alloc (.cells #[.int .u64 (o0 : Int), .int .u64 (o1 : Int), .int .u64 (o2 : Int), .int .u64 (o3 : Int), .int .u64 (o4 : Int), .int .u64 (o5 : Int), .int .u64 (o6 : Int), .int .u64 (o7 : Int)] 78))) := HBE.out.alloc HBE.out.size _
  have sz3 : w2.heap.size < (w2.alloc (.cells #[.int .u64 (o0 : Int), .int .u64 (o1 : Int), .int .u64 (o2 : Int), .int .u64 (o3 : Int), .int .u64 (o4 : Int), .int .u64 (o5 : Int), .int .u64 (o6 : Int), .int .u64 (o7 : Int)] 78)).heap.size := by rw [Deep.nblk_alloc]; omega
  clear hb2 HBE HB1 HRE HM1 HM2
  have ec0 := HRE2.out.cell (i := 0) (by simp)
  have ec1 := HRE2.out.cell (i := 1) (by simp)
  have ec2 := HRE2.out.cell (i := 2) (by simp)
  have ec3 := HRE2.out.cell (i := 3) (by simp)
  have ec4 := HRE2.out.cell (i := 4) (by simp)
  have ec5 := HRE2.out.cell (i := 5) (by simp)
  have ec6 := HRE2.out.cell (i := 6) (by simp)
  have ec7 := HRE2.out.cell (i := 7) (by simp)
  simp only [List.getElem_cons_zero, List.getElem_cons_succ] at ec0 ec1 ec2 ec3 ec4 ec5 ec6 ec7
  have oc0 := HRO.out.cell (i := 0) (by simp)
  have oc1 := HRO.out.cell (i := 1) (by simp)
  have oc2 := HRO.out.cell (i := 2) (by simp)
  have oc3 := HRO.out.cell (i := 3) (by simp)
  have oc4 := HRO.out.cell (i := 4) (by simp)
  have oc5 := HRO.out.cell (i := 5) (by simp)
  have oc6 := HRO.out.cell (i := 6) (by simp)
  have oc7 := HRO.out.cell (i := 7) (by simp)
  simp only [List.getElem_cons_zero, List.getElem_cons_succ] at oc0 oc1 oc2 oc3 oc4 oc5 oc6 oc7
  go_wp2_with fail
  generalize w2.alloc (.cells #[.int .u64 (o0 : Int), .int .u64 (o1 : Int), .int .u64 (o2 : Int), .int .u64 (o3 : Int), .int .u64 (o4 : Int), .int .u64 (o5 : Int), .int .u64 (o6 : Int), .int .u64 (o7 : Int)] 78) = w3 at *
  generalize w2.heap.size = bo at *
  generalize w1.heap.size = be at *
  refine (HC _).out.mono ?_
  rintro e w4 ⟨rfl, hb4⟩
  have HRO4 := Lib.hid (HRO.out.below sz3 hb4)
  have HRE4 := Lib.hid (HRE2.out.below (by omega) hb4)
  have HB4 : Hid (Below w.heap.size w w4) := HB2.out.trans (hb4.mono HB2.out.size)
  have sz4 : bo < w4.heap.size := by have := hb4.size; omega
  clear hb4 HC HRO HRE2 HB2 ec0 ec1 ec2 ec3 ec4 ec5 ec6 ec7 oc0 oc1 oc2 oc3 oc4 oc5 oc6 oc7
  have ec0 := HRE4.out.cell (i := 0) (by simp)
  have ec1 := HRE4.out.cell (i := 1) (by simp)
  have ec2 := HRE4.out.cell (i := 2) (by simp)
  have ec3 := HRE4.out.cell (i := 3) (by simp)
  have ec4 := HRE4.out.cell (i := 4) (by simp)
  have ec5 := HRE4.out.cell (i := 5) (by simp)
  have ec6 := HRE4.out.cell (i := 6) (by simp)
  have ec7 := HRE4.out.cell (i := 7) (by simp)
  simp only [List.getElem_cons_zero, List.getElem_cons_succ] at ec0 ec1 ec2 ec3 ec4 ec5 ec6 ec7
  have oc0 := HRO4.out.cell (i := 0) (by simp)
  have oc1 := HRO4.out.cell (i := 1) (by simp)
  have oc2 := HRO4.out.cell (i := 2) (by simp)
  have oc3 := HRO4.out.cell (i := 3) (by simp)
  have oc4 := HRO4.out.cell (i := 4) (by simp)
  have oc5 := HRO4.out.cell (i := 5) (by simp)
  have oc6 := HRO4.out.cell (i := 6) (by simp)
  have oc7 := HRO4.out.cell (i := 7) (by simp)
  simp only [List.getElem_cons_zero, List.getElem_cons_succ] at oc0 oc1 oc2 oc3 oc4 oc5 oc6 oc7
  go_wp2_with fail
  have HKEEP : Hid (∀ W', Below w4.heap.size w4 W' → W'.cell? ⟨bo, 0, none⟩ = some (.int .u64 (o0 : Int)) ∧ W'.cell? ⟨bo, 1, none⟩ = some (.int .u64 (o1 : Int)) ∧ W'.cell? ⟨bo, 2, none⟩ = some (.int .u64 (o2 : Int)) ∧ W'.cell? ⟨bo, 3, none⟩ = some (.int .u64 (o3 : Int)) ∧ W'.cell? ⟨bo, 4, none⟩ = some (.int .u64 (o4 : Int)) ∧ W'.cell? ⟨bo, 5, none⟩ = some (.int .u64 (o5 : Int)) ∧ W'.cell? ⟨bo, 6, none⟩ = some (.int .u64 (o6 : Int)) ∧ W'.cell? ⟨bo, 7, none⟩ = some (.int .u64 (o7 : Int))) := fun W' hW => by
    have hR := HRO4.out.below sz4 hW
    have zc0 := hR.cell (i := 0) (by simp)
    have zc1 := hR.cell (i := 1) (by simp)
    have zc2 := hR.cell (i := 2) (by simp)
    have zc3 := hR.cell (i := 3) (by simp)
    have zc4 := hR.cell (i := 4) (by simp)
    have zc5 := hR.cell (i := 5) (by simp)
    have zc6 := hR.cell (i := 6) (by simp)
    have zc7 := hR.cell (i := 7) (by simp)
    simp only [List.getElem_cons_zero, List.getElem_cons_succ] at zc0 zc1 zc2 zc3 zc4 zc5 zc6 zc7
    exact ⟨zc0, zc1, zc2, zc3, zc4, zc5, zc6, zc7⟩
  have HK0 := Lib.hid (HKEEP.out _ ((Below.refl _ _).drew))
  have rS : IntKind.u64.wrap (S : Int) = (S : Int) := by rw [IntKind.wrap_u64]; omega
  have HT0 : Hid (Below w4.heap.size w4 w4.drew) := (Below.refl _ _).drew
  go_region_held3 (fun w' => w'.cell? ⟨bo, 0, none⟩ = some (.int .u64 (o0 : Int)) ∧ w'.cell? ⟨bo, 1, none⟩ = some (.int .u64 (o1 : Int)) ∧ w'.cell? ⟨bo, 2, none⟩ = some (.int .u64 (o2 : Int)) ∧ w'.cell? ⟨bo, 3, none⟩ = some (.int .u64 (o3 : Int)) ∧ w'.cell? ⟨bo, 4, none⟩ = some (.int .u64 (o4 : Int)) ∧ w'.cell? ⟨bo, 5, none⟩ = some (.int .u64 (o5 : Int)) ∧ w'.cell? ⟨bo, 6, none⟩ = some (.int .u64 (o6 : Int)) ∧ w'.cell? ⟨bo, 7, none⟩ = some (.int .u64 (o7 : Int))) (first | (with_reducible exact HK0.out) | (with_reducible exact HK1.out) | (with_reducible exact HK2.out) | (with_reducible exact HKEEP.out _ ((((((((HT6.out.setCell (by first | exact Nat.le_refl _ | exact HT5.out.size) _).setCell (by first | exact Nat.le_refl _ | exact HT5.out.size) _).setCell (by first | exact Nat.le_refl _ | exact HT5.out.size) _).setCell (by first | exact Nat.le_refl _ | exact HT5.out.size) _).setCell (by first | exact Nat.le_refl _ | exact HT5.out.size) _).setCell (by first | exact Nat.le_refl _ | exact HT5.out.size) _).setCell (by first | exact Nat.le_refl _ | exact HT5.out.size) _).setCell (by first | exact Nat.le_refl _ | exact HT5.out.size) _)) | (with_reducible exact HKEEP.out _ (HT6.out.alloc HT6.out.size _)) | (with_reducible exact HKEEP.out _ (HT5.out.alloc HT5.out.size _)) | (with_reducible exact HKEEP.out _ (HT0.out.alloc (Nat.le_refl _) _)) | go_keep) (first | (go_at_call 55; (with_reducible refine (HO _).out.mono ?_); rintro e w5 ⟨rfl, hb5⟩; have HT5 : Hid (Below w4.heap.size w4 w5) := (by first | exact HT0.out.trans hb5 | exact (HT0.out.alloc (Nat.le_refl _) _).trans (hb5.mono (by simp))); have HK1 := Lib.hid (HKEEP.out w5 HT5.out); (first | (have HZ5 : Hid (RowU w5 w4.heap.size [0, 0, 0, 0, 0, 0, 0, 0]) := ((RowU.new w4 [0, 0, 0, 0, 0, 0, 0, 0]).drew).below (by simp) hb5; have s5 : w4.heap.size < w5.heap.size := (by have := hb5.size; simp at this; omega)) | (have HZ5 : Hid (RowU w5 w4.heap.size [0, 0, 0, 0, 0, 0, 0, 0]) := (RowU.new w4.drew [0, 0, 0, 0, 0, 0, 0, 0]).below (by simp) hb5; have s5 : w4.heap.size < w5.heap.size := (by have := hb5.size; simp at this; omega)) | (have HZ5 : Hid (RowU w5 w4.heap.size [0, 0, 0, 0, 0, 0, 0, 0]) := ((RowU.new w4 [0, 0, 0, 0, 0, 0, 0, 0]).drew).below (by show _ < _ + 1; omega) hb5) | skip); clear hb5) | (go_at_call 54; (with_reducible refine (HP _).out.mono ?_); rintro e w6 ⟨rfl, hb6⟩; have HT6 : Hid (Below w4.heap.size w4 w6) := (by first | exact HT5.out.trans (hb6.mono HT5.out.size) | exact (HT5.out.alloc HT5.out.size _).trans (hb6.mono (by simp; have := HT5.out.size; omega))); have HK2 := Lib.hid (HKEEP.out w6 HT6.out); (first | (have HZ6 : Hid (RowU w6 w4.heap.size [0, 0, 0, 0, 0, 0, 0, 0]) := HZ5.out.below s5 hb6; obtain ⟨z0, z1, z2, z3, z4, z5, z6, z7, y0, y1, y2, y3, y4, y5, y6, y7⟩ := HZ6.out.eight) | (have HZ6 : Hid (RowU w6 w5.heap.size [0, 0, 0, 0, 0, 0, 0, 0]) := (RowU.new w5 [0, 0, 0, 0, 0, 0, 0, 0]).below (by simp) hb6; obtain ⟨z0, z1, z2, z3, z4, z5, z6, z7, y0, y1, y2, y3, y4, y5, y6, y7⟩ := HZ6.out.eight) | skip); clear hb6))
  ·
    have hbe : be < w4.heap.size := by omega
    have hRE6 := HRE4.out.below hbe HT6.out
    have s6 := HT6.out.size
    have s55 := HT5.out.size
    have HRW : Hid (RowU (w6.alloc (.cells #[.int .u64 (r0 : Int), .int .u64 (r1 : Int), .int .u64 (r2 : Int), .int .u64 (r3 : Int), .int .u64 (r4 : Int), .int .u64 (r5 : Int), .int .u64 (r6 : Int), .int .u64 (r7 : Int)] 78)) w6.heap.size [r0, r1, r2, r3, r4, r5, r6, r7]) := RowU.new w6 [r0, r1, r2, r3, r4, r5, r6, r7]
    have HREW : Hid (RowU (w6.alloc (.cells #[.int .u64 (r0 : Int), .int .u64 (r1 : Int), .int .u64 (r2 : Int), .int .u64 (r3 : Int), .int .u64 (r4 : Int), .int .u64 (r5 : Int), .int .u64 (r6 : Int), .int .u64 (r7 : Int)] 78)) be [e0, e1, e2, e3, e4, e5, e6, e7]) := hRE6.alloc (by omega) _
    have HBW : Hid (Below w.heap.size w (w6.alloc (.cells #[.int .u64 (r0 : Int), .int .u64 (r1 : Int), .int .u64 (r2 : Int), .int .u64 (r3 : Int), .int .u64 (r4 : Int), .int .u64 (r5 : Int), .int .u64 (r6 : Int), .int .u64 (r7 : Int)] 78))) := HB4.out.trans ((HT6.out.alloc HT6.out.size _).mono HB4.out.size)
    clear ec0 ec1 ec2 ec3 ec4 ec5 ec6 ec7 oc0 oc1 oc2 oc3 oc4 oc5 oc6 oc7
    clear hRE6 HKEEP HK0 HK1 HK2 HRE4 HRO4 HO HP
    generalize w6.alloc (.cells #[.int .u64 (r0 : Int), .int .u64 (r1 : Int), .int .u64 (r2 : Int), .int .u64 (r3 : Int), .int .u64 (r4 : Int), .int .u64 (r5 : Int), .int .u64 (r6 : Int), .int .u64 (r7 : Int)] 78) = W at *
    generalize w6.heap.size = br at *
    have fc0 := HREW.out.cell (i := 0) (by simp)
    have fc1 := HREW.out.cell (i := 1) (by simp)
    have fc2 := HREW.out.cell (i := 2) (by simp)
    have fc3 := HREW.out.cell (i := 3) (by simp)
    have fc4 := HREW.out.cell (i := 4) (by simp)
    have fc5 := HREW.out.cell (i := 5) (by simp)
    have fc6 := HREW.out.cell (i := 6) (by simp)
    have fc7 := HREW.out.cell (i := 7) (by simp)
    simp only [List.getElem_cons_zero, List.getElem_cons_succ] at fc0 fc1 fc2 fc3 fc4 fc5 fc6 fc7
    have rc0 := HRW.out.cell (i := 0) (by simp)
    have rc1 := HRW.out.cell (i := 1) (by simp)
    have rc2 := HRW.out.cell (i := 2) (by simp)
    have rc3 := HRW.out.cell (i := 3) (by simp)
    have rc4 := HRW.out.cell (i := 4) (by simp)
    have rc5 := HRW.out.cell (i := 5) (by simp)
    have rc6 := HRW.out.cell (i := 6) (by simp)
    have rc7 := HRW.out.cell (i := 7) (by simp)
    simp only [List.getElem_cons_zero, List.getElem_cons_succ] at rc0 rc1 rc2 rc3 rc4 rc5 rc6 rc7
    go_wp2_with fail
    with_reducible refine (HC2 _).out.mono ?_
    rintro e w7 ⟨rfl, hb7⟩
    have HB7 : Hid (Below w.heap.size w w7) := HBW.out.trans (hb7.mono HBW.out.size)
    clear hb7
    go_wp2_with fail
    go_ret
    exact ⟨rfl, HB7.out⟩
  ·
    have hbe : be < w4.heap.size := by omega
    have hRE6 := HRE4.out.below hbe HT6.out
    have s6 := HT6.out.size
    have s55 := HT5.out.size
    have HRW : Hid (RowU ((((((((w6.setCell ⟨w5.heap.size, 0, none⟩ (.int .u64 (r0 : Int))).setCell ⟨w5.heap.size, 1, none⟩ (.int .u64 (r1 : Int))).setCell ⟨w5.heap.size, 2, none⟩ (.int .u64 (r2 : Int))).setCell ⟨w5.heap.size, 3, none⟩ (.int .u64 (r3 : Int))).setCell ⟨w5.heap.size, 4, none⟩ (.int .u64 (r4 : Int))).setCell ⟨w5.heap.size, 5, none⟩ (.int .u64 (r5 : Int))).setCell ⟨w5.heap.size, 6, none⟩ (.int .u64 (r6 : Int))).setCell ⟨w5.heap.size, 7, none⟩ (.int .u64 (r7 : Int))) w5.heap.size [r0, r1, r2, r3, r4, r5, r6, r7]) := ((((((((HZ6.out.set 0 r0).set 1 r1).set 2 r2).set 3 r3).set 4 r4).set 5 r5).set 6 r6).set 7 r7)
    have HREW : Hid (RowU ((((((((w6.setCell ⟨w5.heap.size, 0, none⟩ (.int .u64 (r0 : Int))).setCell ⟨w5.heap.size, 1, none⟩ (.int .u64 (r1 : Int))).setCell ⟨w5.heap.size, 2, none⟩ (.int .u64 (r2 : Int))).setCell ⟨w5.heap.size, 3, none⟩ (.int .u64 (r3 : Int))).setCell ⟨w5.heap.size, 4, none⟩ (.int .u64 (r4 : Int))).setCell ⟨w5.heap.size, 5, none⟩ (.int .u64 (r5 : Int))).setCell ⟨w5.heap.size, 6, none⟩ (.int .u64 (r6 : Int))).setCell ⟨w5.heap.size, 7, none⟩ (.int .u64 (r7 : Int))) be [e0, e1, e2, e3, e4, e5, e6, e7]) := ((((((((hRE6.other _ (by show be ≠ w5.heap.size; omega)).other _ (by show be ≠ w5.heap.size; omega)).other _ (by show be ≠ w5.heap.size; omega)).other _ (by show be ≠ w5.heap.size; omega)).other _ (by show be ≠ w5.heap.size; omega)).other _ (by show be ≠ w5.heap.size; omega)).other _ (by show be ≠ w5.heap.size; omega)).other _ (by show be ≠ w5.heap.size; omega))
    have HBW : Hid (Below w.heap.size w ((((((((w6.setCell ⟨w5.heap.size, 0, none⟩ (.int .u64 (r0 : Int))).setCell ⟨w5.heap.size, 1, none⟩ (.int .u64 (r1 : Int))).setCell ⟨w5.heap.size, 2, none⟩ (.int .u64 (r2 : Int))).setCell ⟨w5.heap.size, 3, none⟩ (.int .u64 (r3 : Int))).setCell ⟨w5.heap.size, 4, none⟩ (.int .u64 (r4 : Int))).setCell ⟨w5.heap.size, 5, none⟩ (.int .u64 (r5 : Int))).setCell ⟨w5.heap.size, 6, none⟩ (.int .u64 (r6 : Int))).setCell ⟨w5.heap.size, 7, none⟩ (.int .u64 (r7 : Int)))) := HB4.out.trans ((((((((((HT6.out.setCell (by first | exact Nat.le_refl _ | exact HT5.out.size) _).setCell (by first | exact Nat.le_refl _ | exact HT5.out.size) _).setCell (by first | exact Nat.le_refl _ | exact HT5.out.size) _).setCell (by first | exact Nat.le_refl _ | exact HT5.out.size) _).setCell (by first | exact Nat.le_refl _ | exact HT5.out.size) _).setCell (by first | exact Nat.le_refl _ | exact HT5.out.size) _).setCell (by first | exact Nat.le_refl _ | exact HT5.out.size) _).setCell (by first | exact Nat.le_refl _ | exact HT5.out.size) _)).mono HB4.out.size)
    clear ec0 ec1 ec2 ec3 ec4 ec5 ec6 ec7 oc0 oc1 oc2 oc3 oc4 oc5 oc6 oc7
    clear z0 z1 z2 z3 z4 z5 z6 z7 y0 y1 y2 y3 y4 y5 y6 y7 HZ6
    clear hRE6 HKEEP HK0 HK1 HK2 HRE4 HRO4 HO HP
    generalize (((((((w6.setCell ⟨w5.heap.size, 0, none⟩ (.int .u64 (r0 : Int))).setCell ⟨w5.heap.size, 1, none⟩ (.int .u64 (r1 : Int))).setCell ⟨w5.heap.size, 2, none⟩ (.int .u64 (r2 : Int))).setCell ⟨w5.heap.size, 3, none⟩ (.int .u64 (r3 : Int))).setCell ⟨w5.heap.size, 4, none⟩ (.int .u64 (r4 : Int))).setCell ⟨w5.heap.size, 5, none⟩ (.int .u64 (r5 : Int))).setCell ⟨w5.heap.size, 6, none⟩ (.int .u64 (r6 : Int))).setCell ⟨w5.heap.size, 7, none⟩ (.int .u64 (r7 : Int)) = W at *
    generalize w5.heap.size = br at *
    have fc0 := HREW.out.cell (i := 0) (by simp)
    have fc1 := HREW.out.cell (i := 1) (by simp)
    have fc2 := HREW.out.cell (i := 2) (by simp)
    have fc3 := HREW.out.cell (i := 3) (by simp)
    have fc4 := HREW.out.cell (i := 4) (by simp)
    have fc5 := HREW.out.cell (i := 5) (by simp)
    have fc6 := HREW.out.cell (i := 6) (by simp)
    have fc7 := HREW.out.cell (i := 7) (by simp)
    simp only [List.getElem_cons_zero, List.getElem_cons_succ] at fc0 fc1 fc2 fc3 fc4 fc5 fc6 fc7
    have rc0 := HRW.out.cell (i := 0) (by simp)
    have rc1 := HRW.out.cell (i := 1) (by simp)
    have rc2 := HRW.out.cell (i := 2) (by simp)
    have rc3 := HRW.out.cell (i := 3) (by simp)
    have rc4 := HRW.out.cell (i := 4) (by simp)
    have rc5 := HRW.out.cell (i := 5) (by simp)
    have rc6 := HRW.out.cell (i := 6) (by simp)
    have rc7 := HRW.out.cell (i := 7) (by simp)
    simp only [List.getElem_cons_zero, List.getElem_cons_succ] at rc0 rc1 rc2 rc3 rc4 rc5 rc6 rc7
    go_wp2_with fail
    with_reducible refine (HC2 _).out.mono ?_
    rintro e w7 ⟨rfl, hb7⟩
    have HB7 : Hid (Below w.heap.size w w7) := HBW.out.trans (hb7.mono HBW.out.size)
    clear hb7
    go_wp2_with fail
    go_ret
    exact ⟨rfl, HB7.out⟩
  ·
    have hbe : be < w4.heap.size := by omega
    have hRE6 := HRE4.out.below hbe HT6.out
    have s6 := HT6.out.size
    have s55 := HT5.out.size
    have HRW : Hid (RowU ((((((((w6.setCell ⟨w4.heap.size, 0, none⟩ (.int .u64 (r0 : Int))).setCell ⟨w4.heap.size, 1, none⟩ (.int .u64 (r1 : Int))).setCell ⟨w4.heap.size, 2, none⟩ (.int .u64 (r2 : Int))).setCell ⟨w4.heap.size, 3, none⟩ (.int .u64 (r3 : Int))).setCell ⟨w4.heap.size, 4, none⟩ (.int .u64 (r4 : Int))).setCell ⟨w4.heap.size, 5, none⟩ (.int .u64 (r5 : Int))).setCell ⟨w4.heap.size, 6, none⟩ (.int .u64 (r6 : Int))).setCell ⟨w4.heap.size, 7, none⟩ (.int .u64 (r7 : Int))) w4.heap.size [r0, r1, r2, r3, r4, r5, r6, r7]) := ((((((((HZ6.out.set 0 r0).set 1 r1).set 2 r2).set 3 r3).set 4 r4).set 5 r5).set 6 r6).set 7 r7)
    have HREW : Hid (RowU ((((((((w6.setCell ⟨w4.heap.size, 0, none⟩ (.int .u64 (r0 : Int))).setCell ⟨w4.heap.size, 1, none⟩ (.int .u64 (r1 : Int))).setCell ⟨w4.heap.size, 2, none⟩ (.int .u64 (r2 : Int))).setCell ⟨w4.heap.size, 3, none⟩ (.int .u64 (r3 : Int))).setCell ⟨w4.heap.size, 4, none⟩ (.int .u64 (r4 : Int))).setCell ⟨w4.heap.size, 5, none⟩ (.int .u64 (r5 : Int))).setCell ⟨w4.heap.size, 6, none⟩ (.int .u64 (r6 : Int))).setCell ⟨w4.heap.size, 7, none⟩ (.int .u64 (r7 : Int))) be [e0, e1, e2, e3, e4, e5, e6, e7]) := ((((((((hRE6.other _ (by show be ≠ w4.heap.size; omega)).other _ (by show be ≠ w4.heap.size; omega)).other _ (by show be ≠ w4.heap.size; omega)).other _ (by show be ≠ w4.heap.size; omega)).other _ (by show be ≠ w4.heap.size; omega)).other _ (by show be ≠ w4.heap.size; omega)).other _ (by show be ≠ w4.heap.size; omega)).other _ (by show be ≠ w4.heap.size; omega))
    have HBW : Hid (Below w.heap.size w ((((((((w6.setCell ⟨w4.heap.size, 0, none⟩ (.int .u64 (r0 : Int))).setCell ⟨w4.heap.size, 1, none⟩ (.int .u64 (r1 : Int))).setCell ⟨w4.heap.size, 2, none⟩ (.int .u64 (r2 : Int))).setCell ⟨w4.heap.size, 3, none⟩ (.int .u64 (r3 : Int))).setCell ⟨w4.heap.size, 4, none⟩ (.int .u64 (r4 : Int))).setCell ⟨w4.heap.size, 5, none⟩ (.int .u64 (r5 : Int))).setCell ⟨w4.heap.size, 6, none⟩ (.int .u64 (r6 : Int))).setCell ⟨w4.heap.size, 7, none⟩ (.int .u64 (r7 : Int)))) := HB4.out.trans ((((((((((HT6.out.setCell (by first | exact Nat.le_refl _ | exact HT5.out.size) _).setCell (by first | exact Nat.le_refl _ | exact HT5.out.size) _).setCell (by first | exact Nat.le_refl _ | exact HT5.out.size) _).setCell (by first | exact Nat.le_refl _ | exact HT5.out.size) _).setCell (by first | exact Nat.le_refl _ | exact HT5.out.size) _).setCell (by first | exact Nat.le_refl _ | exact HT5.out.size) _).setCell (by first | exact Nat.le_refl _ | exact HT5.out.size) _).setCell (by first | exact Nat.le_refl _ | exact HT5.out.size) _)).mono HB4.out.size)
    clear ec0 ec1 ec2 ec3 ec4 ec5 ec6 ec7 oc0 oc1 oc2 oc3 oc4 oc5 oc6 oc7
    clear z0 z1 z2 z3 z4 z5 z6 z7 y0 y1 y2 y3 y4 y5 y6 y7 HZ6
    clear HZ5
    clear hRE6 HKEEP HK0 HK1 HK2 HRE4 HRO4 HO HP
    generalize (((((((w6.setCell ⟨w4.heap.size, 0, none⟩ (.int .u64 (r0 : Int))).setCell ⟨w4.heap.size, 1, none⟩ (.int .u64 (r1 : Int))).setCell ⟨w4.heap.size, 2, none⟩ (.int .u64 (r2 : Int))).setCell ⟨w4.heap.size, 3, none⟩ (.int .u64 (r3 : Int))).setCell ⟨w4.heap.size, 4, none⟩ (.int .u64 (r4 : Int))).setCell ⟨w4.heap.size, 5, none⟩ (.int .u64 (r5 : Int))).setCell ⟨w4.heap.size, 6, none⟩ (.int .u64 (r6 : Int))).setCell ⟨w4.heap.size, 7, none⟩ (.int .u64 (r7 : Int)) = W at *
    generalize w4.heap.size = br at *
    have fc0 := HREW.out.cell (i := 0) (by simp)
    have fc1 := HREW.out.cell (i := 1) (by simp)
    have fc2 := HREW.out.cell (i := 2) (by simp)
    have fc3 := HREW.out.cell (i := 3) (by simp)
    have fc4 := HREW.out.cell (i := 4) (by simp)
    have fc5 := HREW.out.cell (i := 5) (by simp)
    have fc6 := HREW.out.cell (i := 6) (by simp)
    have fc7 := HREW.out.cell (i := 7) (by simp)
    simp only [List.getElem_cons_zero, List.getElem_cons_succ] at fc0 fc1 fc2 fc3 fc4 fc5 fc6 fc7
    have rc0 := HRW.out.cell (i := 0) (by simp)
    have rc1 := HRW.out.cell (i := 1) (by simp)
    have rc2 := HRW.out.cell (i := 2) (by simp)
    have rc3 := HRW.out.cell (i := 3) (by simp)
    have rc4 := HRW.out.cell (i := 4) (by simp)
    have rc5 := HRW.out.cell (i := 5) (by simp)
    have rc6 := HRW.out.cell (i := 6) (by simp)
    have rc7 := HRW.out.cell (i := 7) (by simp)
    simp only [List.getElem_cons_zero, List.getElem_cons_succ] at rc0 rc1 rc2 rc3 rc4 rc5 rc6 rc7
    go_wp2_with fail
    with_reducible refine (HC2 _).out.mono ?_
    rintro e w7 ⟨rfl, hb7⟩
    have HB7 : Hid (Below w.heap.size w w7) := HBW.out.trans (hb7.mono HBW.out.size)
    clear hb7
    go_wp2_with fail
    go_ret
    exact ⟨rfl, HB7.out⟩
set_option maxHeartbeats 6400000 in
set_option maxRecDepth 1000000 in
theorem fair_up (p T wt S : Nat) (w : World) (hp : p + 1 < 9223372036854775808) (hT : T < 9223372036854775808) (hw : wt < 9223372036854775808) (hS : S < 9223372036854775808) (h : T * wt < (p + 1) * S) (h2 : p * S < T * wt) :
    Calls Try.prog 20 #[.int .i64 ((p : Int) + 1), .int .i64 T, .int .i64 wt, .int .i64 S] w fun e w' => e = .returned (.bool true) ∧ Below w.heap.size w w' := by
  have m1 : T * wt ≤ 9223372036854775807 * 9223372036854775807 := Nat.mul_le_mul (by omega) (by omega)
  have m2 : p * S ≤ 9223372036854775807 * 9223372036854775807 := Nat.mul_le_mul (by omega) (by omega)
  have m3 : (p + 1) * S ≤ 9223372036854775807 * 9223372036854775807 := Nat.mul_le_mul (by omega) (by omega)
  obtain ⟨e0, e1, e2, e3, e4, e5, e6, e7, -, he⟩ := numV_digs (T * wt)
  obtain ⟨o0, o1, o2, o3, o4, o5, o6, o7, -, ho⟩ := numV_digs ((p + 1) * S)
  have HM1 := fun W => Lib.hid (rmul_num T wt W (by omega) (by omega))
  have HM2 := fun W => Lib.hid (rmul_num (p + 1) S W (by omega) (by omega))
  have HC := fun W => Lib.hid (rcmp_any ((p + 1) * S) (T * wt) W (by omega) (by omega))
  rw [he] at HM1
  rw [ho] at HM2
  rw [he, ho] at HC
  obtain ⟨l0, l1, l2, l3, l4, l5, l6, l7, -, hl⟩ := numV_digs (p * S)
  have HM3 := fun W => Lib.hid (rmul_num p S W (by omega) (by omega))
  have HC2 := fun W => Lib.hid (rcmp_any (p * S) (T * wt) W (by omega) (by omega))
  rw [hl] at HM3
  rw [he, hl, cmpN_lt h2] at HC2
  rw [cmpN_gt h] at HC
  rw [show (((p + 1 : Nat)) : Int) = (p : Int) + 1 from by omega] at HM2
  have hpp : (0 : Int) ≤ (p : Int) := by omega
  clear he ho hl m1 m2 m3 h h2
  go_enter Try.func20, Try.ntmps20
  go_wp2_with fail
  refine (HM1 _).out.mono ?_
  rintro e w1 ⟨rfl, hb1⟩
  have HB1 := Lib.hid hb1
  clear hb1
  go_wp2_with fail
  refine (HM2 _).out.mono ?_
  rintro e w2 ⟨rfl, hb2⟩
  have HBE : Hid (Below w.heap.size w w2) := HB1.out.trans (((Below.refl _ _).alloc HB1.out.size _).trans (hb2.mono (by simp; have := HB1.out.size; omega)))
  have s2 : w1.heap.size < w2.heap.size := by have := hb2.size; simp at this; omega
  have HRE : Hid (RowU w2 w1.heap.size [e0, e1, e2, e3, e4, e5, e6, e7]) := (RowU.new w1 [e0, e1, e2, e3, e4, e5, e6, e7]).below (by rw [Deep.nblk_alloc]; omega) hb2
  have HRO : Hid (RowU (w2.alloc (.cells #[.int .u64 (o0 : Int), .int .u64 (o1 : Int), .int .u64 (o2 : Int), .int .u64 (o3 : Int), .int .u64 (o4 : Int), .int .u64 (o5 : Int), .int .u64 (o6 : Int), .int .u64 (o7 : Int)] 78)) w2.heap.size [o0, o1, o2, o3, o4, o5, o6, o7]) := RowU.new w2 [o0, o1, o2, o3, o4, o5, o6, o7]
  have HRE2 : Hid (RowU (w2.alloc (.cells #[.int .u64 (o0 : Int), .int .u64 (o1 : Int), .int .u64 (o2 : Int), .int .u64 (o3 : Int), .int .u64 (o4 : Int), .int .u64 (o5 : Int), .int .u64 (o6 : Int), .int .u64 (o7 : Int)] 78)) w1.heap.size [e0, e1, e2, e3, e4, e5, e6, e7]) := HRE.out.alloc s2 _
  have HB2 : Hid (Below w.heap.size w (w2.alloc (.cells #[.int .u64 (o0 : Int), .int .u64 (o1 : Int), .int .u64 (o2 : Int), .int .u64 (o3 : Int), .int .u64 (o4 : Int), .int .u64 (o5 : Int), .int .u64 (o6 : Int), .int .u64 (o7 : Int)] 78))) := HBE.out.alloc HBE.out.size _
  have sz3 : w2.heap.size < (w2.alloc (.cells #[.int .u64 (o0 : Int), .int .u64 (o1 : Int), .int .u64 (o2 : Int), .int .u64 (o3 : Int), .int .u64 (o4 : Int), .int .u64 (o5 : Int), .int .u64 (o6 : Int), .int .u64 (o7 : Int)] 78)).heap.size := by rw [Deep.nblk_alloc]; omega
  clear hb2 HBE HB1 HRE HM1 HM2
  have ec0 := HRE2.out.cell (i := 0) (by simp)
  have ec1 := HRE2.out.cell (i := 1) (by simp)
  have ec2 := HRE2.out.cell (i := 2) (by simp)
  have ec3 := HRE2.out.cell (i := 3) (by simp)
  have ec4 := HRE2.out.cell (i := 4) (by simp)
  have ec5 := HRE2.out.cell (i := 5) (by simp)
  have ec6 := HRE2.out.cell (i := 6) (by simp)
  have ec7 := HRE2.out.cell (i := 7) (by simp)
  simp only [List.getElem_cons_zero, List.getElem_cons_succ] at ec0 ec1 ec2 ec3 ec4 ec5 ec6 ec7
  have oc0 := HRO.out.cell (i := 0) (by simp)
  have oc1 := HRO.out.cell (i := 1) (by simp)
  have oc2 := HRO.out.cell (i := 2) (by simp)
  have oc3 := HRO.out.cell (i := 3) (by simp)
  have oc4 := HRO.out.cell (i := 4) (by simp)
  have oc5 := HRO.out.cell (i := 5) (by simp)
  have oc6 := HRO.out.cell (i := 6) (by simp)
  have oc7 := HRO.out.cell (i := 7) (by simp)
  simp only [List.getElem_cons_zero, List.getElem_cons_succ] at oc0 oc1 oc2 oc3 oc4 oc5 oc6 oc7
  go_wp2_with fail
  generalize w2.alloc (.cells #[.int .u64 (o0 : Int), .int .u64 (o1 : Int), .int .u64 (o2 : Int), .int .u64 (o3 : Int), .int .u64 (o4 : Int), .int .u64 (o5 : Int), .int .u64 (o6 : Int), .int .u64 (o7 : Int)] 78) = w3 at *
  generalize w2.heap.size = bo at *
  generalize w1.heap.size = be at *
  refine (HC _).out.mono ?_
  rintro e w4 ⟨rfl, hb4⟩
  have HRE4 := Lib.hid (HRE2.out.below (by omega) hb4)
  have HB4 : Hid (Below w.heap.size w w4) := HB2.out.trans (hb4.mono HB2.out.size)
  have sz4 : be < w4.heap.size := by have := hb4.size; omega
  clear hb4 HC HRO HRE2 HB2 ec0 ec1 ec2 ec3 ec4 ec5 ec6 ec7 oc0 oc1 oc2 oc3 oc4 oc5 oc6 oc7
  go_wp2_with fail
  refine (HM3 _).out.mono ?_
  rintro e w5 ⟨rfl, hb5⟩
  have HREW0 := HRE4.out.below sz4 hb5
  have sz5 : be < w5.heap.size := by have := hb5.size; omega
  have HB5 : Hid (Below w.heap.size w w5) := HB4.out.trans (hb5.mono HB4.out.size)
  have HREW : Hid (RowU (w5.alloc (.cells #[.int .u64 (l0 : Int), .int .u64 (l1 : Int), .int .u64 (l2 : Int), .int .u64 (l3 : Int), .int .u64 (l4 : Int), .int .u64 (l5 : Int), .int .u64 (l6 : Int), .int .u64 (l7 : Int)] 78)) be [e0, e1, e2, e3, e4, e5, e6, e7]) := HREW0.alloc sz5 _
  have HRW : Hid (RowU (w5.alloc (.cells #[.int .u64 (l0 : Int), .int .u64 (l1 : Int), .int .u64 (l2 : Int), .int .u64 (l3 : Int), .int .u64 (l4 : Int), .int .u64 (l5 : Int), .int .u64 (l6 : Int), .int .u64 (l7 : Int)] 78)) w5.heap.size [l0, l1, l2, l3, l4, l5, l6, l7]) := RowU.new w5 [l0, l1, l2, l3, l4, l5, l6, l7]
  have HBW : Hid (Below w.heap.size w (w5.alloc (.cells #[.int .u64 (l0 : Int), .int .u64 (l1 : Int), .int .u64 (l2 : Int), .int .u64 (l3 : Int), .int .u64 (l4 : Int), .int .u64 (l5 : Int), .int .u64 (l6 : Int), .int .u64 (l7 : Int)] 78))) := HB5.out.alloc HB5.out.size _
  clear hb5 HREW0
  have ec0 := HREW.out.cell (i := 0) (by simp)
  have ec1 := HREW.out.cell (i := 1) (by simp)
  have ec2 := HREW.out.cell (i := 2) (by simp)
  have ec3 := HREW.out.cell (i := 3) (by simp)
  have ec4 := HREW.out.cell (i := 4) (by simp)
  have ec5 := HREW.out.cell (i := 5) (by simp)
  have ec6 := HREW.out.cell (i := 6) (by simp)
  have ec7 := HREW.out.cell (i := 7) (by simp)
  simp only [List.getElem_cons_zero, List.getElem_cons_succ] at ec0 ec1 ec2 ec3 ec4 ec5 ec6 ec7
  have lc0 := HRW.out.cell (i := 0) (by simp)
  have lc1 := HRW.out.cell (i := 1) (by simp)
  have lc2 := HRW.out.cell (i := 2) (by simp)
  have lc3 := HRW.out.cell (i := 3) (by simp)
  have lc4 := HRW.out.cell (i := 4) (by simp)
  have lc5 := HRW.out.cell (i := 5) (by simp)
  have lc6 := HRW.out.cell (i := 6) (by simp)
  have lc7 := HRW.out.cell (i := 7) (by simp)
  simp only [List.getElem_cons_zero, List.getElem_cons_succ] at lc0 lc1 lc2 lc3 lc4 lc5 lc6 lc7
  go_wp2_with fail
  refine (HC2 _).out.mono ?_
  rintro e w7 ⟨rfl, hb7⟩
  have HB7 : Hid (Below w.heap.size w w7) := HBW.out.trans (hb7.mono HBW.out.size)
  clear hb7
  go_wp2_with fail
  go_ret
  exact ⟨rfl, HB7.out⟩
/-- A part that is fair by its size. -/
theorem fair_any (p T wt S : Int) (w : World) (hp : 0 ≤ p) (hp2 : p ≤ 9223372036854775807) (hT0 : 0 ≤ T) (hT : T ≤ 9223372036854775807) (hw0 : 0 ≤ wt) (hw : wt ≤ 9223372036854775807) (hS0 : 0 ≤ S) (hS : S ≤ 9223372036854775807) (h1 : p * S ≤ T * wt → T * wt < p * S + S) (h2 : T * wt < p * S → (p - 1) * S < T * wt) :
    Calls Try.prog 20 #[.int .i64 p, .int .i64 T, .int .i64 wt, .int .i64 S] w fun e w' => e = .returned (.bool true) ∧ Below w.heap.size w w' := by
  obtain ⟨T, rfl⟩ := Int.eq_ofNat_of_zero_le hT0
  obtain ⟨wt, rfl⟩ := Int.eq_ofNat_of_zero_le hw0
  obtain ⟨S, rfl⟩ := Int.eq_ofNat_of_zero_le hS0
  by_cases hc : p * (S : Int) ≤ (T : Int) * wt
  · obtain ⟨p, rfl⟩ := Int.eq_ofNat_of_zero_le hp
    have h3 := h1 hc
    exact fair_down p T wt S w (by omega) (by omega) (by omega) (by omega) (by exact_mod_cast hc) (by exact_mod_cast h3)
  · have h3 := h2 (by omega)
    rcases Int.eq_ofNat_of_zero_le hp with ⟨p, rfl⟩
    cases p with
    | zero => exact absurd (Int.mul_nonneg hT0 hw0) (by simp at hc; omega)
    | succ q =>
      have e : ((q + 1 : Nat) : Int) - 1 = (q : Int) := by omega
      rw [e] at h3
      have := fair_up q T wt S w (by omega) (by omega) (by omega) (by omega) (by have : (T : Int) * wt < ((q + 1 : Nat) : Int) * S := by omega
                                                                                 exact_mod_cast this) (by exact_mod_cast h3)
      rw [show ((q + 1 : Nat) : Int) = (q : Int) + 1 from by omega]
      exact this
end Go.Proofs.Ytblplkajgbbkdaa
