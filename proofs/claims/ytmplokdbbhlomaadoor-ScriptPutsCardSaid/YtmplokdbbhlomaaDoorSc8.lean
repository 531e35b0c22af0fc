/-
  What codec.Put comes to, over this seat's translation: a contract for callers.
-/
import Derived.Test.YtmplokdbbhlomaaDoorSc7
namespace Go.Proofs.YtmplokdbbhlomaaDoor
open Go.RowKit

theorem putF_succ (c : Cm) {j : Nat} (hj : j < 6) : putF c (six.take (j + 1)) = putF c (six.take j) ++ (if hasB c.k j then putN (c.get j) else []) := by
  have e : six.take (j + 1) = six.take j ++ [j] := by
    rcases six_cases hj with rfl | rfl | rfl | rfl | rfl | rfl
    all_goals rfl
  unfold putF
  rw [e, List.flatMap_append]
  simp
theorem tv_tu (cs : Array Value) (c : Array Value) (fz : Nat × Nat) : Obj.cells cs TV (0, 0) ≠ Obj.cells c TU fz := by
  intro e
  injection e with _ e _
  exact absurd e (by decide)
theorem take_len {c : Cm} (hc : CmOk c) (j : Nat) (hj : j ≤ 6) : (putN c.k ++ putF c (six.take j)).length ≤ 70 := by
  have h1 := putN_len hc.1
  have h2 := putF_len hc (six.take j)
  rw [List.length_take] at h2
  rw [List.length_append]
  omega
set_option maxRecDepth 100000 in
set_option maxHeartbeats 6400000 in
theorem cput_any (c : Cm) (hc : CmOk c) (w : World) : Calls Tryd.prog 34 #[cmV c] w fun e w' => e = .returned (.tuple #[.string (bs (if rightC c then putC c else [])), .int .i64 (errC c)]) ∧ Below w.heap.size w w' := by
  have HC := Lib.hid hc
  have HCK := Lib.hid (fun W => check_any c W)
  have HW0 : Hid (Below w.heap.size w (w.alloc (.cells #[.int .i64 c.k, .int .i64 c.i, .int .i64 c.m, .int .i64 c.o, .int .i64 c.s, .int .i64 c.q, .int .i64 c.p] 32))) := Lib.hid ((Below.refl _ _).alloc (Nat.le_refl _) _)
  cases hr : rightC c with
  | false =>
    have he : errC c = 3 := by unfold errC; rw [hr]; rfl
    rw [he] at HCK ⊢
    unfold cmV at HCK ⊢
    go_enter Tryd.func34, Tryd.ntmps34
    go_wp2_with (go_at_call 25; refine (HCK.out _).mono ?_; rintro e w1 ⟨rfl, hb⟩; have HB1 := Lib.hid hb; clear hb)
    go_ret2
    exact ⟨rfl, HW0.out.trans (HB1.out.mono HW0.out.size)⟩
  | true =>
    have he : errC c = 0 := by unfold errC; rw [hr]; rfl
    have hk : isK c.k = true := by
      unfold rightC at hr
      rw [Bool.and_eq_true] at hr
      exact hr.1
    have HH := Lib.hid (fun W => has_any c.k W)
    have HV := Lib.hid (fun W => values_any c W)
    have HAN := Lib.hid (fun j (hj : j < 6) => bit_and hk hj)
    have HPK := Lib.hid (fun W => put_any c.k W hc.1)
    have HPF := Lib.hid (fun j (hj : j < 6) => putF_succ c hj)
    have HTL := Lib.hid (fun j (hj : j ≤ 6) => take_len hc j hj)
    have HGO := Lib.hid (fun j => get_ok hc j)
    have HPC : Hid (putC c = putN c.k ++ putF c (six.take 6)) := Lib.hid rfl
    have HCC : Hid (∀ j, (w.alloc (.cells #[.int .i64 c.k, .int .i64 c.i, .int .i64 c.m, .int .i64 c.o, .int .i64 c.s, .int .i64 c.q, .int .i64 c.p] 32)).cell? ⟨w.heap.size, j, none⟩ = (#[.int .i64 c.k, .int .i64 c.i, .int .i64 c.m, .int .i64 c.o, .int .i64 c.s, .int .i64 c.q, .int .i64 c.p] : Array Value)[j]?) := Lib.hid fun j => cell_new _ _ _ j rfl
    have hz0 : w.heap.size < (w.alloc (.cells #[.int .i64 c.k, .int .i64 c.i, .int .i64 c.m, .int .i64 c.o, .int .i64 c.s, .int .i64 c.q, .int .i64 c.p] 32)).heap.size := by simp
    have HZ0 := Lib.hid hz0
    rw [hk] at HH
    rw [he] at HCK ⊢
    clear hz0 hc he hk hr
    generalize bitsOf c.k = bk at *
    unfold cmV at HCK HV ⊢
    go_enter Tryd.func34, Tryd.ntmps34
    go_wp2_with fail
    generalize (w.alloc (.cells #[.int .i64 c.k, .int .i64 c.i, .int .i64 c.m, .int .i64 c.o, .int .i64 c.s, .int .i64 c.q, .int .i64 c.p] 32)) = w0 at *
    refine (HCK.out w0).mono ?_
    rintro e w1 ⟨rfl, hb1⟩
    have HB1 := Lib.hid hb1
    clear hb1
    have HCW : Hid (∀ W, Below w0.heap.size w0 W → W.cell? ⟨w.heap.size, 0, none⟩ = some (.int .i64 c.k) ∧ W.cell? ⟨w.heap.size, 1, none⟩ = some (.int .i64 c.i) ∧ W.cell? ⟨w.heap.size, 2, none⟩ = some (.int .i64 c.m) ∧ W.cell? ⟨w.heap.size, 3, none⟩ = some (.int .i64 c.o) ∧ W.cell? ⟨w.heap.size, 4, none⟩ = some (.int .i64 c.s) ∧ W.cell? ⟨w.heap.size, 5, none⟩ = some (.int .i64 c.q) ∧ W.cell? ⟨w.heap.size, 6, none⟩ = some (.int .i64 c.p)) := Lib.hid fun W hW => by
      have hh := fun j => (hW.cell (p := ⟨w.heap.size, j, none⟩) HZ0.out).trans (HCC.out j)
      exact ⟨hh 0, hh 1, hh 2, hh 3, hh 4, hh 5, hh 6⟩
    have k0 := (HCW.out w1 HB1.out).1
    have HB2 : Hid (Below w0.heap.size w0 (w1.alloc (.cells #[.pointer none, .slice none 0 0] TB))) := Lib.hid (HB1.out.alloc HB1.out.size _)
    have k1 := (HCW.out _ HB2.out).1
    have HBF : Hid (Lib.IsBuilder TB TU w0.heap.size w1.heap.size [] (w1.alloc (.cells #[.pointer none, .slice none 0 0] TB))) := Lib.hid (bld_fresh w1 w0.heap.size HB1.out.size)
    go_wp2_with (go_at_call 43; refine (HH.out _).mono ?_; rintro e w2 ⟨rfl, rfl⟩)
    refine (HPK.out _).mono ?_
    rintro e w3 ⟨rfl, hb3⟩
    have HBF3 := Lib.hid (bld_below HBF.out hb3)
    have HB3 : Hid (Below w0.heap.size w0 w3) := Lib.hid (HB2.out.trans (hb3.mono HB2.out.size))
    have hbl : w2.heap.size < w3.heap.size := Nat.lt_of_lt_of_le (by simp) hb3.size
    clear hb3 HBF k0 k1 HB2
    have hpk := putN_len HC.out.1
    have HWR := Lib.hid (write_any w0.heap.size w2.heap.size [] (bs (putN c.k)) w3 HBF3.out (by rw [bs_size, List.length_nil]; omega) HB3.out.size)
    go_wp2_with (go_at_call 15; refine HWR.out.mono ?_)
    rintro e w4 ⟨rfl, hbd4, hb4, _⟩
    have HBF4 : Hid (Lib.IsBuilder TB TU w0.heap.size w2.heap.size (Lib.byteCells (putN c.k ++ putF c (six.take 0))) w4) := Lib.hid (by
      have e : putN c.k ++ putF c (six.take 0) = putN c.k := by simp [putF]
      rw [e, ← strCells_mk (putN c.k)]
      exact hbd4)
    have HB4 : Hid (Below w0.heap.size w0 w4) := Lib.hid (HB3.out.trans hb4)
    have hbl4 : w2.heap.size < w4.heap.size := by
      rcases HBF4.out with h | h
      · exact h.lt
      · exact h.lt
    obtain ⟨q0, q1, q2, q3, q4, q5, q6⟩ := HCW.out w4 HB4.out
    clear hbd4 hb4 HWR HBF3 HB3 hbl
    go_wp2_with (go_at_call 44; refine (HV.out _).mono ?_)
    rintro e w5 ⟨g, hg, rfl, hv, hb5⟩
    have HV5 := Lib.hid hv
    have HBF5 := Lib.hid (bld_below HBF4.out hb5)
    have HB5 : Hid (Below w0.heap.size w0 w5) := Lib.hid (HB4.out.trans (hb5.mono HB4.out.size))
    have hgb : g ≠ w2.heap.size := by omega
    clear hv hb5 q0 q1 q2 q3 q4 q5 q6 HBF4 HB4 HV HCK HH HCC HCW hbl4 hg
    go_wp2_with fail
    go_loopw [9, 28] (fun _ i wr => ∃ j : Nat, j ≤ 6 ∧ i = .int .i64 j ∧ Hid (Lib.IsBuilder TB TU w0.heap.size w2.heap.size (Lib.byteCells (putN c.k ++ putF c (six.take j))) wr) ∧ Hid (wr.heap[g]? = some (.cells (vCells c) TV (0, 0))) ∧ Hid (Below w0.heap.size w0 wr)) (fun _ i _ => 6 - (intOf i).toNat)
    case atStart => exact ⟨0, by omega, rfl, HBF5, HV5, HB5⟩
    case round =>
      clear HBF5 HV5 HB5
      obtain ⟨j, hj, rfl, HBJ, HVJ, HJ⟩ := hrel
      by_cases hlt : j < 6
      · obtain ⟨e0, e1, e2⟩ := val_at HVJ.out hlt
        have HAJ := HAN.out j hlt
        have HPJ := Lib.hid (HPF.out j hlt)
        have HTJ := HTL.out j hj
        have HGJ := HGO.out j
        have hpn : (pw j != 0) = true := by have := pw_ne j; simpa using this
        have hj0 : (0 : Int) ≤ (j : Int) := by omega
        have hjb : (j : Int) < 6 := by omega
        have HBA : Hid (Below wr.heap.size wr (wr.alloc (.cells #[.int .i64 (pw j), .int .i64 (c.get j), .func (.func (fnOf j)) #[] #[]] TV))) := Lib.hid ((Below.refl _ _).alloc (Nat.le_refl _) _)
        have HBJ2 := Lib.hid (bld_below HBJ.out HBA.out)
        have HVJ2 := Lib.hid (heap_kept HVJ.out HBA.out)
        have HJ2 : Hid (Below w0.heap.size w0 (wr.alloc (.cells #[.int .i64 (pw j), .int .i64 (c.get j), .func (.func (fnOf j)) #[] #[]] TV))) := Lib.hid (HJ.out.trans (HBA.out.mono HJ.out.size))
        have HPG := Lib.hid (fun W => put_any (c.get j) W HGJ)
        have hpl := putN_len HGJ
        generalize pw j = pj at *
        generalize c.get j = gj at *
        generalize fnOf j = fj at *
        generalize hys : putF c (six.take j) = ys at *
        cases hhb : hasB c.k j with
        | true =>
          rw [hhb, if_pos rfl] at HAJ
          rw [hhb, if_pos rfl] at HPJ
          go_wp2_with (go_at_call 16; refine (HPG.out _).mono ?_)
          rintro e w6 ⟨rfl, hb6⟩
          have HBJ6 := Lib.hid (bld_below HBJ2.out hb6)
          have HVJ6 := Lib.hid (heap_kept HVJ2.out hb6)
          have HJ6 : Hid (Below w0.heap.size w0 w6) := Lib.hid (HJ2.out.trans (hb6.mono HJ2.out.size))
          clear hb6
          have HWR := Lib.hid (write_any w0.heap.size w2.heap.size _ (bs (putN gj)) w6 HBJ6.out (by rw [bs_size, Lib.byteCells_length]; omega) HJ6.out.size)
          go_wp2_with (go_at_call 15; refine HWR.out.mono ?_)
          rintro e w7 ⟨rfl, hbd7, hb7, ho7⟩
          have HBJ7 : Hid (Lib.IsBuilder TB TU w0.heap.size w2.heap.size (Lib.byteCells (putN c.k ++ putF c (six.take (j + 1)))) w7) := Lib.hid (by
            rw [HPJ.out, ← List.append_assoc, bytes_append, ← strCells_mk (putN gj)]
            exact hbd7)
          have HVJ7 : Hid (w7.heap[g]? = some (.cells (vCells c) TV (0, 0))) := Lib.hid (ho7 g _ HVJ6.out (fun e => hgb (by injection e)) (fun cs fz => tv_tu _ cs fz))
          have HJ7 : Hid (Below w0.heap.size w0 w7) := Lib.hid (HJ6.out.trans hb7)
          clear hbd7 hb7 ho7 HWR
          go_wp2_with fail
          go_roundw
          case rel => exact ⟨j + 1, by omega, by go_num, HBJ7, HVJ7, HJ7⟩
          case measure => simp [intOf]; omega
        | false =>
          rw [hhb] at HAJ HPJ
          have hand : bits .and .i64 bk pj = 0 := HAJ
          have HPJ2 : Hid (putF c (six.take (j + 1)) = ys) := Lib.hid (by rw [HPJ.out]; simp)
          clear HAJ HPJ
          go_wp2_with fail
          go_roundw
          case rel => exact ⟨j + 1, by omega, by go_num, by rw [HPJ2.out]; exact HBJ2, HVJ2, HJ2⟩
          case measure => simp [intOf]; omega
      · obtain rfl : j = 6 := by omega
        have hb := HBJ.out
        rw [← HPC.out] at hb
        have HST := Lib.hid (Tryd.Builder_String_any w0.heap.size w2.heap.size _ wr hb HJ.out.size)
        clear hb
        go_wp2_with (go_at_call 18; refine HST.out.mono ?_)
        rintro e w8 ⟨rfl, hb8⟩
        have HJ8 : Hid (Below w0.heap.size w0 w8) := Lib.hid (HJ.out.trans hb8)
        clear hb8 HST
        go_wp2_with fail
        go_ret2
        exact ⟨rfl, HW0.out.trans (HJ8.out.mono HW0.out.size)⟩
end Go.Proofs.YtmplokdbbhlomaaDoor
