/-
  What script.step and script.Put come to, over this seat's translation: contracts for callers.
-/
import Derived.Test.YtmplokdbbhlomaaDoorSc11
namespace Go.Proofs.YtmplokdbbhlomaaDoor
open Go.RowKit

theorem putS_len {x : St} (hx : StOk x) : (putS x).length ≤ 200 := by
  have h0 := putN_len (n := 0) (I64_small (by omega) (by omega))
  unfold putS
  split
  · have h1 := putC_len hx.2.1
    have h2 := putN_len (n := ((putC x.c).length : Int)) (I64_small (by omega) (by omega))
    unfold putT
    rw [List.length_append, List.length_append]
    omega
  · rename_i h
    by_cases hk : I64 (x.k - 1)
    · have h1 := putN_len hk
      have h2 := putN_len hx.2.2
      rw [List.length_append]
      omega
    · have h3 : I64 x.k := hx.1
      unfold I64 at h3 hk
      have h1 : (putN (x.k - 1)).length ≤ 11 := Lib.uvarint_length 10 _ (by
        unfold Lib.zigzag
        have : (128 : Nat) ^ (10 + 1) = 151115727451828646838272 := by decide
        rw [this]
        split <;> omega)
      have h2 := putN_len hx.2.2
      rw [List.length_append]
      omega
theorem seg_two {w : World} {a b : Int} (t : TypeId) : Seg (w.alloc (.cells #[.int .i64 a, .int .i64 b] t)) (w.alloc (.cells #[.int .i64 a, .int .i64 b] t)).heap.size (some ⟨w.heap.size, 0, none⟩) (([a, b] : List Int).map (Value.int .i64)) := by
  intro j u hu
  refine ⟨w.heap.size, 0, rfl, by simp, ?_⟩
  rw [Nat.zero_add, cell_new _ _ _ j rfl]
  match j, hu with
  | 0, hu => simpa using hu
  | 1, hu => simpa using hu
set_option maxRecDepth 100000 in
set_option maxHeartbeats 3200000 in
theorem step_any (x : St) (hx : StOk x) (hr : rightS x = true) (w : World) : Calls Tryd.prog 17 #[stV x] w fun e w' => e = .returned (.string (bs (putS x))) ∧ Below w.heap.size w w' := by
  have hk := right_kind hr
  obtain ⟨k, c, n⟩ := x
  obtain ⟨hx1, hx2, hx3⟩ := hx
  simp only at hx1 hx2 hx3 hk
  have HW0 : Hid (Below w.heap.size w (w.alloc (.cells (stCells ⟨k, c, n⟩) TSt))) := Lib.hid ((Below.refl _ _).alloc (Nat.le_refl _) _)
  unfold stCells at HW0
  simp only at HW0
  unfold stV stCells
  simp only
  rcases hk with rfl | rfl | rfl
  · have hc : rightC c = true := by
      unfold rightS at hr
      simp at hr
      exact hr.2
    have HP : Hid (putS ⟨1, c, n⟩ = putN 0 ++ putT (putC c)) := Lib.hid rfl
    have hcl := putC_len hx2
    have HCP := Lib.hid (fun W => cput_any c hx2 W)
    have he : errC c = 0 := by unfold errC; rw [hc]; rfl
    rw [hc, he] at HCP
    simp only [if_true] at HCP
    unfold cmV at HCP
    generalize putS ⟨1, c, n⟩ = R at *
    have HZ0 := Lib.hid (fun W => put_any 0 W (I64_small (by omega) (by omega)))
    have HTX := Lib.hid (fun W => text_any (putC c) W (by omega))
    have hzl := putN_len (n := 0) (I64_small (by omega) (by omega))
    have htl : (putT (putC c)).length ≤ 100 := by
      have := putN_len (n := ((putC c).length : Int)) (I64_small (by omega) (by omega))
      unfold putT
      rw [List.length_append]
      omega
    clear hr hc he hcl hx1 hx2 hx3
    generalize putC c = pc at *
    generalize putT pc = pt at *
    generalize putN 0 = pz at *
    have hsz := bs_size pz
    have hst := bs_size pt
    have hap := bs_append pz pt
    have hbig : ¬ 9223372036854775807 < pz.length + pt.length := by omega
    go_enter Tryd.func17, Tryd.ntmps17
    go_wp2_with fail
    refine (HCP.out _).mono ?_
    rintro e w1 ⟨rfl, hb1⟩
    have HW1 : Hid (Below w.heap.size w w1) := Lib.hid (HW0.out.trans (hb1.mono HW0.out.size))
    clear hb1
    go_wp2_with fail
    refine (HZ0.out _).mono ?_
    rintro e w2 ⟨rfl, hb2⟩
    have HW2 : Hid (Below w.heap.size w w2) := Lib.hid (HW1.out.trans (hb2.mono HW1.out.size))
    clear hb2
    go_wp2_with fail
    refine (HTX.out _).mono ?_
    rintro e w3 ⟨rfl, hb3⟩
    have HW3 : Hid (Below w.heap.size w w3) := Lib.hid (HW2.out.trans (hb3.mono HW2.out.size))
    clear hb3
    go_wp2_with fail
    go_ret
    exact ⟨by rw [HP.out]; rfl, HW3.out⟩
  · have HP : Hid (putS ⟨2, c, n⟩ = ([1, n] : List Int).flatMap putN) := Lib.hid (by unfold putS; simp)
    have HAL : Hid (∀ W, Calls Tryd.prog _ _ (World.alloc W (.cells #[.int .i64 1, .int .i64 n] 2)) _) := Lib.hid (fun W => all_any [1, n] (some ⟨W.heap.size, 0, none⟩) 2 (W.alloc (.cells #[.int .i64 1, .int .i64 n] 2)) (seg_two _) (by intro y hy; simp at hy; rcases hy with rfl | rfl; exact I64_small (by omega) (by omega); exact hx3) (by simp))
    have HWA : Hid (Below w.heap.size w ((w.alloc (.cells #[.int .i64 2, .int .i64 c.k, .int .i64 c.i, .int .i64 c.m, .int .i64 c.o, .int .i64 c.s, .int .i64 c.q, .int .i64 c.p, .int .i64 n] TSt)).alloc (.cells #[.int .i64 1, .int .i64 n] 2))) := Lib.hid (HW0.out.alloc HW0.out.size _)
    have HAW := Lib.hid (HAL.out (w.alloc (.cells #[.int .i64 2, .int .i64 c.k, .int .i64 c.i, .int .i64 c.m, .int .i64 c.o, .int .i64 c.s, .int .i64 c.q, .int .i64 c.p, .int .i64 n] TSt)))
    rw [show (w.alloc (.cells #[.int .i64 2, .int .i64 c.k, .int .i64 c.i, .int .i64 c.m, .int .i64 c.o, .int .i64 c.s, .int .i64 c.q, .int .i64 c.p, .int .i64 n] TSt)).heap.size = w.heap.size + 1 by simp] at HAW
    clear hr HAL
    go_enter Tryd.func17, Tryd.ntmps17
    go_wp2_with fail
    refine HAW.out.mono ?_
    rintro e w1 ⟨rfl, hb1⟩
    have HW1 : Hid (Below w.heap.size w w1) := Lib.hid (HWA.out.trans (hb1.mono HWA.out.size))
    clear hb1
    go_wp2_with fail
    go_ret
    exact ⟨by rw [HP.out]; simp, HW1.out⟩
  · have HP : Hid (putS ⟨3, c, n⟩ = ([2, n] : List Int).flatMap putN) := Lib.hid (by unfold putS; simp)
    have HAL : Hid (∀ W, Calls Tryd.prog _ _ (World.alloc W (.cells #[.int .i64 2, .int .i64 n] 2)) _) := Lib.hid (fun W => all_any [2, n] (some ⟨W.heap.size, 0, none⟩) 2 (W.alloc (.cells #[.int .i64 2, .int .i64 n] 2)) (seg_two _) (by intro y hy; simp at hy; rcases hy with rfl | rfl; exact I64_small (by omega) (by omega); exact hx3) (by simp))
    have HWA : Hid (Below w.heap.size w ((w.alloc (.cells #[.int .i64 3, .int .i64 c.k, .int .i64 c.i, .int .i64 c.m, .int .i64 c.o, .int .i64 c.s, .int .i64 c.q, .int .i64 c.p, .int .i64 n] TSt)).alloc (.cells #[.int .i64 2, .int .i64 n] 2))) := Lib.hid (HW0.out.alloc HW0.out.size _)
    have HAW := Lib.hid (HAL.out (w.alloc (.cells #[.int .i64 3, .int .i64 c.k, .int .i64 c.i, .int .i64 c.m, .int .i64 c.o, .int .i64 c.s, .int .i64 c.q, .int .i64 c.p, .int .i64 n] TSt)))
    rw [show (w.alloc (.cells #[.int .i64 3, .int .i64 c.k, .int .i64 c.i, .int .i64 c.m, .int .i64 c.o, .int .i64 c.s, .int .i64 c.q, .int .i64 c.p, .int .i64 n] TSt)).heap.size = w.heap.size + 1 by simp] at HAW
    clear hr HAL
    go_enter Tryd.func17, Tryd.ntmps17
    go_wp2_with fail
    refine HAW.out.mono ?_
    rintro e w1 ⟨rfl, hb1⟩
    have HW1 : Hid (Below w.heap.size w w1) := Lib.hid (HWA.out.trans (hb1.mono HWA.out.size))
    clear hb1
    go_wp2_with fail
    go_ret
    exact ⟨by rw [HP.out]; simp, HW1.out⟩
theorem steps_len : ∀ {l : List St}, (∀ x ∈ l, StOk x) → (l.flatMap putS).length ≤ 200 * l.length
  | [], _ => by simp
  | x :: l, h => by
    have := steps_len (l := l) fun y hy => h y (List.mem_cons_of_mem _ hy)
    have h1 := putS_len (h x (List.mem_cons_self ..))
    rw [List.flatMap_cons, List.length_append, List.length_cons]
    omega
theorem wrongL_zero {l : List St} (h : wrongL l = 0) : l.length ≤ 1024 ∧ ∀ x ∈ l, rightS x = true := by
  unfold wrongL at h
  split at h
  · cases h
  · split at h
    · rename_i h1 h2
      rw [List.all_eq_true] at h2
      exact ⟨by omega, h2⟩
    · cases h
set_option maxRecDepth 100000 in
set_option maxHeartbeats 3200000 in
theorem sput_any (l : List St) (A : Option Addr) (c : Nat) (w : World) (hs : Seg w w.heap.size A (stRows l)) (hI : ∀ x ∈ l, StOk x) : Calls Tryd.prog 6 #[.slice A l.length c] w fun e w' => e = .returned (.tuple #[.string (bs (if wrongL l = 0 then putL l else [])), .int .i64 (wrongL l)]) ∧ Below w.heap.size w w' := by
  have HS := Lib.hid hs
  have HI := Lib.hid hI
  have HAL := Lib.hid (sall_any l A c w hs)
  clear hs hI
  by_cases h0 : wrongL l = 0
  case neg =>
    rw [if_neg h0]
    generalize wrongL l = er at *
    have hne : (er != 0) = true := by simpa using h0
    go_enter Tryd.func6, Tryd.ntmps6
    go_wp2_with (go_at_call 14; refine HAL.out.mono ?_; rintro e w1 ⟨rfl, hb⟩; have HB1 := Lib.hid hb; clear hb)
    go_ret2
    exact ⟨rfl, HB1.out⟩
  obtain ⟨hl, hR⟩ := wrongL_zero h0
  have HR := Lib.hid hR
  rw [if_pos h0]
  rw [h0] at HAL ⊢
  clear h0 hR
  have HLP : Hid (putL l = putN (l.length : Int) ++ (l.take l.length).flatMap putS) := Lib.hid (by rw [List.take_length]; rfl)
  have HPL := Lib.hid (fun W => put_any (l.length : Int) W (I64_small (by omega) (by omega)))
  have hpl := putN_len (n := (l.length : Int)) (I64_small (by omega) (by omega))
  go_enter Tryd.func6, Tryd.ntmps6
  go_wp2_with (go_at_call 14; refine HAL.out.mono ?_; rintro e w1 ⟨rfl, hb⟩; have HB1 := Lib.hid hb; clear hb)
  have HW1 : Hid (Below w.heap.size w (w1.alloc (.cells #[.pointer none, .slice none 0 0] TB))) := Lib.hid (HB1.out.alloc HB1.out.size _)
  have HBD := Lib.hid (bld_fresh w1 w.heap.size HB1.out.size)
  generalize hRE : putL l = R at *
  have HRE := Lib.hid hRE
  clear hRE
  generalize putN (l.length : Int) = pz at *
  refine (HPL.out _).mono ?_
  rintro e w2 ⟨rfl, hb2⟩
  have HBD2 := Lib.hid (bld_below HBD.out hb2)
  have HW2 : Hid (Below w.heap.size w w2) := Lib.hid (HW1.out.trans (hb2.mono HW1.out.size))
  clear hb2 HBD HW1
  have HWR := Lib.hid (write_any w.heap.size w1.heap.size [] (bs pz) w2 HBD2.out (by rw [bs_size, List.length_nil]; omega) HW2.out.size)
  go_wp2_with (go_at_call 15; refine HWR.out.mono ?_)
  rintro e w3 ⟨rfl, hbd3, hb3, _⟩
  have HBD3 : Hid (Lib.IsBuilder TB TU w.heap.size w1.heap.size (Lib.byteCells (pz ++ (l.take 0).flatMap putS)) w3) := Lib.hid (by
    have e : pz ++ (l.take 0).flatMap putS = pz := by simp
    rw [e, ← strCells_mk pz]
    exact hbd3)
  have HW3 : Hid (Below w.heap.size w w3) := Lib.hid (HW2.out.trans hb3)
  clear hbd3 hb3 HWR HBD2 HW2
  go_wp2_with fail
  go_loopw [7, 19] (fun _ i wr => ∃ k : Nat, k ≤ l.length ∧ i = .int .i64 k ∧ Hid (Lib.IsBuilder TB TU w.heap.size w1.heap.size (Lib.byteCells (pz ++ (l.take k).flatMap putS)) wr) ∧ Hid (Below w.heap.size w wr)) (fun _ i _ => l.length - (intOf i).toNat)
  case atStart => exact ⟨0, Nat.zero_le _, rfl, HBD3, HW3⟩
  case round =>
    clear HBD3 HW3
    obtain ⟨k, hk, rfl, HB, HW⟩ := hrel
    by_cases hlt : k < l.length
    · obtain ⟨b, o, rfl, hb, e0, e1, e2, e3, e4, e5, e6, e7, e8⟩ := st_at (HS.out.below HW.out) hlt
      have HSN : Hid ((l.take (k + 1)).flatMap putS = (l.take k).flatMap putS ++ putS l[k]) := Lib.hid (by rw [List.take_succ_eq_append_getElem hlt, List.flatMap_append]; simp)
      have hlen := steps_len (l := l.take k) (fun x hx => HI.out x (List.mem_of_mem_take hx))
      rw [List.length_take] at hlen
      have hxo := HI.out _ (List.getElem_mem hlt)
      have hxr := HR.out _ (List.getElem_mem hlt)
      have hk0 : (0 : Int) ≤ (k : Int) := by omega
      have hkb : (k : Int) < (l.length : Int) := by omega
      generalize l[k] = x at *
      generalize (l.take k).flatMap putS = ys at *
      have hsl := putS_len hxo
      have HBA : Hid (Below wr.heap.size wr (wr.alloc (.cells (stCells x) TSt))) := Lib.hid ((Below.refl _ _).alloc (Nat.le_refl _) _)
      have HBA2 := Lib.hid (bld_below HB.out HBA.out)
      have HWA : Hid (Below w.heap.size w (wr.alloc (.cells (stCells x) TSt))) := Lib.hid (HW.out.trans (HBA.out.mono HW.out.size))
      have HSC := Lib.hid (fun W => step_any x hxo hxr W)
      unfold stCells at HBA2 HWA
      unfold stV stCells at HSC
      clear HBA
      generalize putS x = px at *
      go_wp2_with (go_at_call 17; refine (HSC.out _).mono ?_)
      rintro e w4 ⟨rfl, hb4⟩
      have HB4 := Lib.hid (bld_below HBA2.out hb4)
      have HW4 : Hid (Below w.heap.size w w4) := Lib.hid (HWA.out.trans (hb4.mono HWA.out.size))
      clear hb4 HBA2 HWA
      have HWR := Lib.hid (write_any w.heap.size w1.heap.size _ (bs px) w4 HB4.out (by rw [bs_size, Lib.byteCells_length, List.length_append]; omega) HW4.out.size)
      go_wp2_with (go_at_call 15; refine HWR.out.mono ?_)
      rintro e w5 ⟨rfl, hbd5, hb5, _⟩
      have HB5 : Hid (Lib.IsBuilder TB TU w.heap.size w1.heap.size (Lib.byteCells (pz ++ (l.take (k + 1)).flatMap putS)) w5) := Lib.hid (by
        rw [HSN.out, ← List.append_assoc, bytes_append, ← strCells_mk px]
        exact hbd5)
      have HW5 : Hid (Below w.heap.size w w5) := Lib.hid (HW4.out.trans hb5)
      clear hbd5 hb5 HWR
      go_wp2_with fail
      go_roundw
      case rel => exact ⟨k + 1, by omega, by go_num, HB5, HW5⟩
      case measure => simp [intOf]; omega
    · obtain rfl : k = l.length := by omega
      have hb := HB.out
      rw [← HLP.out] at hb
      have HST := Lib.hid (Tryd.Builder_String_any w.heap.size w1.heap.size _ wr hb HW.out.size)
      clear hb
      go_wp2_with (go_at_call 18; refine HST.out.mono ?_)
      rintro e w8 ⟨rfl, hb8⟩
      have HW8 : Hid (Below w.heap.size w w8) := Lib.hid (HW.out.trans hb8)
      clear hb8 HST
      go_wp2_with fail
      go_ret2
      exact ⟨by rw [HRE.out]; rfl, HW8.out⟩
end Go.Proofs.YtmplokdbbhlomaaDoor
