/-
  What package bound's Script, sum and Draws come to, over this seat's translation: contracts for callers.
-/
import Derived.Test.YtedmbmfppjokpaaBound2
import Derived.Test.YtedmbmfppjokpaaMoneySumS
import Derived.Deep.RegionHeld3
namespace Go.Proofs.Ytedmbmfppjokpaa
open Go.RowKit

theorem ckI_bad {x : Cfg} (h : okB x = false) : ckI x = 1 := by unfold ckI; rw [h]; rfl
theorem ckI_ok {x : Cfg} (h : okB x = true) : ckI x = 0 := by unfold ckI; rw [h]; rfl
def scV (x : Cfg) (n : Int) : Int := if okB x = true ∧ 0 ≤ n ∧ n ≤ 1024 then amtV (n * stepI x) else 0
def scE (x : Cfg) (n : Int) : Int := if okB x = true ∧ 0 ≤ n ∧ n ≤ 1024 then amtE (n * stepI x) else 1
theorem sc_bad {x : Cfg} {n : Int} (h : ¬ (okB x = true ∧ 0 ≤ n ∧ n ≤ 1024)) : scV x n = 0 ∧ scE x n = 1 := by unfold scV scE; rw [if_neg h, if_neg h]; exact ⟨rfl, rfl⟩
theorem sc_ok {x : Cfg} {n : Int} (h : okB x = true ∧ 0 ≤ n ∧ n ≤ 1024) : scV x n = amtV (n * stepI x) ∧ scE x n = amtE (n * stepI x) := by unfold scV scE; rw [if_pos h, if_pos h]; exact ⟨rfl, rfl⟩
theorem stepI_I64 (x : Cfg) : I64 (stepI x) := by
  unfold stepI
  cases hok : okB x
  · simp [I64]
  · obtain ⟨b0, b1, b2, b3⟩ := ok_bounds hok
    have h1 : (12 * ((x.ms.length : Int) + 1)) * ((x.ss.length : Int) + 1) ≤ 12 * 17 * 9 := Int.mul_le_mul (by omega) (by omega) (by omega) (by omega)
    have h2 : 0 ≤ (12 * ((x.ms.length : Int) + 1)) * ((x.ss.length : Int) + 1) := Int.mul_nonneg (by omega) (by omega)
    unfold I64
    simp only [if_true]
    omega
set_option maxRecDepth 100000 in
set_option maxHeartbeats 1600000 in
theorem script_any (x : Cfg) (n : Int) (w : World) (hn : I64 n) (h : CfOk w x) (hm : x.ms.length ≤ 100000) (hs : x.ss.length ≤ 100000) (hc : x.cy.length ≤ 100000) :
    Calls Try.prog 6 #[x.val, .int .i64 n] w fun e w' => e = .returned (.tuple #[.int .i64 (scV x n), .int .i64 (scE x n)]) ∧ Below w.heap.size w w' := by
  have HB0 := Lib.hid (box_below w x)
  have HW := Lib.hid (check_any x (w.alloc (.cells #[.slice x.Am x.ms.length x.cm, .slice x.As x.ss.length x.cs, .slice x.Ac x.cy.length x.cc, .int .i64 x.line, .int .i64 x.capi, .int .i64 x.lead, .int .i64 x.tr, .int .i64 x.bids] 26)) (h.below (box_below w x)) hm hs hc)
  have HCF := Lib.hid (cf_new w x)
  have HOK := Lib.hid (h.below (box_below w x))
  have HN := Lib.hid hn
  have HST : Hid (∀ w, CfOk w x → Calls Try.prog 9 #[x.val] w fun e w' => e = .returned (.int .i64 (stepI x)) ∧ Below w.heap.size w w') := fun w h => bstep_any x w h hm hs hc
  have HMU : Hid (∀ w, Calls Try.prog 16 #[.int .i64 n, .int .i64 (stepI x)] w fun e w' => e = .returned (.tuple #[.int .i64 (amtV (n * stepI x)), .int .i64 (amtE (n * stepI x))]) ∧ w = w') := fun w => mul_any n (stepI x) w hn (stepI_I64 x)
  have HG := Lib.hid (@sc_ok x n)
  have HX := Lib.hid (@sc_bad x n)
  generalize scV x n = sv at *
  generalize scE x n = se at *
  generalize amtV (n * stepI x) = mv at *
  generalize amtE (n * stepI x) = me at *
  generalize stepI x = st at *
  unfold Cfg.val at *
  clear h hn
  cases hok : okB x
  · rw [ckI_bad hok] at HW
    obtain ⟨rfl, rfl⟩ := HX.out (by rw [hok]; simp)
    clear HX HG
    go_enter Try.func6, Try.ntmps6
    go_wp2_with fail
    refine HW.out.mono ?_
    rintro e w2 ⟨rfl, hb⟩
    have HB : Hid (Below w.heap.size w w2) := HB0.out.trans (hb.mono (by simp))
    clear hb
    go_wp2_with fail
    go_ret2
    exact ⟨rfl, HB.out⟩
  · rw [ckI_ok hok] at HW
    by_cases h1 : n < 0
    · obtain ⟨rfl, rfl⟩ := HX.out (by omega)
      clear HX HG
      go_enter Try.func6, Try.ntmps6
      go_wp2_with fail
      refine HW.out.mono ?_
      rintro e w2 ⟨rfl, hb⟩
      have HB : Hid (Below w.heap.size w w2) := HB0.out.trans (hb.mono (by simp))
      clear hb
      go_wp2_with fail
      go_ret2
      exact ⟨rfl, HB.out⟩
    · by_cases h2 : 1024 < n
      · obtain ⟨rfl, rfl⟩ := HX.out (by omega)
        clear HX HG
        go_enter Try.func6, Try.ntmps6
        go_wp2_with fail
        refine HW.out.mono ?_
        rintro e w2 ⟨rfl, hb⟩
        have HB : Hid (Below w.heap.size w w2) := HB0.out.trans (hb.mono (by simp))
        clear hb
        go_wp2_with fail
        go_ret2
        exact ⟨rfl, HB.out⟩
      · obtain ⟨rfl, rfl⟩ := HG.out ⟨hok, by omega, by omega⟩
        clear HX HG
        go_enter Try.func6, Try.ntmps6
        go_wp2_with fail
        refine HW.out.mono ?_
        rintro e w2 ⟨rfl, hb⟩
        have HB : Hid (Below w.heap.size w w2) := HB0.out.trans (hb.mono (by simp))
        have HCG := Lib.hid (HCF.out.below hb)
        have HS2 := Lib.hid (HST.out _ (HOK.out.below hb))
        have c0 := HCG.out.c0; have c1 := HCG.out.c1; have c2 := HCG.out.c2; have c3 := HCG.out.c3; have c4 := HCG.out.c4; have c5 := HCG.out.c5; have c6 := HCG.out.c6; have c7 := HCG.out.c7
        clear hb
        go_wp2_with fail
        refine HS2.out.mono ?_
        rintro e w3 ⟨rfl, hb⟩
        have HD : Hid (Below w.heap.size w w3) := HB.out.trans (hb.mono HB.out.size)
        clear hb c0 c1 c2 c3 c4 c5 c6 c7
        go_wp2_with fail
        refine (HMU.out _).mono ?_
        rintro e w4 ⟨rfl, rfl⟩
        go_wp2_with fail
        go_ret2
        exact ⟨rfl, HD.out⟩
/-- What may be drawn, one behind the other. -/
def dvL (x : Cfg) (k : Nat) : List Int := x.line :: x.capi :: (x.ms.take k).map Pr.b
theorem dvL_len (x : Cfg) (k : Nat) : (dvL x k).length ≤ x.ms.length + 2 := by unfold dvL; simp; omega
theorem dvL_snoc {x : Cfg} {k : Nat} (hk : k < x.ms.length) : dvL x (k + 1) = dvL x k ++ [x.ms[k].b] := by
  unfold dvL; rw [List.take_succ_eq_append_getElem hk, List.map_append]; rfl
theorem ok_memb {x : Cfg} (h : okB x = true) : (∀ y ∈ x.ms, 0 ≤ y.b ∧ y.b ≤ 1099511627776) ∧ (0 ≤ x.line ∧ x.line ≤ 1099511627776) ∧ (0 ≤ x.capi ∧ x.capi ≤ 1099511627776) := by
  simp only [okB, membsB, membB, inB, Bool.and_eq_true, decide_eq_true_eq, List.all_eq_true] at h
  refine ⟨fun y hy => ?_, ?_⟩
  · have := (h.1.1.1.1.1.1.1.1 y hy).2
    omega
  · omega
theorem dvL_I64 {x : Cfg} (h : okB x = true) (k : Nat) : ∀ y ∈ dvL x k, I64 y := by
  obtain ⟨h1, h2, h3⟩ := ok_memb h
  intro y hy
  unfold dvL at hy
  simp only [List.mem_cons, List.mem_map] at hy
  unfold I64
  rcases hy with rfl | rfl | ⟨z, hz, rfl⟩
  · omega
  · omega
  · have := h1 z (List.mem_of_mem_take hz)
    omega
def dwV (x : Cfg) : Int := if okB x = true then amtV (sumI (dvL x x.ms.length)) else 0
def dwE (x : Cfg) : Int := if okB x = true then amtE (sumI (dvL x x.ms.length)) else 1
theorem dw_bad {x : Cfg} (h : okB x = false) : dwV x = 0 ∧ dwE x = 1 := by unfold dwV dwE; rw [h]; exact ⟨rfl, rfl⟩
theorem dw_ok {x : Cfg} (h : okB x = true) : dwV x = amtV (sumI (dvL x x.ms.length)) ∧ dwE x = amtE (sumI (dvL x x.ms.length)) := by unfold dwV dwE; rw [if_pos h, if_pos h]; exact ⟨rfl, rfl⟩
theorem i64_info : (Try.prog.info? 2).map (fun i => (i.zero, i.size, i.bytes)) = some (some (.int .i64 0), 1, 8) := by kernel_rfl
/-- A slice of two that was made just now. -/
theorem own_two (w : World) (e : TypeId) (a b : Value) {base : Nat} (hb : base ≤ w.heap.size) : (w.alloc (.cells #[a, b] e)).ownsRow base e 1 (.slice (some ⟨w.heap.size, 0, none⟩) 2 2) 2 [a, b] :=
  ⟨by simp, Or.inr ⟨w.heap.size, 2, #[a, b], rfl, hb, heap_alloc_new w _, Nat.le_refl _, by decide, by simp, by simp⟩⟩
set_option maxRecDepth 100000 in
set_option maxHeartbeats 400000 in
theorem bsum_any (l : List Int) (A : Option Addr) (c : Nat) (w : World) (hl : ∀ x ∈ l, I64 x) (hs : Seg w w.heap.size A (l.map (Value.int .i64))) (hn : l.length ≤ 4611686018427387904) :
    Calls Try.prog 17 #[.slice A l.length c] w fun e w' => e = .returned (.tuple #[.int .i64 (amtV (sumI l)), .int .i64 (amtE (sumI l))]) ∧ Below w.heap.size w w' := by
  have HS := Lib.hid (sum_any l A c w hl hs hn)
  clear hl hs hn
  go_enter Try.func17, Try.ntmps17
  go_wp2_with fail
  refine HS.out.mono ?_
  rintro e w2 ⟨rfl, hb⟩
  have HB := Lib.hid hb
  clear hb
  go_wp2_with fail
  go_ret2
  exact ⟨rfl, HB.out⟩
set_option maxRecDepth 100000 in
set_option maxHeartbeats 1600000 in
theorem draws_any (x : Cfg) (w : World) (h : CfOk w x) (hm : x.ms.length ≤ 100000) (hs : x.ss.length ≤ 100000) (hc : x.cy.length ≤ 100000) :
    Calls Try.prog 7 #[x.val] w fun e w' => e = .returned (.tuple #[.int .i64 (dwV x), .int .i64 (dwE x)]) ∧ Below w.heap.size w w' := by
  have HB0 := Lib.hid (box_below w x)
  have HW := Lib.hid (check_any x (w.alloc (.cells #[.slice x.Am x.ms.length x.cm, .slice x.As x.ss.length x.cs, .slice x.Ac x.cy.length x.cc, .int .i64 x.line, .int .i64 x.capi, .int .i64 x.lead, .int .i64 x.tr, .int .i64 x.bids] 26)) (h.below (box_below w x)) hm hs hc)
  have HCF := Lib.hid (cf_new w x)
  have HOK := Lib.hid (h.below (box_below w x))
  have HG := Lib.hid (@dw_ok x)
  have HX := Lib.hid (@dw_bad x)
  have HI := Lib.hid (@dvL_I64 x)
  obtain ⟨i0, hi0, hz0, hz1', hz2⟩ := info_parts i64_info
  generalize dwV x = dv at *
  generalize dwE x = de at *
  unfold Cfg.val at *
  clear h
  cases hok : okB x
  · rw [ckI_bad hok] at HW
    obtain ⟨rfl, rfl⟩ := HX.out hok
    clear HX HG
    go_enter Try.func7, Try.ntmps7
    go_wp2_with fail
    refine HW.out.mono ?_
    rintro e w2 ⟨rfl, hb⟩
    have HB : Hid (Below w.heap.size w w2) := HB0.out.trans (hb.mono (by simp))
    clear hb
    go_wp2_with fail
    go_ret2
    exact ⟨rfl, HB.out⟩
  · rw [ckI_ok hok] at HW
    obtain ⟨rfl, rfl⟩ := HG.out hok
    clear HX HG
    go_enter Try.func7, Try.ntmps7
    go_wp2_with fail
    refine HW.out.mono ?_
    rintro e w2 ⟨rfl, hb⟩
    have HB : Hid (Below w.heap.size w w2) := HB0.out.trans (hb.mono (by simp))
    have HCG := Lib.hid (HCF.out.below hb)
    have HS := Lib.hid (HOK.out.below hb).m
    have c0 := HCG.out.c0; have c3 := HCG.out.c3; have c4 := HCG.out.c4
    have hlt2 := HCG.out.lt
    clear hb
    go_wp2_with fail
    go_loopw [4, 6, 18] (fun u _ i wr => ∃ k : Nat, k ≤ x.ms.length ∧ i = .int .i64 k ∧ Hid (wr.ownsRow w2.heap.size 2 1 u (dvL x k).length ((dvL x k).map (Value.int .i64))) ∧ Hid (Below w2.heap.size w2 wr)) (fun _ _ i _ => x.ms.length - (intOf i).toNat)
    case atStart => exact ⟨0, Nat.zero_le _, rfl, own_two _ _ _ _ (Nat.le_refl _), (Below.refl _ _).alloc (Nat.le_refl _) _⟩
    case round =>
      obtain ⟨k, hk, rfl, HO, HR⟩ := hrel
      have hsz := HR.out.size
      have hyl := dvL_len x k
      by_cases hlt : k < x.ms.length
      · obtain ⟨b, o, e0, hb, d0, d1⟩ := pr_at (HS.out.below HR.out) hlt
        have HF1 := Lib.hid (dvL_snoc hlt)
        generalize dvL x k = ys at *
        rw [e0]
        go_wp2_with (at_builtin; refine wpList_append_own _ rfl _ _ 42 rfl w2.heap.size 2 i0 _ 1 8 Try.underlying42 hi0 hz0 hz1' hz2 rfl (by decide) _ ys.length (ys.map (Value.int .i64)) rfl ((HO.out.alloc _).alloc _) ⟨wr.heap.size + 1, 0, none⟩ 1 1 [.int .i64 x.ms[k].b] rfl rfl (new_cells _ _ #[_] (by simp)) one_int (by simp only [maxLen]; omega) (by omega) (by simp; omega) ?_)
        intro v' w4 hown1 hgrow1 _
        have HO4 : Hid (w4.ownsRow w2.heap.size 2 1 v' (dvL x (k + 1)).length ((dvL x (k + 1)).map (Value.int .i64))) := by
          show World.ownsRow _ _ _ _ _ _ _
          rw [HF1.out, List.map_append, List.length_append]
          exact hown1
        have HG4 : Hid (Below w2.heap.size w2 w4) := ((HR.out.alloc hsz _).alloc (by simp; omega) _).grown hgrow1 (by simp; omega) (fun j hj => own_base HO.out j hj)
        clear hown1 hgrow1
        go_wp2_with fail
        go_roundw
        case rel => exact ⟨k + 1, by omega, by go_num, HO4, HG4⟩
        case measure => simp [intOf]; omega
      · obtain rfl : k = x.ms.length := by omega
        obtain ⟨A2, c2', rfl⟩ := own_form HO.out
        have HSS := Lib.hid (bsum_any (dvL x x.ms.length) A2 c2' wr (HI.out hok _) (Seg.of_own HO.out) (by omega))
        go_wp2_with fail
        refine HSS.out.mono ?_
        rintro e w5 ⟨rfl, hb⟩
        have HD : Hid (Below w.heap.size w w5) := HB.out.trans ((HR.out.mono HB.out.size).trans (hb.mono (Nat.le_trans HB.out.size hsz)))
        clear hb
        go_wp2_with fail
        go_ret2
        exact ⟨rfl, HD.out⟩
end Go.Proofs.Ytedmbmfppjokpaa
