/-
  What the methods of complineref19.Sheet come to that change one obligation, over this seat's translation: contracts for callers.
-/
import Derived.Test.YtkjkkcaiddeggaaObRef1
import Derived.Test.YtkjkkcaiddeggaaObAwake
namespace Go.Proofs.Ytkjkkcaiddeggaa
open Go.RowKit

set_option maxRecDepth 100000 in
set_option maxHeartbeats 800000 in
theorem rpay_any (L : List Ob) (m a n : Int) (v : Value) (bs base : Nat) (w : World) (h : RfAt w bs base v L) (hL : Fine L) (hn : n ≤ 9223372036854775807) :
    Calls Try.prog 32 #[.pointer (some ⟨bs, 0, none⟩), .int .i64 m, .int .i64 a, .int .i64 n, .bool false] w (RefP bs base v (payL m a n L) (payE m a n L) w) := by
  have hl : L.length ≤ 1000000 := by have := hL.len; omega
  have HH := Lib.hid h
  by_cases hi : findI m a L < L.length
  · have HI := Lib.hid (find_lt hi)
    have hx : L[findI m a L]? = some L[findI m a L] := List.getElem?_eq_getElem hi
    have hE : payE m a n L = if L[findI m a L].net < 0 then 8 else if n < 1 then 1 else if L[findI m a L].net - L[findI m a L].done < n then 12 else 0 := by unfold payE; rw [hx]
    have hpl : payL m a n L = if payE m a n L = 0 then L.modify (findI m a L) (fun x => { x with done := x.done + n }) else L := rfl
    have HE := Lib.hid hE
    have HPL := Lib.hid hpl
    obtain ⟨o1, o2, o3, o4, o5⟩ := hL.each _ (List.getElem_mem hi)
    have hsz : 0 ≤ L[findI m a L].net → L[findI m a L].done ≤ L[findI m a L].net := by intro h0; unfold Ob.size at o5; rw [if_neg (by omega)] at o5; exact o5
    generalize findI m a L = i at *
    clear hx hE hpl h o1 o3 o5
    obtain ⟨g, cap, rfl, hg, hgb, hcap, hfz, d0, d1, d2, d3, d4, d5⟩ := rf_at HH.out hi
    have c0 := HH.out.c0
    have hkb : (i : Int) < (L.length : Int) := by omega
    have hk0 : (0 : Int) ≤ (i : Int) := by omega
    by_cases hneg : L[i].net < 0
    · clear hsz
      go_enter Try.func32, Try.ntmps32
      go_wp2_with fail
      refine (rfind_any L m a _ bs base _ HH.out hl).mono ?_
      rintro e w1 ⟨rfl, rfl⟩
      rw [HI.out]
      go_wp2_with fail
      go_ret
      have hv : payE m a n L = 8 := by rw [HE.out, if_pos hneg]
      refine ⟨_, ret_int hv.symm, ?_, Only.of_below (Below.refl _ _), from_same rfl⟩
      rw [HPL.out, hv]
      exact HH.out
    · have hnd := hsz (by omega)
      clear hsz
      have hw1 : IntKind.i64.wrap (L[i].net - L[i].done) = L[i].net - L[i].done := IntWalk.i64_in _ (by omega)
      by_cases hn1 : n < 1
      · clear hw1
        go_enter Try.func32, Try.ntmps32
        go_wp2_with fail
        refine (rfind_any L m a _ bs base _ HH.out hl).mono ?_
        rintro e w1 ⟨rfl, rfl⟩
        rw [HI.out]
        go_wp2_with fail
        go_ret
        have hv : payE m a n L = 1 := by rw [HE.out, if_neg (by omega), if_pos hn1]
        refine ⟨_, ret_int hv.symm, ?_, Only.of_below (Below.refl _ _), from_same rfl⟩
        rw [HPL.out, hv]
        exact HH.out
      · by_cases hm : L[i].net - L[i].done < n
        · go_enter Try.func32, Try.ntmps32
          go_wp2_with fail
          refine (rfind_any L m a _ bs base _ HH.out hl).mono ?_
          rintro e w1 ⟨rfl, rfl⟩
          rw [HI.out]
          go_wp2_with fail
          go_quiet (fail)
          clear hw1
          go_wp2_with fail
          go_ret
          have hv : payE m a n L = 12 := by rw [HE.out, if_neg (by omega), if_neg (by omega), if_pos hm]
          refine ⟨_, ret_int hv.symm, ?_, Only.of_below (below_drewN (Below.refl _ _) _), from_same rfl⟩
          rw [HPL.out, hv]
          exact HH.out.drewN _
        · have hf4 := hfz (i * 6 + 4)
          clear hfz
          have hw2 : IntKind.i64.wrap (L[i].done + n) = L[i].done + n := IntWalk.i64_in _ (by omega)
          have HW2 := Lib.hid hw2
          clear hw2
          go_enter Try.func32, Try.ntmps32
          go_wp2_with fail
          refine (rfind_any L m a _ bs base _ HH.out hl).mono ?_
          rintro e w1 ⟨rfl, rfl⟩
          rw [HI.out]
          go_wp2_with fail
          go_quiet (fail)
          clear hw1
          go_wp2_with fail
          have hw2 := HW2.out
          go_region
          clear hw2
          go_wp2_with fail
          go_ret
          have hv : payE m a n L = 0 := by rw [HE.out, if_neg (by omega), if_neg (by omega), if_neg (by omega)]
          refine ⟨.slice (some ⟨g, 0, none⟩) (L.modify i (fun x => { x with done := x.done + n })).length cap, ret_int hv.symm, ?_, ?_, from_same rfl⟩
          · rw [HPL.out, hv]
            exact ((HH.out.drewN nq).store hi (by decide) _ (fun x => { x with done := x.done + n }) rfl).drewN 1
          · exact ((((Only.of_below (Below.refl _ _)).drewN nq).set rfl _).drewN 1)
  · have HI := Lib.hid (find_no hi)
    have hx : L[findI m a L]? = none := List.getElem?_eq_none (by omega)
    have hE : payE m a n L = 8 := by unfold payE; rw [hx]
    have hpl : payL m a n L = L := by unfold payL; rw [if_neg (by rw [hE]; decide)]
    have HE := Lib.hid hE
    have HPL := Lib.hid hpl
    clear hx hE hpl h
    go_enter Try.func32, Try.ntmps32
    go_wp2_with fail
    refine (rfind_any L m a _ bs base _ HH.out hl).mono ?_
    rintro e w1 ⟨rfl, rfl⟩
    rw [HI.out]
    go_wp2_with fail
    go_ret
    exact ⟨v, ret_int HE.out.symm, by rw [HPL.out]; exact HH.out, Only.of_below (Below.refl _ _), from_same rfl⟩

set_option maxRecDepth 100000 in
set_option maxHeartbeats 800000 in
theorem rtake_any (L : List Ob) (m a n : Int) (v : Value) (bs base : Nat) (w : World) (h : RfAt w bs base v L) (hL : Fine L) (hn : n ≤ 9223372036854775807) :
    Calls Try.prog 32 #[.pointer (some ⟨bs, 0, none⟩), .int .i64 m, .int .i64 a, .int .i64 n, .bool true] w (RefP bs base v (takeL m a n L) (takeE m a n L) w) := by
  have hl : L.length ≤ 1000000 := by have := hL.len; omega
  have HH := Lib.hid h
  by_cases hi : findI m a L < L.length
  · have HI := Lib.hid (find_lt hi)
    have hx : L[findI m a L]? = some L[findI m a L] := List.getElem?_eq_getElem hi
    have hE : takeE m a n L = if L[findI m a L].net < 0 then 8 else if n < 1 then 1 else if L[findI m a L].done < n then 12 else 0 := by unfold takeE; rw [hx]
    have hpl : takeL m a n L = if takeE m a n L = 0 then L.modify (findI m a L) (fun x => { x with done := x.done - n }) else L := rfl
    have HE := Lib.hid hE
    have HPL := Lib.hid hpl
    obtain ⟨o1, o2, o3, o4, o5⟩ := hL.each _ (List.getElem_mem hi)
    have hsz : 0 ≤ L[findI m a L].net → L[findI m a L].done ≤ L[findI m a L].net := by intro h0; unfold Ob.size at o5; rw [if_neg (by omega)] at o5; exact o5
    generalize findI m a L = i at *
    clear hx hE hpl h o1 o3 o5
    obtain ⟨g, cap, rfl, hg, hgb, hcap, hfz, d0, d1, d2, d3, d4, d5⟩ := rf_at HH.out hi
    have c0 := HH.out.c0
    have hkb : (i : Int) < (L.length : Int) := by omega
    have hk0 : (0 : Int) ≤ (i : Int) := by omega
    by_cases hneg : L[i].net < 0
    · clear hsz
      go_enter Try.func32, Try.ntmps32
      go_wp2_with fail
      refine (rfind_any L m a _ bs base _ HH.out hl).mono ?_
      rintro e w1 ⟨rfl, rfl⟩
      rw [HI.out]
      go_wp2_with fail
      go_ret
      have hv : takeE m a n L = 8 := by rw [HE.out, if_pos hneg]
      refine ⟨_, ret_int hv.symm, ?_, Only.of_below (Below.refl _ _), from_same rfl⟩
      rw [HPL.out, hv]
      exact HH.out
    · have hnd := hsz (by omega)
      clear hsz
      have hw1 : IntKind.i64.wrap (L[i].net - L[i].done) = L[i].net - L[i].done := IntWalk.i64_in _ (by omega)
      by_cases hn1 : n < 1
      · clear hw1
        go_enter Try.func32, Try.ntmps32
        go_wp2_with fail
        refine (rfind_any L m a _ bs base _ HH.out hl).mono ?_
        rintro e w1 ⟨rfl, rfl⟩
        rw [HI.out]
        go_wp2_with fail
        go_ret
        have hv : takeE m a n L = 1 := by rw [HE.out, if_neg (by omega), if_pos hn1]
        refine ⟨_, ret_int hv.symm, ?_, Only.of_below (Below.refl _ _), from_same rfl⟩
        rw [HPL.out, hv]
        exact HH.out
      · by_cases hm : L[i].done < n
        · go_enter Try.func32, Try.ntmps32
          go_wp2_with fail
          refine (rfind_any L m a _ bs base _ HH.out hl).mono ?_
          rintro e w1 ⟨rfl, rfl⟩
          rw [HI.out]
          go_wp2_with fail
          go_quiet (fail)
          clear hw1
          go_wp2_with fail
          go_ret
          have hv : takeE m a n L = 12 := by rw [HE.out, if_neg (by omega), if_neg (by omega), if_pos hm]
          refine ⟨_, ret_int hv.symm, ?_, Only.of_below (below_drewN (Below.refl _ _) _), from_same rfl⟩
          rw [HPL.out, hv]
          exact HH.out.drewN _
        · have hf4 := hfz (i * 6 + 4)
          clear hfz
          have hw2 : IntKind.i64.wrap (L[i].done - n) = L[i].done - n := IntWalk.i64_in _ (by omega)
          have HW2 := Lib.hid hw2
          clear hw2
          go_enter Try.func32, Try.ntmps32
          go_wp2_with fail
          refine (rfind_any L m a _ bs base _ HH.out hl).mono ?_
          rintro e w1 ⟨rfl, rfl⟩
          rw [HI.out]
          go_wp2_with fail
          go_quiet (fail)
          clear hw1
          go_wp2_with fail
          have hw2 := HW2.out
          go_region
          clear hw2
          go_wp2_with fail
          go_ret
          have hv : takeE m a n L = 0 := by rw [HE.out, if_neg (by omega), if_neg (by omega), if_neg (by omega)]
          refine ⟨.slice (some ⟨g, 0, none⟩) (L.modify i (fun x => { x with done := x.done - n })).length cap, ret_int hv.symm, ?_, ?_, from_same rfl⟩
          · rw [HPL.out, hv]
            exact ((HH.out.drewN nq).store hi (by decide) _ (fun x => { x with done := x.done - n }) rfl).drewN 1
          · exact ((((Only.of_below (Below.refl _ _)).drewN nq).set rfl _).drewN 1)
  · have HI := Lib.hid (find_no hi)
    have hx : L[findI m a L]? = none := List.getElem?_eq_none (by omega)
    have hE : takeE m a n L = 8 := by unfold takeE; rw [hx]
    have hpl : takeL m a n L = L := by unfold takeL; rw [if_neg (by rw [hE]; decide)]
    have HE := Lib.hid hE
    have HPL := Lib.hid hpl
    clear hx hE hpl h
    go_enter Try.func32, Try.ntmps32
    go_wp2_with fail
    refine (rfind_any L m a _ bs base _ HH.out hl).mono ?_
    rintro e w1 ⟨rfl, rfl⟩
    rw [HI.out]
    go_wp2_with fail
    go_ret
    exact ⟨v, ret_int HE.out.symm, by rw [HPL.out]; exact HH.out, Only.of_below (Below.refl _ _), from_same rfl⟩

end Go.Proofs.Ytkjkkcaiddeggaa
