/-
  What the methods of oblig.Sheet come to that change one obligation (Pay, Take, Mark), over this seat's translation: contracts for callers.
-/
import Derived.Test.YtkjkkcaiddeggaaObSheet1
import Derived.Test.YtkjkkcaiddeggaaObLaw
import Derived.Deep.QuietTactic
import Derived.BigQuiet
import Derived.BigRegion
namespace Go.Proofs.Ytkjkkcaiddeggaa
open Go.RowKit

/-- Only the sheet's own blocks have turned. -/
structure Only (bs : Nat) (v : Value) (w w' : World) : Prop where
  os : w'.os = w.os
  tape : w'.tape = w.tape
  output : w'.output = w.output
  size : w.heap.size ≤ w'.heap.size
  block : ∀ k, k < w.heap.size → k ≠ bs → some k ≠ v.ownBlock → w'.heap[k]? = w.heap[k]?
theorem Only.of_below {bs : Nat} {v : Value} {w w' : World} (h : Below w.heap.size w w') : Only bs v w w' := ⟨h.os, h.tape, h.output, h.size, fun k hk _ _ => h.block k hk⟩
theorem Only.below {bs B : Nat} {v : Value} {w w' : World} (h : Only bs v w w') (h1 : B ≤ bs) (h2 : ∀ k, v.ownBlock = some k → B ≤ k) (h3 : B ≤ w.heap.size) : Below B w w' :=
  ⟨h.os, h.tape, h.output, h.size, fun k hk => h.block k (by omega) (by omega) (fun e => by have := h2 k e.symm; omega)⟩
theorem Only.set {bs g i : Nat} {v : Value} {w w' : World} (h : Only bs v w w') (hg : v.ownBlock = some g) (u : Value) : Only bs v w (w'.setCell ⟨g, i, none⟩ u) :=
  ⟨h.os, h.tape, h.output, by simpa [World.setCell] using h.size, fun k hk h1 h2 => (Below.heap_setCell _ _ _ _ (fun e => h2 (by rw [hg, e]))).trans (h.block k hk h1 h2)⟩
theorem Only.drewN {bs : Nat} {v : Value} {w w' : World} (h : Only bs v w w') (q : Nat) : Only bs v w (w'.drewN q) := ⟨h.os, h.tape, h.output, h.size, h.block⟩

theorem Only.drew' {bs : Nat} {v : Value} {w w' : World} (h : Only bs v w w') : Only bs v w w'.drew := ⟨h.os, h.tape, h.output, h.size, h.block⟩

/-- The row that a sheet has now is the one that it had, or a new one. -/
def From (w : World) (v v' : Value) : Prop := ∀ j, v'.ownBlock = some j → v.ownBlock = some j ∨ w.heap.size ≤ j
theorem from_same {w : World} {v v' : Value} (h : v'.ownBlock = v.ownBlock) : From w v v' := fun _ hj => .inl (h ▸ hj)
/-- What a call that turns a sheet has left. -/
def SheetP (bs base : Nat) (v : Value) (L' : List Ob) (E : Int) (w : World) (e : Ending) (w' : World) : Prop :=
  ∃ v', e = .returned (.int .i64 E) ∧ ShAt w' bs base v' L' ∧ Only bs v w w' ∧ From w v v'

theorem find_lt {m a : Int} {L : List Ob} (h : findI m a L < L.length) : idxI (mineB m a) L = (findI m a L : Int) := by
  unfold findI at h ⊢
  unfold idxI
  rw [if_pos h]
theorem find_no {m a : Int} {L : List Ob} (h : ¬ findI m a L < L.length) : idxI (mineB m a) L = -1 := by
  unfold findI at h
  unfold idxI
  rw [if_neg h]

/-- A sheet with an obligation at i: its cells. -/
theorem sh_at {w : World} {bs base : Nat} {v : Value} {L : List Ob} (h : ShAt w bs base v L) {i : Nat} (hi : i < L.length) :
    ∃ g cap, v = .slice (some ⟨g, 0, none⟩) L.length cap ∧ g < w.heap.size ∧ g ≠ bs ∧ L.length ≤ cap ∧ (∀ j, w.frozen? ⟨g, j, none⟩ = false) ∧
      w.cell? ⟨g, i * 6, none⟩ = some (.int .i64 L[i].c) ∧ w.cell? ⟨g, i * 6 + 1, none⟩ = some (.int .i64 L[i].m) ∧ w.cell? ⟨g, i * 6 + 2, none⟩ = some (.int .i64 L[i].a) ∧
      w.cell? ⟨g, i * 6 + 3, none⟩ = some (.int .i64 L[i].net) ∧ w.cell? ⟨g, i * 6 + 4, none⟩ = some (.int .i64 L[i].done) ∧ w.cell? ⟨g, i * 6 + 5, none⟩ = some (.int .i64 L[i].st) := by
  rcases h.own.2 with ⟨rfl, h0⟩ | ⟨g, cap, cur, rfl, hg, hh, hnc, hcm, hcs, htk⟩
  · omega
  · have hlt : g < w.heap.size := (Array.getElem?_eq_some_iff.1 hh).1
    have hs := Seg.of_own h.own
    obtain ⟨b, o, e, _, d⟩ := ob_at hs hi
    injection e with e
    injection e with e1 e2
    subst e1 e2
    simp only [Nat.zero_add] at d
    refine ⟨g, cap, rfl, hlt, ?_, hnc, ?_, d⟩
    · intro e
      exact h.ne (by simp [Value.ownBlock, e])
    · intro j
      simp [World.frozen?, hh]

theorem set_append_at (l r m : List Value) (j : Nat) (u : Value) (hj : j < l.length) : (l ++ r).set j u ++ m = l.set j u ++ (r ++ m) := by
  rw [List.set_append_left _ _ hj, List.append_assoc]
theorem rows_set : ∀ (L : List Ob) (i : Nat) (hi : i < L.length) (f : Ob → Ob) (j : Nat) (u : Value) (_ : j < 6) (_ : (f L[i]).cells = (L[i]).cells.set j u), obRows (L.modify i f) = (obRows L).set (i * 6 + j) u
  | [], i, hi, _, _, _, _, _ => absurd hi (by simp)
  | x :: L, 0, _, f, j, u, hj, hf => by
    have hl : j < x.cells.length := hj
    rw [List.modify_zero_cons]
    unfold obRows
    rw [List.flatMap_cons, List.flatMap_cons, Nat.zero_mul, Nat.zero_add, List.set_append_left _ _ hl]
    rw [show (f x).cells = x.cells.set j u from hf]
  | x :: L, i + 1, hi, f, j, u, hj, hf => by
    rw [List.modify_succ_cons]
    have ih := rows_set L i (by simpa using hi) f j u hj hf
    unfold obRows at ih ⊢
    have e : (i + 1) * 6 + j = 6 + (i * 6 + j) := by omega
    rw [List.flatMap_cons, List.flatMap_cons, ih, e, List.set_append_right _ _ (by simp [Ob.cells])]
    simp [Ob.cells]

theorem ShAt.store {w : World} {bs base : Nat} {L : List Ob} {g cap : Nat} (h : ShAt w bs base (.slice (some ⟨g, 0, none⟩) L.length cap) L) {i j : Nat} (hi : i < L.length) (hj : j < 6) (u : Value) (f : Ob → Ob) (hf : (f L[i]).cells = (L[i]).cells.set j u) :
    ShAt (w.setCell ⟨g, i * 6 + j, none⟩ u) bs base (.slice (some ⟨g, 0, none⟩) (L.modify i f).length cap) (L.modify i f) := by
  have hne := h.ne
  refine ⟨?_, ?_⟩
  · rw [Below.heap_setCell _ _ _ _ (fun e => hne (by simp only [Value.ownBlock]; exact congrArg some e.symm)), List.length_modify]
    exact h.s
  · rw [rows_set L i hi f j u hj hf, List.length_modify]
    exact (h.own.stored (i * 6 + j) u).1
theorem ShAt.drewN {w : World} {bs base : Nat} {v : Value} {L : List Ob} (h : ShAt w bs base v L) (q : Nat) : ShAt (w.drewN q) bs base v L := ⟨h.s, h.own⟩

/-- Where the debt stands, if an amount may be paid. -/
def debtI (m a n : Int) (L : List Ob) : Int := if debtE m a n L = 0 then (findI m a L : Int) else 0
set_option maxHeartbeats 400000 in
theorem debt_any (L : List Ob) (m a n : Int) (v : Value) (bs base : Nat) (w : World) (h : ShAt w bs base v L) (hl : L.length ≤ 1000000) :
    Calls Try.prog 28 #[.pointer (some ⟨bs, 0, none⟩), .int .i64 m, .int .i64 a, .int .i64 n] w fun e w' =>
      e = .returned (.tuple #[.int .i64 (debtI m a n L), .int .i64 (debtE m a n L)]) ∧ Below w.heap.size w w' := by
  have HH := Lib.hid h
  have hlt := h.lt
  by_cases hi : findI m a L < L.length
  · have HI := Lib.hid (find_lt hi)
    have hx : L[findI m a L]? = some L[findI m a L] := List.getElem?_eq_getElem hi
    have hE : debtE m a n L = if L[findI m a L].net < 0 then 8 else if n < 1 then 1 else 0 := by unfold debtE; rw [hx]
    have HE := Lib.hid hE
    have hJ : debtI m a n L = if debtE m a n L = 0 then (findI m a L : Int) else 0 := rfl
    have HJ := Lib.hid hJ
    clear hx hE hJ
    generalize findI m a L = i at *
    clear h
    go_enter Try.func28, Try.ntmps28
    go_wp2_with fail
    refine (find_any L m a v bs base _ HH.out hl).mono ?_
    rintro e w1 ⟨rfl, hb1⟩
    obtain ⟨g, cap, rfl, hg, _, hcap, _, d0, d1, d2, d3, d4, d5⟩ := sh_at (HH.out.below hb1) hi
    have c0 := (HH.out.below hb1).c0
    have HB1 := Lib.hid hb1
    clear hb1
    rw [HI.out]
    by_cases hneg : L[i].net < 0
    · go_wp2_with fail
      go_ret2
      refine ⟨?_, HB1.out⟩
      have hv : debtE m a n L = 8 := by rw [HE.out, if_pos hneg]
      rw [HJ.out, hv]
      rfl
    · by_cases hn1 : n < 1
      · go_wp2_with fail
        go_ret2
        refine ⟨?_, HB1.out⟩
        have hv : debtE m a n L = 1 := by rw [HE.out, if_neg (by omega), if_pos hn1]
        rw [HJ.out, hv]
        rfl
      · go_wp2_with fail
        go_ret2
        refine ⟨?_, HB1.out⟩
        have hv : debtE m a n L = 0 := by rw [HE.out, if_neg (by omega), if_neg (by omega)]
        rw [HJ.out, hv]
        rfl
  · have HI := Lib.hid (find_no hi)
    have hx : L[findI m a L]? = none := List.getElem?_eq_none (by omega)
    have hE : debtE m a n L = 8 := by unfold debtE; rw [hx]
    have HE := Lib.hid hE
    clear hx hE h
    go_enter Try.func28, Try.ntmps28
    go_wp2_with fail
    refine (find_any L m a v bs base _ HH.out hl).mono ?_
    rintro e w1 ⟨rfl, hb1⟩
    have HB1 := Lib.hid hb1
    clear hb1
    rw [HI.out]
    go_wp2_with fail
    go_ret2
    refine ⟨?_, HB1.out⟩
    rw [debtI, HE.out]
    rfl

theorem pay_debt {m a n : Int} {L : List Ob} (h : debtE m a n L ≠ 0) : payE m a n L = debtE m a n L ∧ takeE m a n L = debtE m a n L := by
  unfold payE takeE debtE at *
  cases hq : L[findI m a L]? with
  | none => exact ⟨rfl, rfl⟩
  | some x =>
    rw [hq] at h
    simp only at h ⊢
    split
    · exact ⟨rfl, rfl⟩
    · split
      · exact ⟨rfl, rfl⟩
      · rename_i h1 h2
        rw [if_neg h1, if_neg h2] at h
        exact absurd rfl h
theorem debt_ok {m a n : Int} {L : List Ob} (h : debtE m a n L = 0) : ∃ hi : findI m a L < L.length, 0 ≤ L[findI m a L].net ∧ 1 ≤ n ∧ debtI m a n L = (findI m a L : Int) ∧
    payE m a n L = (if L[findI m a L].net - L[findI m a L].done < n then 12 else 0) ∧ takeE m a n L = (if L[findI m a L].done < n then 12 else 0) := by
  have hj : debtI m a n L = (findI m a L : Int) := by unfold debtI; rw [if_pos h]
  unfold debtE payE takeE at *
  by_cases hi : findI m a L < L.length
  · rw [List.getElem?_eq_getElem hi] at h ⊢
    simp only at h ⊢
    split at h
    · cases h
    · rename_i h1
      split at h
      · cases h
      · rename_i h2
        rw [if_neg h1, if_neg h2, if_neg h1, if_neg h2]
        exact ⟨hi, by omega, by omega, hj, rfl, rfl⟩
  · rw [List.getElem?_eq_none (by omega)] at h
    cases h

set_option maxRecDepth 100000 in
set_option maxHeartbeats 800000 in
theorem pay_any (L : List Ob) (m a n : Int) (v : Value) (bs base : Nat) (w : World) (h : ShAt w bs base v L) (hL : Fine L) (hn : n ≤ 9223372036854775807) :
    Calls Try.prog 11 #[.pointer (some ⟨bs, 0, none⟩), .int .i64 m, .int .i64 a, .int .i64 n] w (SheetP bs base v (payL m a n L) (payE m a n L) w) := by
  have hl : L.length ≤ 1000000 := by have := hL.len; omega
  have HH := Lib.hid h
  by_cases hd : debtE m a n L = 0
  · obtain ⟨hi, hn0, hn1, hJ, hP, _⟩ := debt_ok hd
    have hok := hL.each _ (List.getElem_mem hi)
    obtain ⟨o1, o2, o3, o4, o5⟩ := hok
    have hsz : L[findI m a L].size = L[findI m a L].net := by unfold Ob.size; rw [if_neg (by omega)]
    rw [hsz] at o5
    have hpl : payL m a n L = if payE m a n L = 0 then L.modify (findI m a L) (fun x => { x with done := x.done + n }) else L := rfl
    have HD := Lib.hid hd
    have HJ := Lib.hid hJ
    have HP := Lib.hid hP
    have HPL := Lib.hid hpl
    generalize findI m a L = i at *
    clear hd hJ hP hpl h hsz o1 o3
    go_enter Try.func11, Try.ntmps11
    go_wp2_with fail
    refine (debt_any L m a n v bs base _ HH.out hl).mono ?_
    rintro e w1 ⟨rfl, hb1⟩
    rw [HJ.out, HD.out]
    obtain ⟨g, cap, rfl, hg, hgb, hcap, hfz, d0, d1, d2, d3, d4, d5⟩ := sh_at (HH.out.below hb1) hi
    have c0 := (HH.out.below hb1).c0
    have HS1 := Lib.hid (HH.out.below hb1)
    have HB1 := Lib.hid hb1
    clear hb1
    have hkb : (i : Int) < (L.length : Int) := by omega
    have hk0 : (0 : Int) ≤ (i : Int) := by omega
    have hw1 : IntKind.i64.wrap (L[i].net - L[i].done) = L[i].net - L[i].done := IntWalk.i64_in _ (by omega)
    have HW1 := Lib.hid hw1
    by_cases hm : L[i].net - L[i].done < n
    · go_wp2_with fail
      go_quiet (fail)
      clear hw1
      go_wp2_with fail
      go_ret
      have hE : payE m a n L = 12 := by rw [HP.out, if_pos hm]
      refine ⟨.slice (some ⟨g, 0, none⟩) L.length cap, ret_int hE.symm, ?_, Only.of_below (below_drewN HB1.out _), from_same rfl⟩
      rw [HPL.out, hE]
      exact HS1.out.drewN _
    · go_wp2_with fail
      go_quiet (fail)
      clear hw1
      have hf4 := hfz (i * 6 + 4)
      clear hfz
      go_wp2_with fail
      go_ret
      have hE : payE m a n L = 0 := by rw [HP.out, if_neg (by omega)]
      refine ⟨.slice (some ⟨g, 0, none⟩) (L.modify i (fun x => { x with done := x.done + n })).length cap, ret_int hE.symm, ?_, ((Only.of_below HB1.out).drewN _).set rfl _, from_same rfl⟩
      rw [HPL.out, hE]
      exact (HS1.out.drewN _).store hi (by decide) _ (fun x => { x with done := x.done + n }) rfl
  · have hP := (pay_debt hd).1
    have hpl : payL m a n L = L := by unfold payL; rw [if_neg (by rw [hP]; exact hd)]
    have HP := Lib.hid hP
    have HPL := Lib.hid hpl
    have hd' : (debtE m a n L != 0) = true := by simpa using hd
    clear hP hpl h hd
    go_enter Try.func11, Try.ntmps11
    go_wp2_with fail
    refine (debt_any L m a n v bs base _ HH.out hl).mono ?_
    rintro e w1 ⟨rfl, hb1⟩
    have HB1 := Lib.hid hb1
    clear hb1
    go_wp2_with fail
    go_ret
    refine ⟨v, ret_int HP.out.symm, ?_, Only.of_below HB1.out, from_same rfl⟩
    rw [HPL.out]
    exact HH.out.below HB1.out
set_option maxRecDepth 100000 in
set_option maxHeartbeats 800000 in
theorem take_any (L : List Ob) (m a n : Int) (v : Value) (bs base : Nat) (w : World) (h : ShAt w bs base v L) (hL : Fine L) (hn : n ≤ 9223372036854775807) :
    Calls Try.prog 12 #[.pointer (some ⟨bs, 0, none⟩), .int .i64 m, .int .i64 a, .int .i64 n] w (SheetP bs base v (takeL m a n L) (takeE m a n L) w) := by
  have hl : L.length ≤ 1000000 := by have := hL.len; omega
  have HH := Lib.hid h
  by_cases hd : debtE m a n L = 0
  · obtain ⟨hi, hn0, hn1, hJ, _, hP⟩ := debt_ok hd
    have hok := hL.each _ (List.getElem_mem hi)
    obtain ⟨o1, o2, o3, o4, o5⟩ := hok
    have hsz : L[findI m a L].size = L[findI m a L].net := by unfold Ob.size; rw [if_neg (by omega)]
    rw [hsz] at o5
    have hpl : takeL m a n L = if takeE m a n L = 0 then L.modify (findI m a L) (fun x => { x with done := x.done - n }) else L := rfl
    have HD := Lib.hid hd
    have HJ := Lib.hid hJ
    have HP := Lib.hid hP
    have HPL := Lib.hid hpl
    generalize findI m a L = i at *
    clear hd hJ hP hpl h hsz o1 o3
    go_enter Try.func12, Try.ntmps12
    go_wp2_with fail
    refine (debt_any L m a n v bs base _ HH.out hl).mono ?_
    rintro e w1 ⟨rfl, hb1⟩
    rw [HJ.out, HD.out]
    obtain ⟨g, cap, rfl, hg, hgb, hcap, hfz, d0, d1, d2, d3, d4, d5⟩ := sh_at (HH.out.below hb1) hi
    have c0 := (HH.out.below hb1).c0
    have HS1 := Lib.hid (HH.out.below hb1)
    have HB1 := Lib.hid hb1
    clear hb1
    have hkb : (i : Int) < (L.length : Int) := by omega
    have hk0 : (0 : Int) ≤ (i : Int) := by omega
    by_cases hm : L[i].done < n
    · go_wp2_with fail
      go_ret
      have hE : takeE m a n L = 12 := by rw [HP.out, if_pos hm]
      refine ⟨.slice (some ⟨g, 0, none⟩) L.length cap, ret_int hE.symm, ?_, Only.of_below (HB1.out), from_same rfl⟩
      rw [HPL.out, hE]
      exact HS1.out
    · have hf4 := hfz (i * 6 + 4)
      clear hfz
      go_wp2_with fail
      go_ret
      have hE : takeE m a n L = 0 := by rw [HP.out, if_neg (by omega)]
      refine ⟨.slice (some ⟨g, 0, none⟩) (L.modify i (fun x => { x with done := x.done - n })).length cap, ret_int hE.symm, ?_, (Only.of_below HB1.out).set rfl _, from_same rfl⟩
      rw [HPL.out, hE]
      exact HS1.out.store hi (by decide) _ (fun x => { x with done := x.done - n }) rfl
  · have hP := (pay_debt hd).2
    have hpl : takeL m a n L = L := by unfold takeL; rw [if_neg (by rw [hP]; exact hd)]
    have HP := Lib.hid hP
    have HPL := Lib.hid hpl
    have hd' : (debtE m a n L != 0) = true := by simpa using hd
    clear hP hpl h hd
    go_enter Try.func12, Try.ntmps12
    go_wp2_with fail
    refine (debt_any L m a n v bs base _ HH.out hl).mono ?_
    rintro e w1 ⟨rfl, hb1⟩
    have HB1 := Lib.hid hb1
    clear hb1
    go_wp2_with fail
    go_ret
    refine ⟨v, ret_int HP.out.symm, ?_, Only.of_below HB1.out, from_same rfl⟩
    rw [HPL.out]
    exact HH.out.below HB1.out
end Go.Proofs.Ytkjkkcaiddeggaa
