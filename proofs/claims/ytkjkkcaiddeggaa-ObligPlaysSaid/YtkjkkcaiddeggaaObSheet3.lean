/-
  What oblig.New and the method Mark of oblig.Sheet come to, over this seat's translation: contracts for callers.
-/
import Derived.Test.YtkjkkcaiddeggaaObSheet2
namespace Go.Proofs.Ytkjkkcaiddeggaa
open Go.RowKit

theorem size_max (x : Ob) : max x.net (-x.net) = x.size := by
  unfold Ob.size
  split <;> omega

set_option maxHeartbeats 400000 in
theorem size_any (x : Ob) (w : World) (h0 : minI < x.net) (h1 : x.net ≤ 9223372036854775807) :
    Calls Try.prog 30 #[x.val] w fun e w' => e = .returned (.int .i64 x.size) ∧ Below w.heap.size w w' := by
  have HM := Lib.hid (size_max x)
  unfold minI at h0
  obtain ⟨c, m, a, net, done, st⟩ := x
  simp only at h0 h1
  unfold Ob.val
  go_enter Try.func30, Try.ntmps30
  go_wp2
  all_goals
    go_ret
    refine ⟨ret_int ?_, (Below.refl _ _).alloc (Nat.le_refl _) _⟩
    rw [← HM.out]
    omega

set_option maxHeartbeats 400000 in
theorem new_any (w : World) : Calls Try.prog 8 #[] w fun e w' => e = .returned (.pointer (some ⟨w.heap.size, 0, none⟩)) ∧ w.alloc (.cells #[.slice none 0 0] 54) = w' := by
  go_enter Try.func8, Try.ntmps8
  go_wp2
  go_ret
  exact ⟨rfl, rfl⟩
theorem new_at (w : World) : ShAt (w.alloc (.cells #[.slice none 0 0] 54)) w.heap.size w.heap.size (.slice none 0 0) [] :=
  ⟨heap_alloc_new w _, ⟨by simp [obRows], Or.inl ⟨rfl, rfl⟩⟩⟩

/-- Whether a mark may not be. -/
def markB (s n z : Int) : Bool := decide (s < 2) || decide (5 < s) || decide (n < 0) || decide (z < n) || (s == 2 && n != z)
theorem mark_ok {m a s n : Int} {L : List Ob} (hi : findI m a L < L.length) : markE m a s n L = if markB s n L[findI m a L].size then 1 else 0 := by
  unfold markE
  rw [List.getElem?_eq_getElem hi]
  simp only
  by_cases h : s < 2 ∨ 5 < s ∨ n < 0 ∨ L[findI m a L].size < n ∨ (s = 2 ∧ n ≠ L[findI m a L].size)
  · rw [if_pos h, if_pos]
    unfold markB
    simp only [Bool.or_eq_true, decide_eq_true_eq, Bool.and_eq_true, beq_iff_eq, bne_iff_ne]
    omega
  · rw [if_neg h, if_neg]
    unfold markB
    simp only [Bool.or_eq_true, decide_eq_true_eq, Bool.and_eq_true, beq_iff_eq, bne_iff_ne]
    omega
theorem modify_two (L : List Ob) (i : Nat) (s n : Int) : (L.modify i (fun x => { x with st := s })).modify i (fun x => { x with done := n }) = L.modify i (fun x => { x with st := s, done := n }) := by
  rw [List.modify_modify_eq]
  rfl

set_option maxRecDepth 100000 in
set_option maxHeartbeats 1600000 in
theorem mark_any (L : List Ob) (m a s n : Int) (v : Value) (bs base : Nat) (w : World) (h : ShAt w bs base v L) (hL : Fine L) :
    Calls Try.prog 13 #[.pointer (some ⟨bs, 0, none⟩), .int .i64 m, .int .i64 a, .int .i64 s, .int .i64 n] w (SheetP bs base v (markL m a s n L) (markE m a s n L) w) := by
  have hl : L.length ≤ 1000000 := by have := hL.len; omega
  have HH := Lib.hid h
  by_cases hi : findI m a L < L.length
  · have HI := Lib.hid (find_lt hi)
    have hP := mark_ok (s := s) (n := n) hi
    have hpl : markL m a s n L = if markE m a s n L = 0 then L.modify (findI m a L) (fun x => { x with st := s, done := n }) else L := rfl
    obtain ⟨o1, o2, o3, o4, o5⟩ := hL.each _ (List.getElem_mem hi)
    have HP := Lib.hid hP
    have HPL := Lib.hid hpl
    generalize findI m a L = i at *
    have HO1 := Lib.hid o1
    clear hP hpl h o1 o3
    go_enter Try.func13, Try.ntmps13
    go_wp2_with fail
    refine (find_any L m a v bs base _ HH.out hl).mono ?_
    rintro e w1 ⟨rfl, hb1⟩
    rw [HI.out]
    obtain ⟨g, cap, rfl, hg, hgb, hcap, hfz, d0, d1, d2, d3, d4, d5⟩ := sh_at (HH.out.below hb1) hi
    have c0 := (HH.out.below hb1).c0
    have HB1 := Lib.hid hb1
    have hz1 := hb1.size
    clear hb1
    go_wp2_with fail
    refine (size_any L[i] _ HO1.out o2).mono ?_
    rintro e w2 ⟨rfl, hb2⟩
    clear d0 d1 d2 d3 d4 d5 c0 hfz
    have hb12 : Below w.heap.size w w2 := HB1.out.trans (hb2.mono hz1)
    obtain ⟨g', cap', ev, hg', hgb', hcap', hfz, d0, d1, d2, d3, d4, d5⟩ := sh_at (HH.out.below hb12) hi
    injection ev with ev1 _ ev2
    injection ev1 with ev1
    injection ev1 with ev1 _
    subst ev1 ev2
    have c0 := (HH.out.below hb12).c0
    have HS2 := Lib.hid (HH.out.below hb12)
    have HB2 := Lib.hid hb12
    clear hb2 hb12
    have hkb : (i : Int) < (L.length : Int) := by omega
    have hk0 : (0 : Int) ≤ (i : Int) := by omega
    have hf4 := hfz (i * 6 + 4)
    have hf5 := hfz (i * 6 + 5)
    clear hfz
    generalize hz : L[i].size = z at *
    have HZ := Lib.hid hz
    clear hz
    cases hmb : markB s n z
    · have hE : markE m a s n L = 0 := by rw [HP.out, hmb]; rfl
      have HE := Lib.hid hE
      unfold markB at hmb
      simp only [Bool.or_eq_false_iff, decide_eq_false_iff_not] at hmb
      obtain ⟨⟨⟨⟨m1, m2⟩, m3⟩, m4⟩, m5⟩ := hmb
      have HM5 := Lib.hid m5
      clear m5 hE
      cases hs2 : (s == 2)
      · go_wp2_with fail
        go_region
        go_wp2_with fail
        go_ret
        refine ⟨.slice (some ⟨g, 0, none⟩) ((L.modify i (fun x => { x with st := s })).modify i (fun x => { x with done := n })).length cap, ret_int HE.out.symm, ?_, (((Only.of_below HB2.out).drew').set rfl _).set rfl _, from_same rfl⟩
        rw [HPL.out, HE.out]
        have h1 := (HS2.out.drewN 1).store (i := i) (j := 5) hi (by decide) (.int .i64 s) (fun x => { x with st := s }) rfl
        have h2 := h1.store (i := i) (j := 4) (by simpa using hi) (by decide) (.int .i64 n) (fun x => { x with done := n }) (by simp [Ob.cells])
        rw [modify_two] at h2 ⊢
        exact h2
      · have hnz : (n != z) = false := by have := HM5.out; rw [hs2] at this; simpa using this
        go_wp2_with fail
        go_region
        go_wp2_with fail
        go_ret
        refine ⟨.slice (some ⟨g, 0, none⟩) ((L.modify i (fun x => { x with st := s })).modify i (fun x => { x with done := n })).length cap, ret_int HE.out.symm, ?_, (((Only.of_below HB2.out).drew').set rfl _).set rfl _, from_same rfl⟩
        rw [HPL.out, HE.out]
        have h1 := (HS2.out.drewN 1).store (i := i) (j := 5) hi (by decide) (.int .i64 s) (fun x => { x with st := s }) rfl
        have h2 := h1.store (i := i) (j := 4) (by simpa using hi) (by decide) (.int .i64 n) (fun x => { x with done := n }) (by simp [Ob.cells])
        rw [modify_two] at h2 ⊢
        exact h2
    · have hE : markE m a s n L = 1 := by rw [HP.out, hmb]; rfl
      have HE := Lib.hid hE
      have hML : markL m a s n L = L := by rw [HPL.out, hE]; rfl
      have HML := Lib.hid hML
      clear hE hML
      unfold markB at hmb
      by_cases m1 : s < 2
      · go_wp2_with fail
        go_ret
        exact ⟨_, ret_int HE.out.symm, by rw [HML.out]; exact HS2.out, Only.of_below HB2.out, from_same rfl⟩
      by_cases m2 : 5 < s
      · go_wp2_with fail
        go_ret
        exact ⟨_, ret_int HE.out.symm, by rw [HML.out]; exact HS2.out, Only.of_below HB2.out, from_same rfl⟩
      by_cases m3 : n < 0
      · go_wp2_with fail
        go_ret
        exact ⟨_, ret_int HE.out.symm, by rw [HML.out]; exact HS2.out, Only.of_below HB2.out, from_same rfl⟩
      by_cases m4 : z < n
      · go_wp2_with fail
        go_ret
        exact ⟨_, ret_int HE.out.symm, by rw [HML.out]; exact HS2.out, Only.of_below HB2.out, from_same rfl⟩
      · rw [decide_eq_false m1, decide_eq_false m2, decide_eq_false m3, decide_eq_false m4] at hmb
        simp only [Bool.false_or, Bool.and_eq_true] at hmb
        obtain ⟨hs2, hnz⟩ := hmb
        go_wp2_with fail
        go_ret
        exact ⟨_, ret_int HE.out.symm, by rw [HML.out]; exact HS2.out, Only.of_below HB2.out, from_same rfl⟩
  · have HI := Lib.hid (find_no hi)
    have hE : markE m a s n L = 8 := by unfold markE; rw [List.getElem?_eq_none (by omega)]
    have hML : markL m a s n L = L := by unfold markL; rw [hE]; rfl
    have HE := Lib.hid hE
    have HML := Lib.hid hML
    clear hE hML h
    go_enter Try.func13, Try.ntmps13
    go_wp2_with fail
    refine (find_any L m a v bs base _ HH.out hl).mono ?_
    rintro e w1 ⟨rfl, hb1⟩
    rw [HI.out]
    have HB1 := Lib.hid hb1
    clear hb1
    go_wp2_with fail
    go_ret
    exact ⟨v, ret_int HE.out.symm, by rw [HML.out]; exact HH.out.below HB1.out, Only.of_below HB1.out, from_same rfl⟩
end Go.Proofs.Ytkjkkcaiddeggaa
