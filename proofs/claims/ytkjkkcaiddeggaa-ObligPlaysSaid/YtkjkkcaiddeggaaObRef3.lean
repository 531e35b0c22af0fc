/-
  What the methods Mark and Side of complineref19.Sheet come to, over this seat's translation: contracts for callers.
-/
import Derived.Test.YtkjkkcaiddeggaaObRef2
namespace Go.Proofs.Ytkjkkcaiddeggaa
open Go.RowKit

set_option maxRecDepth 100000 in
set_option maxHeartbeats 1600000 in
theorem rmark_any (L : List Ob) (m a s n : Int) (v : Value) (bs base : Nat) (w : World) (h : RfAt w bs base v L) (hL : Fine L) :
    Calls Try.prog 33 #[.pointer (some ⟨bs, 0, none⟩), .int .i64 m, .int .i64 a, .int .i64 s, .int .i64 n] w (RefP bs base v (markL m a s n L) (markE m a s n L) w) := by
  have hl : L.length ≤ 1000000 := by have := hL.len; omega
  have HH := Lib.hid h
  by_cases hi : findI m a L < L.length
  · have HI := Lib.hid (find_lt hi)
    have hP := mark_ok (s := s) (n := n) hi
    have hpl : markL m a s n L = if markE m a s n L = 0 then L.modify (findI m a L) (fun x => { x with st := s, done := n }) else L := rfl
    obtain ⟨o1, o2, o3, o4, o5⟩ := hL.each _ (List.getElem_mem hi)
    have HP := Lib.hid hP
    have HPL := Lib.hid hpl
    generalize findI m a L = i at *
    have HO1 := Lib.hid o1
    clear hP hpl h o1 o3
    obtain ⟨g, cap, rfl, hg, hgb, hcap, hfz, d0, d1, d2, d3, d4, d5⟩ := rf_at HH.out hi
    have c0 := HH.out.c0
    clear hfz
    go_enter Try.func33, Try.ntmps33
    go_wp2_with fail
    refine (rfind_any L m a _ bs base _ HH.out hl).mono ?_
    rintro e w1 ⟨rfl, rfl⟩
    rw [HI.out]
    go_wp2_with fail
    refine (refsize_any L[i] _ HO1.out o2).mono ?_
    rintro e w2 ⟨rfl, hb2⟩
    clear d0 d1 d2 d3 d4 d5 c0
    obtain ⟨g', cap', ev, hg', hgb', hcap', hfz, d0, d1, d2, d3, d4, d5⟩ := rf_at (HH.out.below hb2) hi
    injection ev with ev1 _ ev2
    injection ev1 with ev1
    injection ev1 with ev1 _
    subst ev1 ev2
    have c0 := (HH.out.below hb2).c0
    have HS2 := Lib.hid (HH.out.below hb2)
    have HB2 := Lib.hid hb2
    clear hb2
    have hkb : (i : Int) < (L.length : Int) := by omega
    have hk0 : (0 : Int) ≤ (i : Int) := by omega
    have hf4 := hfz (i * 6 + 4)
    have hf5 := hfz (i * 6 + 5)
    clear hfz
    generalize hz : L[i].size = z at *
    have HZ := Lib.hid hz
    clear hz
    cases hmb : markB s n z
    · have hE : markE m a s n L = 0 := by rw [HP.out, hmb]; rfl
      have HE := Lib.hid hE
      unfold markB at hmb
      simp only [Bool.or_eq_false_iff, decide_eq_false_iff_not] at hmb
      obtain ⟨⟨⟨⟨m1, m2⟩, m3⟩, m4⟩, m5⟩ := hmb
      have HM5 := Lib.hid m5
      clear m5 hE
      cases hs2 : (s == 2)
      · go_wp2_with fail
        go_ret
        refine ⟨.slice (some ⟨g, 0, none⟩) ((L.modify i (fun x => { x with st := s })).modify i (fun x => { x with done := n })).length cap, ret_int HE.out.symm, ?_, ((Only.of_below HB2.out).set rfl _).set rfl _, from_same rfl⟩
        rw [HPL.out, HE.out]
        have h1 := HS2.out.store (i := i) (j := 5) hi (by decide) (.int .i64 s) (fun x => { x with st := s }) rfl
        have h2 := h1.store (i := i) (j := 4) (by simpa using hi) (by decide) (.int .i64 n) (fun x => { x with done := n }) (by simp [Ob.cells])
        rw [modify_two] at h2 ⊢
        exact h2
      · have hnz : ¬ n < z := by have := HM5.out; rw [hs2] at this; simp at this; omega
        go_wp2_with fail
        go_ret
        refine ⟨.slice (some ⟨g, 0, none⟩) ((L.modify i (fun x => { x with st := s })).modify i (fun x => { x with done := n })).length cap, ret_int HE.out.symm, ?_, ((Only.of_below HB2.out).set rfl _).set rfl _, from_same rfl⟩
        rw [HPL.out, HE.out]
        have h1 := HS2.out.store (i := i) (j := 5) hi (by decide) (.int .i64 s) (fun x => { x with st := s }) rfl
        have h2 := h1.store (i := i) (j := 4) (by simpa using hi) (by decide) (.int .i64 n) (fun x => { x with done := n }) (by simp [Ob.cells])
        rw [modify_two] at h2 ⊢
        exact h2
    · have hE : markE m a s n L = 1 := by rw [HP.out, hmb]; rfl
      have HE := Lib.hid hE
      have hML : markL m a s n L = L := by rw [HPL.out, hE]; rfl
      have HML := Lib.hid hML
      clear hE hML
      have hways : s < 2 ∨ ¬ s < 2 ∧ (5 < s ∨ ¬ 5 < s ∧ (n < 0 ∨ ¬ n < 0 ∧ (z < n ∨ ¬ z < n ∧ (s == 2) = true ∧ n < z))) := by
        unfold markB at hmb
        simp only [Bool.or_eq_true, decide_eq_true_eq, Bool.and_eq_true, bne_iff_ne, beq_iff_eq] at hmb
        simp only [beq_iff_eq]
        omega
      clear hmb
      rcases hways with m1 | ⟨m1, m2 | ⟨m2, m3 | ⟨m3, m4 | ⟨m4, m5, m6⟩⟩⟩⟩
      all_goals
        go_wp2_with fail
        go_ret
        exact ⟨_, ret_int HE.out.symm, by rw [HML.out]; exact HS2.out, Only.of_below HB2.out, from_same rfl⟩
  · have HI := Lib.hid (find_no hi)
    have hE : markE m a s n L = 8 := by unfold markE; rw [List.getElem?_eq_none (by omega)]
    have hpl : markL m a s n L = L := by unfold markL; rw [if_neg (by rw [hE]; decide)]
    have HE := Lib.hid hE
    have HPL := Lib.hid hpl
    clear hE hpl h
    go_enter Try.func33, Try.ntmps33
    go_wp2_with fail
    refine (rfind_any L m a _ bs base _ HH.out hl).mono ?_
    rintro e w1 ⟨rfl, rfl⟩
    rw [HI.out]
    go_wp2_with fail
    go_ret
    exact ⟨v, ret_int HE.out.symm, by rw [HPL.out]; exact HH.out, Only.of_below (Below.refl _ _), from_same rfl⟩

def sideB (d : Bool) (x : Ob) : Bool := x.st == 1 && (decide (0 < x.net) == d)
theorem filter_snoc {α : Type} (p : α → Bool) {l : List α} {k : Nat} (hk : k < l.length) : (l.take (k + 1)).filter p = (l.take k).filter p ++ (if p l[k] then [l[k]] else []) := by
  rw [List.take_succ_eq_append_getElem hk, List.filter_append]
  by_cases h : p l[k] <;> simp [h]
theorem filter_len {α : Type} (p : α → Bool) (l : List α) (k : Nat) : ((l.take k).filter p).length ≤ k := by
  have h1 := List.length_filter_le p (l.take k)
  have h2 := List.length_take_le k l
  omega
set_option maxRecDepth 100000 in
set_option maxHeartbeats 800000 in
theorem side_any (L : List Ob) (d : Bool) (v : Value) (bs base : Nat) (w : World) (h : RfAt w bs base v L) (hl : L.length ≤ 1000000) :
    Calls Try.prog 37 #[.pointer (some ⟨bs, 0, none⟩), .bool d] w (GotObs w (L.filter (sideB d))) := by
  have HH := Lib.hid h
  obtain ⟨i0, hi0, hz0, hz1', hz2⟩ := info_parts ob_info
  obtain ⟨A, c, rfl⟩ := own_form h.own
  clear h
  go_enter Try.func37, Try.ntmps37
  go_wp2_with fail
  go_loopw [5, 6] (fun u i wr => ∃ k : Nat, k ≤ L.length ∧ i = .int .i64 k ∧ Hid (wr.ownsRow w.heap.size 37 6 u ((L.take k).filter (sideB d)).length (obRows ((L.take k).filter (sideB d)))) ∧ Hid (Below w.heap.size w wr)) (fun _ i _ => L.length - (intOf i).toNat)
  case atStart => exact ⟨0, Nat.zero_le _, rfl, ⟨by simp [obRows], Or.inl ⟨rfl, rfl⟩⟩, Below.refl _ _⟩
  case round =>
    obtain ⟨k, hk, rfl, HO, HB⟩ := hrel
    have hsz := HB.out.size
    have c0 := (HH.out.below HB.out).c0
    have hlb := (HH.out.below HB.out).lt
    have hfl := filter_len (sideB d) L k
    by_cases hlt : k < L.length
    · obtain ⟨b, o, rfl, hb, d0, d1, d2, d3, d4, d5⟩ := ob_at (Seg.of_own (HH.out.below HB.out).own) hlt
      have HF := Lib.hid (filter_snoc (sideB d) hlt)
      by_cases hp : sideB d L[k] = true
      · have hF : (L.take (k + 1)).filter (sideB d) = (L.take k).filter (sideB d) ++ [L[k]] := by rw [HF.out, if_pos hp]
        have HF1 := Lib.hid hF
        clear hF
        simp only [sideB, Bool.and_eq_true] at hp
        obtain ⟨h1, h2⟩ := hp
        generalize (L.take k).filter (sideB d) = ys at *
        go_wp2_with (at_builtin; refine wpList_append_own _ rfl _ _ 27 rfl w.heap.size 37 i0 _ 6 48 Try.underlying27 hi0 hz0 hz1' hz2 rfl (by decide) _ ys.length (obRows ys) rfl (HO.out.alloc _) ⟨wr.heap.size, 0, none⟩ 1 1 L[k].cells rfl rfl ?c1 ?c2 ?c3 ?c4 ?c5 ?_)
        case c1 => exact new_cells _ _ #[_, _, _, _, _, _] rfl
        case c2 => intro u hu; simp [Ob.cells] at hu; rcases hu with rfl | rfl | rfl | rfl | rfl | rfl <;> rfl
        case c3 => simp only [maxLen]; omega
        case c4 => omega
        case c5 => simp; omega
        intro v' w1 hown1 hgrow1 _
        have HO1 : Hid (w1.ownsRow w.heap.size 37 6 v' ((L.take (k + 1)).filter (sideB d)).length (obRows ((L.take (k + 1)).filter (sideB d)))) := by
          show World.ownsRow _ _ _ _ _ _ _
          rw [HF1.out, obRows_snoc, List.length_append, List.length_singleton]
          exact hown1
        have HG1 : Hid (Below w.heap.size w w1) := (HB.out.alloc hsz _).grown hgrow1 (by simp; omega) (fun j hj => own_base HO.out j hj)
        clear hown1 hgrow1
        go_wp2_with fail
        go_roundw
        case rel => exact ⟨k + 1, by omega, by go_num, HO1, HG1⟩
        case measure => simp [intOf]; omega
      · have hp' : sideB d L[k] = false := by simpa using hp
        have hF : (L.take (k + 1)).filter (sideB d) = (L.take k).filter (sideB d) := by rw [HF.out, hp']; simp
        have hO2 := HO.out
        rw [← hF] at hO2
        have HO1 := Lib.hid hO2
        clear hO2
        clear hF
        have hp3 : (L[k].st == 1) = false ∨ (L[k].st == 1) = true ∧ (decide (0 < L[k].net) == d) = false := by
          revert hp'
          unfold sideB
          cases (L[k].st == 1) <;> cases (decide (0 < L[k].net) == d) <;> simp
        clear hp hp'
        rcases hp3 with h1 | ⟨h1, h2⟩
        all_goals
          go_wp2_with fail
          go_roundw
          case rel => exact ⟨k + 1, by omega, by go_num, HO1, HB⟩
          case measure => simp [intOf]; omega
    · obtain rfl : k = L.length := by omega
      have hO := HO.out
      rw [List.take_length] at hO
      have HO2 := Lib.hid hO
      clear hO
      go_wp2_with fail
      go_ret
      exact ⟨_, rfl, HO2.out, HB.out⟩
end Go.Proofs.Ytkjkkcaiddeggaa
