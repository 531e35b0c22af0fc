/-
  What num.Reader's Num, Upto, Text, and num.All, num.Text come to, over this seat's translation: contracts for callers.
-/
import Derived.Test.YtmplokdbbhlomaaDoorSc3
namespace Go.Proofs.YtmplokdbbhlomaaDoor
open Go.RowKit

theorem rTake_I64 (may : Int → Bool) (r : Rd) : I64 (rTake may r).1 := by
  have h0 : I64 0 := by unfold I64; omega
  unfold rTake
  repeat' split
  all_goals first | exact getB_I64 _ | exact h0
theorem rTake_upto (most : Int) (r : Rd) : (rTake (uptoB most) r).2.1 = true → 0 ≤ (rTake (uptoB most) r).1 := by
  unfold rTake
  repeat' split
  all_goals first | (rename_i h1 h2 h3; intro _; simp [uptoB] at h3; exact h3.1) | (intro h; cases h)
set_option maxHeartbeats 800000 in
theorem num_any (g : Nat) (r : Rd) (w : World) (h : RdAt w g r) : Calls Tryd.prog 41 #[.pointer (some ⟨g, 0, none⟩)] w fun e w' => e = .returned (.int .i64 (rNum r).1) ∧ RdAt w' g (rNum r).2 ∧ w.grownBy w' (some g) := by
  have HT := Lib.hid (take_num g r w h)
  go_enter Tryd.func41, Tryd.ntmps41
  go_wp2_with (go_at_call 37; refine HT.out.mono ?_; rintro e w1 ⟨rfl, hr, hg⟩; have HR := Lib.hid hr; have HG := Lib.hid hg; clear hr hg)
  go_ret
  exact ⟨rfl, HR.out, HG.out⟩
theorem grown_allocS {w w' : World} {g : Nat} (o : Obj) (h : (w.alloc o).grownBy w' (some g)) : w.grownBy w' (some g) :=
  ⟨h.os, h.tape, h.output, Nat.le_trans (by simp) h.size, fun k hk hne => (h.block k (by simp; omega) hne).trans (by show (w.heap.push o)[k]? = _; rw [Array.getElem?_push_lt (by omega)]; simp [hk])⟩
set_option maxHeartbeats 800000 in
theorem upto_any (g : Nat) (r : Rd) (most : Int) (w : World) (h : RdAt w g r) : Calls Tryd.prog 21 #[.pointer (some ⟨g, 0, none⟩), .int .i64 most] w fun e w' => e = .returned (.int .i64 (rUpto most r).1) ∧ RdAt w' g (rUpto most r).2 ∧ w.grownBy w' (some g) := by
  have HT : Hid (Calls Tryd.prog _ _ (w.alloc (.cells #[.int .i64 most] 2)) _) := Lib.hid (take_upto g r w.heap.size most (w.alloc (.cells #[.int .i64 most] 2)) (h.below ((Below.refl _ _).alloc (Nat.le_refl _) _)) (cell_new _ _ _ 0 rfl))
  go_enter Tryd.func21, Tryd.ntmps21
  go_wp2_with (go_at_call 37; refine HT.out.mono ?_; rintro e w1 ⟨rfl, hr, hg⟩; have HR := Lib.hid hr; have HG := Lib.hid hg; clear hr hg)
  go_ret
  exact ⟨rfl, HR.out, grown_allocS _ HG.out⟩
set_option maxRecDepth 100000 in
set_option maxHeartbeats 1600000 in
theorem rtext_any (g : Nat) (r : Rd) (most : Int) (w : World) (h : RdAt w g r) : Calls Tryd.prog 39 #[.pointer (some ⟨g, 0, none⟩), .int .i64 most] w fun e w' => e = .returned (.string (bs (rText most r).1)) ∧ RdAt w' g (rText most r).2 ∧ w.grownBy w' (some g) := by
  have hB : Below w.heap.size w (w.alloc (.cells #[.int .i64 most] 3)) := (Below.refl _ _).alloc (Nat.le_refl _) _
  have HT : Hid (Calls Tryd.prog _ _ (w.alloc (.cells #[.int .i64 most] 3)) _) := Lib.hid (take_text g r w.heap.size most (w.alloc (.cells #[.int .i64 most] 3)) (h.below hB) (cell_new _ _ _ 0 rfl))
  have hlen := h.len
  have k0 := (h.below hB).c0
  have HG0 := rTake_I64 (uptoB most) r
  obtain ⟨Q, HQ⟩ : ∃ Q, Hid (Q = rText most r) := ⟨_, Lib.hid rfl⟩
  rw [← HQ.out]
  unfold rText at HQ
  have HUP := rTake_upto most r
  generalize rTake (uptoB most) r = T at *
  obtain ⟨n, b, r'⟩ := T
  simp only at HQ HG0 HUP
  clear hB h
  cases b with
  | false =>
    have HQ2 : Hid (Q = ([], r')) := Lib.hid (by rw [HQ.out]; rfl)
    go_enter Tryd.func39, Tryd.ntmps39
    go_wp2_with (go_at_call 37; refine HT.out.mono ?_; rintro e w1 ⟨rfl, hr, hg⟩; have HR := Lib.hid hr; have HG := Lib.hid hg; clear hr hg k0)
    go_ret
    rw [HQ2.out]
    exact ⟨rfl, HR.out, grown_allocS _ HG.out⟩
  | true =>
    have hn0 := HUP rfl
    by_cases hbig : (r'.s.length : Int) < n
    · have hd : decide ((r'.s.length : Int) < n) = true := decide_eq_true hbig
      have HQ2 : Hid (Q = ([], ⟨r.s, 4⟩)) := Lib.hid (by rw [HQ.out, if_pos rfl, if_pos hbig])
      have hsz := bs_size r'.s
      go_enter Tryd.func39, Tryd.ntmps39
      go_wp2_with (go_at_call 37; refine HT.out.mono ?_; rintro e w1 ⟨rfl, hr, hg⟩; have HR : Hid (RdAt w1 g r') := Lib.hid hr; have HG := Lib.hid hg; have m0 := HR.out.c0; have m1 := HR.out.c1; have mf := HR.out.fz; clear hr hg k0)
      go_ret
      rw [HQ2.out]
      exact ⟨rfl, (HR.out.setS hlen).setE 4, grown_allocS _ (grown_twoS (grown_twoS HG.out (grown_setS _ _ _ _)) (grown_setS _ _ _ _))⟩
    · have hd : decide ((r'.s.length : Int) < n) = false := decide_eq_false hbig
      have HQ2 : Hid (Q = (r'.s.take n.toNat, ⟨r'.s.drop n.toNat, r'.e⟩)) := Lib.hid (by rw [HQ.out, if_pos rfl, if_neg hbig])
      have hsz := bs_size r'.s
      have hnl : n ≤ (r'.s.length : Int) := by omega
      have e1 : (bs r'.s).extract 0 n.toNat = bs (r'.s.take n.toNat) := by rw [ByteArray.extract_mk]; simp
      have e2 : (bs r'.s).extract n.toNat r'.s.length = bs (r'.s.drop n.toNat) := by rw [ByteArray.extract_mk, List.take_of_length_le (by rw [List.length_drop]; omega)]
      go_enter Tryd.func39, Tryd.ntmps39
      go_wp2_with (go_at_call 37; refine HT.out.mono ?_; rintro e w1 ⟨rfl, hr, hg⟩; have HR : Hid (RdAt w1 g r') := Lib.hid hr; have HG := Lib.hid hg; have m0 := HR.out.c0; have m1 := HR.out.c1; have mf := HR.out.fz; clear hr hg k0)
      go_ret
      rw [HQ2.out]
      have hl := HR.out.len
      exact ⟨rfl, HR.out.setS (by rw [List.length_drop]; omega), grown_allocS _ (grown_twoS HG.out (grown_setS _ _ _ _))⟩
end Go.Proofs.YtmplokdbbhlomaaDoor
