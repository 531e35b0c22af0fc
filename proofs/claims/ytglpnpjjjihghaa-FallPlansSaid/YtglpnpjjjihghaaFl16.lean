/-
  What complineref23.take comes to, over this seat's translation: a contract for callers.
-/
import Derived.Test.YtglpnpjjjihghaaFl15
import Derived.Maps.AppendAt
namespace Go.Proofs.Ytglpnpjjjihghaa
open Go.RowKit

/-- Draws, with one more, if it is of something. -/
def tkL (l : List Dw) (k m th nd : Int) : List Dw := if 0 < min th nd then l ++ [⟨k, m, min th nd⟩] else l
/-- Draws of one's own, and what is lacking still, have come back. -/
def GotTk (lo : Nat) (u : Value) (l : List Dw) (nd : Int) (w : World) (e : Ending) (w' : World) : Prop := ∃ u', e = .returned (.tuple #[u', .int .i64 nd]) ∧ w'.ownsRow lo 47 3 u' l.length (dwRows l) ∧ Below lo w w' ∧ w.grownBy w' u.ownBlock ∧ (u'.ownBlock = u.ownBlock ∨ u'.ownBlock = some (w.heap.size + 1))
theorem grownBy_alloc {w w' : World} {o : Obj} {row : Option Nat} (h : (w.alloc o).grownBy w' row) : w.grownBy w' row :=
  ⟨h.os, h.tape, h.output, by have := h.size; simp at this; omega, fun k hk hr => (h.block k (by simp; omega) hr).trans (heap_alloc_old' w o hk)⟩
theorem grownBy_refl (w : World) (row : Option Nat) : w.grownBy w row := ⟨rfl, rfl, rfl, Nat.le_refl _, fun _ _ _ => rfl⟩
set_option maxRecDepth 100000 in
set_option maxHeartbeats 1600000 in
theorem take23_any (lo : Nat) (u : Value) (l : List Dw) (k m th nd : Int) (w : World) (hO : w.ownsRow lo 47 3 u l.length (dwRows l)) (hlo : lo ≤ w.heap.size) (hl : l.length ≤ 1000) (ht : 0 ≤ th ∧ th ≤ 4611686018427387904) (hn : 0 ≤ nd ∧ nd ≤ 9223372036854775807) :
    Calls Try.prog 52 #[u, .int .i64 k, .int .i64 m, .int .i64 th, .int .i64 nd] w (GotTk lo u (tkL l k m th nd) (nd - min th nd) w) := by
  obtain ⟨i0, hi0, hz0, hz1, hz2⟩ := info_parts dw_info
  obtain ⟨n, hmn⟩ : ∃ n, n = min th nd := ⟨_, rfl⟩
  have HL : Hid (tkL l k m th nd = if 0 < n then l ++ [⟨k, m, n⟩] else l) := Lib.hid (by rw [hmn]; rfl)
  rw [← hmn]
  have HO := Lib.hid hO
  have hw : IntKind.i64.wrap (nd - n) = nd - n := IntWalk.i64_in _ (by omega)
  generalize tkL l k m th nd = rl at *
  clear hO
  by_cases h1 : nd < th
  · obtain rfl : n = nd := by omega
    clear hmn
    have h1d : decide (n < th) = true := decide_eq_true h1
    by_cases h0 : 0 < n
    case pos =>
      have h0d : decide (0 < n) = true := decide_eq_true h0
      have HE : Hid (rl = l ++ [⟨k, m, n⟩]) := Lib.hid (by rw [HL.out, if_pos h0])
      clear HL
      go_enter Try.func52, Try.ntmps52
      go_wp2_with (at_builtin; refine wpList_append_own_at _ rfl _ _ 40 rfl lo 47 i0 _ 3 24 Try.underlying40 hi0 hz0 hz1 hz2 rfl (by decide) _ l.length (dwRows l) rfl (HO.out.alloc _) ⟨w.heap.size, 0, none⟩ 1 1 (Dw.cells ⟨k, m, n⟩) rfl rfl (new_cells _ _ #[_, _, _] (by simp)) (dw_one ⟨k, m, n⟩) (by simp only [maxLen]; omega) (by omega) (by simp; omega) ?_)
      intro v6 w6 hown1 hgrow1 _ hat1
      have HO6 : Hid (w6.ownsRow lo 47 3 v6 rl.length (dwRows rl)) := Lib.hid (by
        rw [HE.out, dwRows_snoc, List.length_append]
        exact hown1)
      have HB6 : Hid (Below lo w w6) := Lib.hid (((Below.refl _ _).alloc hlo _).grown hgrow1 (by simp; omega) (fun j hj => own_base HO.out j hj))
      have HG6 := Lib.hid (grownBy_alloc hgrow1)
      have HA6 : Hid (v6.ownBlock = u.ownBlock ∨ v6.ownBlock = some (w.heap.size + 1)) := Lib.hid (by first | exact hat1 | (rw [Deep.nblk_alloc] at hat1; exact hat1))
      clear hown1 hgrow1 hat1
      go_wp2_with fail
      go_ret2
      exact ⟨_, (by first | rfl | simp), HO6.out, HB6.out, HG6.out, HA6.out⟩
    case neg =>
      have h0d : decide (0 < n) = false := decide_eq_false h0
      have HE : Hid (rl = l) := Lib.hid (by rw [HL.out, if_neg h0])
      clear HL
      go_enter Try.func52, Try.ntmps52
      go_wp2_with fail
      go_ret2
      exact ⟨_, rfl, by rw [HE.out]; exact HO.out, Below.refl _ _, grownBy_refl _ _, .inl rfl⟩
  · obtain rfl : n = th := by omega
    clear hmn
    have h1d : decide (nd < n) = false := decide_eq_false h1
    by_cases h0 : 0 < n
    case pos =>
      have h0d : decide (0 < n) = true := decide_eq_true h0
      have HE : Hid (rl = l ++ [⟨k, m, n⟩]) := Lib.hid (by rw [HL.out, if_pos h0])
      clear HL
      go_enter Try.func52, Try.ntmps52
      go_wp2_with (at_builtin; refine wpList_append_own_at _ rfl _ _ 40 rfl lo 47 i0 _ 3 24 Try.underlying40 hi0 hz0 hz1 hz2 rfl (by decide) _ l.length (dwRows l) rfl (HO.out.alloc _) ⟨w.heap.size, 0, none⟩ 1 1 (Dw.cells ⟨k, m, n⟩) rfl rfl (new_cells _ _ #[_, _, _] (by simp)) (dw_one ⟨k, m, n⟩) (by simp only [maxLen]; omega) (by omega) (by simp; omega) ?_)
      intro v6 w6 hown1 hgrow1 _ hat1
      have HO6 : Hid (w6.ownsRow lo 47 3 v6 rl.length (dwRows rl)) := Lib.hid (by
        rw [HE.out, dwRows_snoc, List.length_append]
        exact hown1)
      have HB6 : Hid (Below lo w w6) := Lib.hid (((Below.refl _ _).alloc hlo _).grown hgrow1 (by simp; omega) (fun j hj => own_base HO.out j hj))
      have HG6 := Lib.hid (grownBy_alloc hgrow1)
      have HA6 : Hid (v6.ownBlock = u.ownBlock ∨ v6.ownBlock = some (w.heap.size + 1)) := Lib.hid (by first | exact hat1 | (rw [Deep.nblk_alloc] at hat1; exact hat1))
      clear hown1 hgrow1 hat1
      go_wp2_with fail
      go_ret2
      exact ⟨_, (by first | rfl | simp), HO6.out, HB6.out, HG6.out, HA6.out⟩
    case neg =>
      have h0d : decide (0 < n) = false := decide_eq_false h0
      have HE : Hid (rl = l) := Lib.hid (by rw [HL.out, if_neg h0])
      clear HL
      go_enter Try.func52, Try.ntmps52
      go_wp2_with fail
      go_ret2
      exact ⟨_, rfl, by rw [HE.out]; exact HO.out, Below.refl _ _, grownBy_refl _ _, .inl rfl⟩
end Go.Proofs.Ytglpnpjjjihghaa
