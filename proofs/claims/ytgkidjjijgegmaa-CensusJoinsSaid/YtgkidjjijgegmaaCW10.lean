/-
  What census.Kind and complineref30.SameEvents (at like lists) come to, over this seat's translation: contracts for callers.
-/
import Derived.Test.YtgkidjjijgegmaaCW6
import Derived.Test.YtgkidjjijgegmaaTwo
namespace Go.Proofs.Ytgkidjjijgegmaa
open Go.RowKit

theorem ev_info : (Try.prog.info? 34).map (fun i => (i.zero, i.size, i.bytes)) = some (some (.agg #[.int .i64 0, .int .i64 0, .int .i64 0, .int .i64 0, .int .i64 0]), 5, 40) := by kernel_rfl
theorem ev_one (x : Ev) : ∀ u ∈ x.cells, u.oneCell' = true := by
  intro u hu
  simp [Ev.cells] at hu
  rcases hu with rfl | rfl | rfl | rfl | rfl <;> rfl
def kindF (l : List Ev) (k : Int) : List Ev := l.filter fun x => x.k == k
theorem kindF_snoc {l : List Ev} {i : Nat} (hi : i < l.length) (k : Int) : kindF (l.take (i + 1)) k = if l[i].k = k then kindF (l.take i) k ++ [l[i]] else kindF (l.take i) k := by
  unfold kindF
  rw [List.take_succ_eq_append_getElem hi, List.filter_append]
  by_cases h : l[i].k = k
  · rw [if_pos h]; simp [h]
  · rw [if_neg h]; simp [h]
theorem kindF_len (l : List Ev) (k : Int) : (kindF l k).length ≤ l.length := List.length_filter_le ..
theorem evRows_snoc (l : List Ev) (x : Ev) : evRows (l ++ [x]) = evRows l ++ x.cells := by simp [evRows]
/-- Events have come back, the call's own. -/
def GotEv (L : List Ev) (w : World) (e : Ending) (w' : World) : Prop := ∃ A c, e = .returned (.slice A L.length c) ∧ w'.ownsRow w.heap.size 34 5 (.slice A L.length c) L.length (evRows L) ∧ Below w.heap.size w w'
set_option maxRecDepth 100000 in
set_option maxHeartbeats 3200000 in
theorem kind_any (l : List Ev) (A : Option Addr) (c : Nat) (kd : Int) (w : World) (hs : Seg w w.heap.size A (evRows l)) (hl : l.length ≤ 100000) :
    Calls Try.prog 20 #[.slice A l.length c, .int .i64 kd] w (GotEv (kindF l kd) w) := by
  obtain ⟨i0, hi0, hz0, hz1', hz2⟩ := info_parts ev_info
  have HS := Lib.hid hs
  clear hs
  go_enter Try.func20, Try.ntmps20
  go_wp2_with fail
  go_loopw [5, 7, 10] (fun u _ i wr => ∃ k : Nat, k ≤ l.length ∧ i = .int .i64 k ∧ Hid (wr.ownsRow w.heap.size 34 5 u (kindF (l.take k) kd).length (evRows (kindF (l.take k) kd))) ∧ Hid (Below w.heap.size w wr)) (fun _ _ i _ => l.length - (intOf i).toNat)
  case atStart => exact ⟨0, Nat.zero_le _, rfl, World.ownsRow_nil _ _ _ _, Below.refl _ _⟩
  case round =>
    obtain ⟨k, hk, rfl, HO, HB⟩ := hrel
    have hsz := HB.out.size
    by_cases hlt : k < l.length
    · obtain ⟨b, o, rfl, hb, e0, e1, e2, e3, e4⟩ := ev_at (HS.out.below HB.out) hlt
      have HRS := Lib.hid (kindF_snoc hlt kd)
      have hyl : (kindF (l.take k) kd).length ≤ 100000 := by have := kindF_len (l.take k) kd; rw [List.length_take] at this; omega
      obtain ⟨x, hx⟩ : ∃ x, x = l[k] := ⟨_, rfl⟩
      rw [← hx] at e0 e1 e2 e3 e4 HRS
      clear hx
      obtain ⟨xk, xm, xa, xn, xo⟩ := x
      simp only at e0 e1 e2 e3 e4 HRS
      obtain ⟨ys, HYS⟩ : ∃ ys, Hid (ys = kindF (l.take k) kd) := ⟨_, Lib.hid rfl⟩
      obtain ⟨zs, HZS⟩ : ∃ zs, Hid (zs = kindF (l.take (k + 1)) kd) := ⟨_, Lib.hid rfl⟩
      rw [← HYS.out] at HO hyl HRS
      rw [← HZS.out] at HRS
      clear HYS
      have HBX : Hid (Below wr.heap.size wr (wr.alloc (.cells #[.int .i64 xk, .int .i64 xm, .int .i64 xa, .int .i64 xn, .int .i64 xo] 34))) := Lib.hid ((Below.refl _ _).alloc (Nat.le_refl _) _)
      have HBW := Lib.hid (HB.out.trans (HBX.out.mono hsz))
      have HOX := Lib.hid (own_below HO.out HBX.out)
      by_cases hkd : xk = kd
      · have hb1 : (xk == kd) = true := by simpa using hkd
        have HZ : Hid (zs = ys ++ [⟨xk, xm, xa, xn, xo⟩]) := Lib.hid (by rw [HRS.out, if_pos hkd])
        clear HRS hkd
        go_wp2_with (at_builtin; refine wpList_append_own _ rfl _ _ 22 rfl w.heap.size 34 i0 _ 5 40 Try.underlying22 hi0 hz0 hz1' hz2 rfl (by decide) _ ys.length (evRows ys) rfl (HOX.out.alloc _) ⟨wr.heap.size + 1, 0, none⟩ 1 1 [.int .i64 xk, .int .i64 xm, .int .i64 xa, .int .i64 xn, .int .i64 xo] rfl rfl (new_cells _ _ #[_, _, _, _, _] (by simp)) (ev_one ⟨xk, xm, xa, xn, xo⟩) (by simp only [maxLen]; omega) (by omega) (by simp; omega) ?_)
        intro v' w4 hown1 hgrow1 _
        have HO4 : Hid (w4.ownsRow w.heap.size 34 5 v' zs.length (evRows zs)) := Lib.hid (by rw [HZ.out, evRows_snoc, List.length_append]; exact hown1)
        have HG4 : Hid (Below w.heap.size w w4) := Lib.hid ((HBW.out.alloc HBW.out.size _).grown hgrow1 (by have := HBW.out.size; simp at this ⊢; omega) (fun j hj => own_base HO.out j hj))
        clear hown1 hgrow1
        go_wp2_with fail
        go_roundw
        case rel => exact ⟨k + 1, by omega, by go_num, by rw [← HZS.out]; exact HO4.out, HG4.out⟩
        case measure => simp [intOf]; omega
      · have hb1 : (xk == kd) = false := by simpa using hkd
        have HZ : Hid (zs = ys) := Lib.hid (by rw [HRS.out, if_neg hkd])
        clear HRS hkd
        go_wp2_with fail
        go_roundw
        case rel => exact ⟨k + 1, by omega, by go_num, by rw [← HZS.out, HZ.out]; exact HOX.out, HBW.out⟩
        case measure => simp [intOf]; omega
    · obtain rfl : k = l.length := by omega
      have hO := HO.out
      rw [List.take_length] at hO
      obtain ⟨A1, c1, rfl⟩ := own_form hO
      have HOE := Lib.hid hO
      clear hO
      go_wp2_with fail
      go_ret
      exact ⟨A1, c1, rfl, HOE.out, HB.out⟩
set_option maxHeartbeats 1600000 in
theorem sev_any (l : List Ev) (A A' : Option Addr) (c c' : Nat) (w : World) (hs : Seg w w.heap.size A (evRows l)) (hs' : Seg w w.heap.size A' (evRows l)) (hl : l.length ≤ 100000) :
    Calls Try.prog 19 #[.slice A l.length c, .slice A' l.length c'] w fun e w' => e = .returned (.bool true) ∧ Below w.heap.size w w' := by
  have HS := Lib.hid hs
  have HS' := Lib.hid hs'
  clear hs hs'
  go_enter Try.func19, Try.ntmps19
  go_wp2_with fail
  go_loopw [5] (fun i wr => ∃ k : Nat, k ≤ l.length ∧ i = .int .i64 k ∧ Hid (Below w.heap.size w wr)) (fun i _ => l.length - (intOf i).toNat)
  case atStart => exact ⟨0, Nat.zero_le _, rfl, Below.refl _ _⟩
  case round =>
    obtain ⟨k, hk, rfl, HB⟩ := hrel
    have hsz := HB.out.size
    by_cases hlt : k < l.length
    · obtain ⟨b, o, rfl, hb, e0, e1, e2, e3, e4⟩ := ev_at (HS.out.below HB.out) hlt
      obtain ⟨b', o', rfl, hb', e0', e1', e2', e3', e4'⟩ := ev_at (HS'.out.below HB.out) hlt
      have hk0 : (0 : Int) ≤ (k : Int) := by omega
      have hkb : (k : Int) < (l.length : Int) := by omega
      go_wp2_with fail
      go_quiet (fail)
      go_wp2_with fail
      go_roundw
      case rel => exact ⟨k + 1, by omega, by go_num, below_drewN HB.out _⟩
      case measure => simp [intOf]; omega
    · obtain rfl : k = l.length := by omega
      go_wp2_with fail
      go_ret
      exact ⟨rfl, HB.out⟩
end Go.Proofs.Ytgkidjjijgegmaa
