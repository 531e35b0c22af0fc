/-
  What complineref37.minus and Column come to, over this seat's translation: contracts for callers. (Printed by gen_cw8.py.)
-/
import Derived.Test.YtgkidjjijgegmaaCW6
import Derived.Test.YtgkidjjijgegmaaTwo
import Derived.Test.YtgkidjjijgegmaaNotI
namespace Go.Proofs.Ytgkidjjijgegmaa
open Go.RowKit

def mctr (x : Ev) : List Int := if x.k = 6 then [-x.n - 1, 1] else [x.n]
/-- A column, as the document has it. -/
def rcol (l : List Ev) (q : Int × Int) (j : Nat) : List Int := l.flatMap fun x => if plJ x.k = some j ∧ sideE x = q then mctr x else []
theorem rcol_snoc {l : List Ev} {k : Nat} (hk : k < l.length) (q : Int × Int) (j : Nat) : rcol (l.take (k + 1)) q j = if plJ l[k].k = some j ∧ sideE l[k] = q then rcol (l.take k) q j ++ mctr l[k] else rcol (l.take k) q j := by
  unfold rcol
  rw [List.take_succ_eq_append_getElem hk, List.flatMap_append]
  by_cases h : plJ l[k].k = some j ∧ sideE l[k] = q
  · rw [if_pos h]; simp [h]
  · rw [if_neg h]; simp [h]
theorem rcol_len (l : List Ev) (q : Int × Int) (j : Nat) : (rcol l q j).length ≤ 2 * l.length := by
  unfold rcol
  induction l with
  | nil => simp
  | cons x l ih =>
    rw [List.flatMap_cons, List.length_append, List.length_cons]
    have : (mctr x).length ≤ 2 := by unfold mctr; split <;> simp
    split <;> simp at * <;> omega
theorem rcol_I64 {l : List Ev} (h : ∀ x ∈ l, I64 x.n) (q : Int × Int) (j : Nat) : ∀ y ∈ rcol l q j, I64 y := by
  intro y hy
  unfold rcol at hy
  obtain ⟨x, hx, hy⟩ := List.mem_flatMap.1 hy
  have hn := h x hx
  split at hy
  · unfold mctr at hy
    unfold I64 at hn ⊢
    split at hy
    · simp at hy
      rcases hy with rfl | rfl <;> omega
    · simp at hy
      subst hy
      exact hn
  · simp at hy
/-- Its sum is the census's. -/
theorem rcol_sum {l : List Ev} (h : ∀ x ∈ l, I64 x.n) (q : Int × Int) (j : Nat) : sumI (rcol l q j) = gE l q j := by
  unfold gE rcol colF
  induction l with
  | nil => rfl
  | cons x l ih =>
    rw [List.flatMap_cons, List.flatMap_cons, sumI_append, sumI_append, ih fun y hy => h y (List.mem_cons_of_mem _ hy)]
    congr 1
    split
    · unfold mctr ctr
      split
      · rw [lsL_sum (h x (List.mem_cons_self ..))]
        simp only [sumI]
        omega
      · rfl
    · rfl
theorem plJ_ne0 {k : Int} (h5 : k ≠ 5) (h6 : k ≠ 6) : plJ k ≠ some 0 := by
  unfold plJ
  intro h
  repeat' split at h
  all_goals first | omega | simp at h
theorem plJ_ne1 {k : Int} (h13 : k ≠ 13) (h19 : k ≠ 19) : plJ k ≠ some 1 := by
  unfold plJ
  intro h
  repeat' split at h
  all_goals first | omega | simp at h
theorem plJ_ne2 {k : Int} (h12 : k ≠ 12) : plJ k ≠ some 2 := by
  unfold plJ
  intro h
  repeat' split at h
  all_goals first | omega | simp at h
theorem plJ_ne3 {k : Int} (h14 : k ≠ 14) : plJ k ≠ some 3 := by
  unfold plJ
  intro h
  repeat' split at h
  all_goals first | omega | simp at h
theorem plJ_ne4 {k : Int} (h15 : k ≠ 15) : plJ k ≠ some 4 := by
  unfold plJ
  intro h
  repeat' split at h
  all_goals first | omega | simp at h
set_option maxHeartbeats 400000 in
theorem minus_any (n : Int) (w : World) (h : I64 n) :
    Calls Try.prog 35 #[.int .i64 n] w fun e w' => e = .returned (.slice (some ⟨w.heap.size, 0, none⟩) 2 2) ∧ w.alloc (.cells #[.int .i64 (-n - 1), .int .i64 1] 2) = w' := by
  have hw := not_bits n h
  clear h
  go_enter Try.func35, Try.ntmps35
  go_wp2_with fail
  go_ret
  exact ⟨rfl, rfl⟩
/-- A list has come back, the call's own. -/
def GotL (L : List Int) (w : World) (e : Ending) (w' : World) : Prop := ∃ A c, e = .returned (.slice A L.length c) ∧ w'.ownsRow w.heap.size 2 1 (.slice A L.length c) L.length (L.map (Value.int .i64)) ∧ Below w.heap.size w w'
theorem i64_infoL : (Try.prog.info? 2).map (fun i => (i.zero, i.size, i.bytes)) = some (some (.int .i64 0), 1, 8) := by kernel_rfl
set_option maxRecDepth 100000 in
set_option maxHeartbeats 6400000 in
theorem column_any (l : List Ev) (A : Option Addr) (c : Nat) (q1 q2 : Int) (j : Nat) (hj : j < 5) (w : World) (hs : Seg w w.heap.size A (evRows l)) (hI : ∀ x ∈ l, EvOk x) (hl : l.length ≤ 100000) :
    Calls Try.prog 24 #[.slice A l.length c, .int .i64 q1, .int .i64 q2, .int .i64 (j : Int)] w (GotL (rcol l (q1, q2) j) w) := by
  obtain ⟨i0, hi0, hz0, hz1', hz2⟩ := info_parts i64_infoL
  have HS := Lib.hid hs
  have HI := Lib.hid hI
  have HJ := Lib.hid hj
  clear hs hI hj
  go_enter Try.func24, Try.ntmps24
  go_wp2_with fail
  go_loopw [9, 10, 11, 12, 13] (fun u i _ _ _ wr => ∃ k : Nat, k ≤ l.length ∧ i = .int .i64 k ∧ Hid (wr.ownsRow w.heap.size 2 1 u (rcol (l.take k) (q1, q2) j).length ((rcol (l.take k) (q1, q2) j).map (Value.int .i64))) ∧ Hid (Below w.heap.size w wr)) (fun _ i _ _ _ _ => l.length - (intOf i).toNat)
  case atStart => exact ⟨0, Nat.zero_le _, rfl, World.ownsRow_nil _ _ _ _, Below.refl _ _⟩
  case round =>
    obtain ⟨k, hk, rfl, HO, HB⟩ := hrel
    have hsz := HB.out.size
    by_cases hlt : k < l.length
    · obtain ⟨b, o, rfl, hb, e0, e1, e2, e3, e4⟩ := ev_at (HS.out.below HB.out) hlt
      have HX := Lib.hid (HI.out _ (List.getElem_mem hlt))
      have HRS := Lib.hid (rcol_snoc hlt (q1, q2) j)
      have hyl : (rcol (l.take k) (q1, q2) j).length ≤ 200000 := by have := rcol_len (l.take k) (q1, q2) j; rw [List.length_take] at this; omega
      obtain ⟨x, hx⟩ : ∃ x, x = l[k] := ⟨_, rfl⟩
      rw [← hx] at e0 e1 e2 e3 e4 HX HRS
      clear hx
      obtain ⟨xk, xm, xa, xn, xo⟩ := x
      simp only at e0 e1 e2 e3 e4
      obtain ⟨ys, HYS⟩ : ∃ ys, Hid (ys = rcol (l.take k) (q1, q2) j) := ⟨_, Lib.hid rfl⟩
      obtain ⟨zs, HZS⟩ : ∃ zs, Hid (zs = rcol (l.take (k + 1)) (q1, q2) j) := ⟨_, Lib.hid rfl⟩
      rw [← HYS.out] at HO hyl HRS
      rw [← HZS.out] at HRS
      clear HYS
      have HBX : Hid (Below wr.heap.size wr (wr.alloc (.cells #[.int .i64 xk, .int .i64 xm, .int .i64 xa, .int .i64 xn, .int .i64 xo] 34))) := Lib.hid ((Below.refl _ _).alloc (Nat.le_refl _) _)
      have HBW := Lib.hid (HB.out.trans (HBX.out.mono hsz))
      have HOX := Lib.hid (own_below HO.out HBX.out)
      by_cases hkv : xk = 15
      · skip
        have HPL : Hid (plJ xk = some 4) := Lib.hid (by rw [hkv]; rfl)
        have b5 : (xk == 5) = false := by rw [hkv]; rfl
        have b6 : (xk == 6) = false := by rw [hkv]; rfl
        have b12 : (xk == 12) = false := by rw [hkv]; rfl
        have b13 : (xk == 13) = false := by rw [hkv]; rfl
        have b14 : (xk == 14) = false := by rw [hkv]; rfl
        have b15 : (xk == 15) = true := by rw [hkv]; rfl
        have b19 : (xk == 19) = false := by rw [hkv]; rfl
        have HKF : Hid ((xk = 19 ∨ xk = 15) ∧ xk = 15) := Lib.hid ⟨by omega, hkv⟩
        clear hkv
        by_cases hm : xm = q1
        case neg =>
          have bm : (xm != q1) = true := by simpa using hm
          have HNO : Hid (¬ (plJ xk = some j ∧ sideE ⟨xk, xm, xa, xn, xo⟩ = (q1, q2))) := Lib.hid (fun e => hm (congrArg Prod.fst e.2))
          clear hm HKF
          have HZ : Hid (zs = ys) := Lib.hid (by rw [HRS.out, if_neg (HNO.out)])
          clear HRS
          go_wp2_with fail
          go_roundw
          case rel => exact ⟨k + 1, by omega, by go_num, by rw [← HZS.out, HZ.out]; exact HOX.out, HBW.out⟩
          case measure => simp [intOf]; omega
        have bm : (xm != q1) = false := by simpa using hm
        by_cases ha : 0 = q2
        case neg =>
          have ba : ((0 : Int) != q2) = true := by simpa using ha
          have HNO : Hid (¬ (plJ xk = some j ∧ sideE ⟨xk, xm, xa, xn, xo⟩ = (q1, q2))) := Lib.hid (fun e => ha (by have := congrArg Prod.snd e.2; unfold sideE at this; simp only at this; rwa [if_pos HKF.out.1] at this))
          clear hm ha HKF
          have HZ : Hid (zs = ys) := Lib.hid (by rw [HRS.out, if_neg (HNO.out)])
          clear HRS
          go_wp2_with fail
          go_roundw
          case rel => exact ⟨k + 1, by omega, by go_num, by rw [← HZS.out, HZ.out]; exact HOX.out, HBW.out⟩
          case measure => simp [intOf]; omega
        have ba : ((0 : Int) != q2) = false := by simpa using ha
        have HSD : Hid (sideE ⟨xk, xm, xa, xn, xo⟩ = (q1, q2)) := Lib.hid (by unfold sideE; simp only; rw [if_pos HKF.out.1, hm, ha])
        clear hm ha
        have hjc : j = 0 ∨ j = 1 ∨ j = 2 ∨ j = 3 ∨ j = 4 := by have := HJ.out; omega
        rcases hjc with hjv | hjv | hjv | hjv | hjv
        · skip
          have j0 : ((j : Int) == 0) = true := by rw [hjv]; rfl
          have j1 : ((j : Int) == 1) = false := by rw [hjv]; rfl
          have j2 : ((j : Int) == 2) = false := by rw [hjv]; rfl
          have j3 : ((j : Int) == 3) = false := by rw [hjv]; rfl
          have j4 : ((j : Int) == 4) = false := by rw [hjv]; rfl
          have HNO : Hid (¬ (plJ xk = some j ∧ sideE ⟨xk, xm, xa, xn, xo⟩ = (q1, q2))) := Lib.hid (fun e => by have := e.1; rw [HPL.out, hjv] at this; simp at this)
          clear hjv HKF HPL HSD
          have HZ : Hid (zs = ys) := Lib.hid (by rw [HRS.out, if_neg (HNO.out)])
          clear HRS
          go_wp2_with fail
          go_roundw
          case rel => exact ⟨k + 1, by omega, by go_num, by rw [← HZS.out, HZ.out]; exact HOX.out, HBW.out⟩
          case measure => simp [intOf]; omega
        · skip
          have j0 : ((j : Int) == 0) = false := by rw [hjv]; rfl
          have j1 : ((j : Int) == 1) = true := by rw [hjv]; rfl
          have j2 : ((j : Int) == 2) = false := by rw [hjv]; rfl
          have j3 : ((j : Int) == 3) = false := by rw [hjv]; rfl
          have j4 : ((j : Int) == 4) = false := by rw [hjv]; rfl
          have HNO : Hid (¬ (plJ xk = some j ∧ sideE ⟨xk, xm, xa, xn, xo⟩ = (q1, q2))) := Lib.hid (fun e => by have := e.1; rw [HPL.out, hjv] at this; simp at this)
          clear hjv HKF HPL HSD
          have HZ : Hid (zs = ys) := Lib.hid (by rw [HRS.out, if_neg (HNO.out)])
          clear HRS
          go_wp2_with fail
          go_roundw
          case rel => exact ⟨k + 1, by omega, by go_num, by rw [← HZS.out, HZ.out]; exact HOX.out, HBW.out⟩
          case measure => simp [intOf]; omega
        · skip
          have j0 : ((j : Int) == 0) = false := by rw [hjv]; rfl
          have j1 : ((j : Int) == 1) = false := by rw [hjv]; rfl
          have j2 : ((j : Int) == 2) = true := by rw [hjv]; rfl
          have j3 : ((j : Int) == 3) = false := by rw [hjv]; rfl
          have j4 : ((j : Int) == 4) = false := by rw [hjv]; rfl
          have HNO : Hid (¬ (plJ xk = some j ∧ sideE ⟨xk, xm, xa, xn, xo⟩ = (q1, q2))) := Lib.hid (fun e => by have := e.1; rw [HPL.out, hjv] at this; simp at this)
          clear hjv HKF HPL HSD
          have HZ : Hid (zs = ys) := Lib.hid (by rw [HRS.out, if_neg (HNO.out)])
          clear HRS
          go_wp2_with fail
          go_roundw
          case rel => exact ⟨k + 1, by omega, by go_num, by rw [← HZS.out, HZ.out]; exact HOX.out, HBW.out⟩
          case measure => simp [intOf]; omega
        · skip
          have j0 : ((j : Int) == 0) = false := by rw [hjv]; rfl
          have j1 : ((j : Int) == 1) = false := by rw [hjv]; rfl
          have j2 : ((j : Int) == 2) = false := by rw [hjv]; rfl
          have j3 : ((j : Int) == 3) = true := by rw [hjv]; rfl
          have j4 : ((j : Int) == 4) = false := by rw [hjv]; rfl
          have HNO : Hid (¬ (plJ xk = some j ∧ sideE ⟨xk, xm, xa, xn, xo⟩ = (q1, q2))) := Lib.hid (fun e => by have := e.1; rw [HPL.out, hjv] at this; simp at this)
          clear hjv HKF HPL HSD
          have HZ : Hid (zs = ys) := Lib.hid (by rw [HRS.out, if_neg (HNO.out)])
          clear HRS
          go_wp2_with fail
          go_roundw
          case rel => exact ⟨k + 1, by omega, by go_num, by rw [← HZS.out, HZ.out]; exact HOX.out, HBW.out⟩
          case measure => simp [intOf]; omega
        · skip
          have j0 : ((j : Int) == 0) = false := by rw [hjv]; rfl
          have j1 : ((j : Int) == 1) = false := by rw [hjv]; rfl
          have j2 : ((j : Int) == 2) = false := by rw [hjv]; rfl
          have j3 : ((j : Int) == 3) = false := by rw [hjv]; rfl
          have j4 : ((j : Int) == 4) = true := by rw [hjv]; rfl
          have hcond : plJ xk = some j ∧ sideE ⟨xk, xm, xa, xn, xo⟩ = (q1, q2) := ⟨by rw [HPL.out, hjv], HSD.out⟩
          have hm6 : mctr ⟨xk, xm, xa, xn, xo⟩ = [xn] := by unfold mctr; rw [if_neg (by simpa using (show xk ≠ 6 by have := HKF.out.2; omega))]
          rw [hm6] at HRS
          clear hjv HKF HPL HSD hm6
          have HZ : Hid (zs = ys ++ [xn]) := Lib.hid (by rw [HRS.out, if_pos (hcond)])
          clear HRS
          go_wp2_with (at_builtin; refine wpList_append_own _ rfl _ _ 45 rfl w.heap.size 2 i0 _ 1 8 Try.underlying45 hi0 hz0 hz1' hz2 rfl (by decide) _ ys.length (ys.map (Value.int .i64)) rfl (HOX.out.alloc _) ⟨wr.heap.size + 1, 0, none⟩ 1 1 [.int .i64 xn] rfl rfl (new_cells _ _ #[_] (by simp)) one_int (by simp only [maxLen]; omega) (by omega) (by simp; omega) ?_)
          intro v' w4 hown1 hgrow1 _
          have hx4 : w4.cell? ⟨wr.heap.size, 0, none⟩ = some (.int .i64 xk) := by
            rw [World.cell?_of_block (a := ⟨wr.heap.size, 0, none⟩) (hgrow1.block wr.heap.size (by simp; omega) (fun e => by have := (HO.out.lt _ e.symm).2; omega)), cell_old _ _ _ (by simp), cell_new _ _ _ _ rfl]
            rfl
          have HO4 : Hid (w4.ownsRow w.heap.size 2 1 v' zs.length (zs.map (Value.int .i64))) := Lib.hid (by rw [HZ.out, List.map_append, List.length_append]; exact hown1)
          have HG4 : Hid (Below w.heap.size w w4) := Lib.hid ((HBW.out.alloc HBW.out.size _).grown hgrow1 (Nat.le_trans HBW.out.size (by simp)) (fun j hj => own_base HO.out j hj))
          clear hown1 hgrow1
          go_wp2_with fail
          go_roundw
          case rel => exact ⟨k + 1, by omega, by go_num, by rw [← HZS.out]; exact HO4.out, HG4.out⟩
          case measure => simp [intOf]; omega
      have hn15 : xk ≠ 15 := hkv
      have b15 : (xk == 15) = false := by simpa using hkv
      clear hkv
      by_cases hkv : xk = 19
      · skip
        have HPL : Hid (plJ xk = some 1) := Lib.hid (by rw [hkv]; rfl)
        have b5 : (xk == 5) = false := by rw [hkv]; rfl
        have b6 : (xk == 6) = false := by rw [hkv]; rfl
        have b12 : (xk == 12) = false := by rw [hkv]; rfl
        have b13 : (xk == 13) = false := by rw [hkv]; rfl
        have b14 : (xk == 14) = false := by rw [hkv]; rfl
        have b15 : (xk == 15) = false := by rw [hkv]; rfl
        have b19 : (xk == 19) = true := by rw [hkv]; rfl
        have HKF : Hid ((xk = 19 ∨ xk = 15) ∧ xk = 19) := Lib.hid ⟨by omega, hkv⟩
        clear hkv
        by_cases hm : xm = q1
        case neg =>
          have bm : (xm != q1) = true := by simpa using hm
          have HNO : Hid (¬ (plJ xk = some j ∧ sideE ⟨xk, xm, xa, xn, xo⟩ = (q1, q2))) := Lib.hid (fun e => hm (congrArg Prod.fst e.2))
          clear hm HKF
          have HZ : Hid (zs = ys) := Lib.hid (by rw [HRS.out, if_neg (HNO.out)])
          clear HRS
          go_wp2_with fail
          go_roundw
          case rel => exact ⟨k + 1, by omega, by go_num, by rw [← HZS.out, HZ.out]; exact HOX.out, HBW.out⟩
          case measure => simp [intOf]; omega
        have bm : (xm != q1) = false := by simpa using hm
        by_cases ha : 0 = q2
        case neg =>
          have ba : ((0 : Int) != q2) = true := by simpa using ha
          have HNO : Hid (¬ (plJ xk = some j ∧ sideE ⟨xk, xm, xa, xn, xo⟩ = (q1, q2))) := Lib.hid (fun e => ha (by have := congrArg Prod.snd e.2; unfold sideE at this; simp only at this; rwa [if_pos HKF.out.1] at this))
          clear hm ha HKF
          have HZ : Hid (zs = ys) := Lib.hid (by rw [HRS.out, if_neg (HNO.out)])
          clear HRS
          go_wp2_with fail
          go_roundw
          case rel => exact ⟨k + 1, by omega, by go_num, by rw [← HZS.out, HZ.out]; exact HOX.out, HBW.out⟩
          case measure => simp [intOf]; omega
        have ba : ((0 : Int) != q2) = false := by simpa using ha
        have HSD : Hid (sideE ⟨xk, xm, xa, xn, xo⟩ = (q1, q2)) := Lib.hid (by unfold sideE; simp only; rw [if_pos HKF.out.1, hm, ha])
        clear hm ha
        have hjc : j = 0 ∨ j = 1 ∨ j = 2 ∨ j = 3 ∨ j = 4 := by have := HJ.out; omega
        rcases hjc with hjv | hjv | hjv | hjv | hjv
        · skip
          have j0 : ((j : Int) == 0) = true := by rw [hjv]; rfl
          have j1 : ((j : Int) == 1) = false := by rw [hjv]; rfl
          have j2 : ((j : Int) == 2) = false := by rw [hjv]; rfl
          have j3 : ((j : Int) == 3) = false := by rw [hjv]; rfl
          have j4 : ((j : Int) == 4) = false := by rw [hjv]; rfl
          have HNO : Hid (¬ (plJ xk = some j ∧ sideE ⟨xk, xm, xa, xn, xo⟩ = (q1, q2))) := Lib.hid (fun e => by have := e.1; rw [HPL.out, hjv] at this; simp at this)
          clear hjv HKF HPL HSD
          have HZ : Hid (zs = ys) := Lib.hid (by rw [HRS.out, if_neg (HNO.out)])
          clear HRS
          go_wp2_with fail
          go_roundw
          case rel => exact ⟨k + 1, by omega, by go_num, by rw [← HZS.out, HZ.out]; exact HOX.out, HBW.out⟩
          case measure => simp [intOf]; omega
        · skip
          have j0 : ((j : Int) == 0) = false := by rw [hjv]; rfl
          have j1 : ((j : Int) == 1) = true := by rw [hjv]; rfl
          have j2 : ((j : Int) == 2) = false := by rw [hjv]; rfl
          have j3 : ((j : Int) == 3) = false := by rw [hjv]; rfl
          have j4 : ((j : Int) == 4) = false := by rw [hjv]; rfl
          have hcond : plJ xk = some j ∧ sideE ⟨xk, xm, xa, xn, xo⟩ = (q1, q2) := ⟨by rw [HPL.out, hjv], HSD.out⟩
          have hm6 : mctr ⟨xk, xm, xa, xn, xo⟩ = [xn] := by unfold mctr; rw [if_neg (by simpa using (show xk ≠ 6 by have := HKF.out.2; omega))]
          rw [hm6] at HRS
          clear hjv HKF HPL HSD hm6
          have HZ : Hid (zs = ys ++ [xn]) := Lib.hid (by rw [HRS.out, if_pos (hcond)])
          clear HRS
          go_wp2_with (at_builtin; refine wpList_append_own _ rfl _ _ 45 rfl w.heap.size 2 i0 _ 1 8 Try.underlying45 hi0 hz0 hz1' hz2 rfl (by decide) _ ys.length (ys.map (Value.int .i64)) rfl (HOX.out.alloc _) ⟨wr.heap.size + 1, 0, none⟩ 1 1 [.int .i64 xn] rfl rfl (new_cells _ _ #[_] (by simp)) one_int (by simp only [maxLen]; omega) (by omega) (by simp; omega) ?_)
          intro v' w4 hown1 hgrow1 _
          have hx4 : w4.cell? ⟨wr.heap.size, 0, none⟩ = some (.int .i64 xk) := by
            rw [World.cell?_of_block (a := ⟨wr.heap.size, 0, none⟩) (hgrow1.block wr.heap.size (by simp; omega) (fun e => by have := (HO.out.lt _ e.symm).2; omega)), cell_old _ _ _ (by simp), cell_new _ _ _ _ rfl]
            rfl
          have HO4 : Hid (w4.ownsRow w.heap.size 2 1 v' zs.length (zs.map (Value.int .i64))) := Lib.hid (by rw [HZ.out, List.map_append, List.length_append]; exact hown1)
          have HG4 : Hid (Below w.heap.size w w4) := Lib.hid ((HBW.out.alloc HBW.out.size _).grown hgrow1 (Nat.le_trans HBW.out.size (by simp)) (fun j hj => own_base HO.out j hj))
          clear hown1 hgrow1
          go_wp2_with fail
          go_roundw
          case rel => exact ⟨k + 1, by omega, by go_num, by rw [← HZS.out]; exact HO4.out, HG4.out⟩
          case measure => simp [intOf]; omega
        · skip
          have j0 : ((j : Int) == 0) = false := by rw [hjv]; rfl
          have j1 : ((j : Int) == 1) = false := by rw [hjv]; rfl
          have j2 : ((j : Int) == 2) = true := by rw [hjv]; rfl
          have j3 : ((j : Int) == 3) = false := by rw [hjv]; rfl
          have j4 : ((j : Int) == 4) = false := by rw [hjv]; rfl
          have HNO : Hid (¬ (plJ xk = some j ∧ sideE ⟨xk, xm, xa, xn, xo⟩ = (q1, q2))) := Lib.hid (fun e => by have := e.1; rw [HPL.out, hjv] at this; simp at this)
          clear hjv HKF HPL HSD
          have HZ : Hid (zs = ys) := Lib.hid (by rw [HRS.out, if_neg (HNO.out)])
          clear HRS
          go_wp2_with fail
          go_roundw
          case rel => exact ⟨k + 1, by omega, by go_num, by rw [← HZS.out, HZ.out]; exact HOX.out, HBW.out⟩
          case measure => simp [intOf]; omega
        · skip
          have j0 : ((j : Int) == 0) = false := by rw [hjv]; rfl
          have j1 : ((j : Int) == 1) = false := by rw [hjv]; rfl
          have j2 : ((j : Int) == 2) = false := by rw [hjv]; rfl
          have j3 : ((j : Int) == 3) = true := by rw [hjv]; rfl
          have j4 : ((j : Int) == 4) = false := by rw [hjv]; rfl
          have HNO : Hid (¬ (plJ xk = some j ∧ sideE ⟨xk, xm, xa, xn, xo⟩ = (q1, q2))) := Lib.hid (fun e => by have := e.1; rw [HPL.out, hjv] at this; simp at this)
          clear hjv HKF HPL HSD
          have HZ : Hid (zs = ys) := Lib.hid (by rw [HRS.out, if_neg (HNO.out)])
          clear HRS
          go_wp2_with fail
          go_roundw
          case rel => exact ⟨k + 1, by omega, by go_num, by rw [← HZS.out, HZ.out]; exact HOX.out, HBW.out⟩
          case measure => simp [intOf]; omega
        · skip
          have j0 : ((j : Int) == 0) = false := by rw [hjv]; rfl
          have j1 : ((j : Int) == 1) = false := by rw [hjv]; rfl
          have j2 : ((j : Int) == 2) = false := by rw [hjv]; rfl
          have j3 : ((j : Int) == 3) = false := by rw [hjv]; rfl
          have j4 : ((j : Int) == 4) = true := by rw [hjv]; rfl
          have HNO : Hid (¬ (plJ xk = some j ∧ sideE ⟨xk, xm, xa, xn, xo⟩ = (q1, q2))) := Lib.hid (fun e => by have := e.1; rw [HPL.out, hjv] at this; simp at this)
          clear hjv HKF HPL HSD
          have HZ : Hid (zs = ys) := Lib.hid (by rw [HRS.out, if_neg (HNO.out)])
          clear HRS
          go_wp2_with fail
          go_roundw
          case rel => exact ⟨k + 1, by omega, by go_num, by rw [← HZS.out, HZ.out]; exact HOX.out, HBW.out⟩
          case measure => simp [intOf]; omega
      have hn19 : xk ≠ 19 := hkv
      have b19 : (xk == 19) = false := by simpa using hkv
      clear hkv
      have HKF : Hid (¬ (xk = 19 ∨ xk = 15) ∧ True) := Lib.hid ⟨by omega, trivial⟩
      by_cases hm : xm = q1
      case neg =>
        have bm : (xm != q1) = true := by simpa using hm
        have HNO : Hid (¬ (plJ xk = some j ∧ sideE ⟨xk, xm, xa, xn, xo⟩ = (q1, q2))) := Lib.hid (fun e => hm (congrArg Prod.fst e.2))
        clear hm HKF
        have HZ : Hid (zs = ys) := Lib.hid (by rw [HRS.out, if_neg (HNO.out)])
        clear HRS
        go_wp2_with fail
        go_roundw
        case rel => exact ⟨k + 1, by omega, by go_num, by rw [← HZS.out, HZ.out]; exact HOX.out, HBW.out⟩
        case measure => simp [intOf]; omega
      have bm : (xm != q1) = false := by simpa using hm
      by_cases ha : xa = q2
      case neg =>
        have ba : (xa != q2) = true := by simpa using ha
        have HNO : Hid (¬ (plJ xk = some j ∧ sideE ⟨xk, xm, xa, xn, xo⟩ = (q1, q2))) := Lib.hid (fun e => ha (by have := congrArg Prod.snd e.2; unfold sideE at this; simp only at this; rwa [if_neg HKF.out.1] at this))
        clear hm ha HKF
        have HZ : Hid (zs = ys) := Lib.hid (by rw [HRS.out, if_neg (HNO.out)])
        clear HRS
        go_wp2_with fail
        go_roundw
        case rel => exact ⟨k + 1, by omega, by go_num, by rw [← HZS.out, HZ.out]; exact HOX.out, HBW.out⟩
        case measure => simp [intOf]; omega
      have ba : (xa != q2) = false := by simpa using ha
      have HSD : Hid (sideE ⟨xk, xm, xa, xn, xo⟩ = (q1, q2)) := Lib.hid (by unfold sideE; simp only; rw [if_neg HKF.out.1, hm, ha])
      clear hm ha
      have hjc : j = 0 ∨ j = 1 ∨ j = 2 ∨ j = 3 ∨ j = 4 := by have := HJ.out; omega
      rcases hjc with hjv | hjv | hjv | hjv | hjv
      · skip
        have j0 : ((j : Int) == 0) = true := by rw [hjv]; rfl
        have j1 : ((j : Int) == 1) = false := by rw [hjv]; rfl
        have j2 : ((j : Int) == 2) = false := by rw [hjv]; rfl
        have j3 : ((j : Int) == 3) = false := by rw [hjv]; rfl
        have j4 : ((j : Int) == 4) = false := by rw [hjv]; rfl
        by_cases hkv : xk = 5
        · skip
          have HPL : Hid (plJ xk = some 0) := Lib.hid (by rw [hkv]; rfl)
          have b5 : (xk == 5) = true := by simpa using hkv
          have b6 : (xk == 6) = false := by rw [hkv]; rfl
          have HKF : Hid (¬ (xk = 19 ∨ xk = 15) ∧ xk = 5) := Lib.hid ⟨HKF.out.1, hkv⟩
          clear hkv hn15 hn19
          have hcond : plJ xk = some j ∧ sideE ⟨xk, xm, xa, xn, xo⟩ = (q1, q2) := ⟨by rw [HPL.out, hjv], HSD.out⟩
          have hm6 : mctr ⟨xk, xm, xa, xn, xo⟩ = [xn] := by unfold mctr; rw [if_neg (by simpa using (show xk ≠ 6 by have := HKF.out.2; omega))]
          rw [hm6] at HRS
          clear hjv HKF HPL HSD hm6
          have HZ : Hid (zs = ys ++ [xn]) := Lib.hid (by rw [HRS.out, if_pos (hcond)])
          clear HRS
          go_wp2_with (at_builtin; refine wpList_append_own _ rfl _ _ 45 rfl w.heap.size 2 i0 _ 1 8 Try.underlying45 hi0 hz0 hz1' hz2 rfl (by decide) _ ys.length (ys.map (Value.int .i64)) rfl (HOX.out.alloc _) ⟨wr.heap.size + 1, 0, none⟩ 1 1 [.int .i64 xn] rfl rfl (new_cells _ _ #[_] (by simp)) one_int (by simp only [maxLen]; omega) (by omega) (by simp; omega) ?_)
          intro v' w4 hown1 hgrow1 _
          have hx4 : w4.cell? ⟨wr.heap.size, 0, none⟩ = some (.int .i64 xk) := by
            rw [World.cell?_of_block (a := ⟨wr.heap.size, 0, none⟩) (hgrow1.block wr.heap.size (by simp; omega) (fun e => by have := (HO.out.lt _ e.symm).2; omega)), cell_old _ _ _ (by simp), cell_new _ _ _ _ rfl]
            rfl
          have HO4 : Hid (w4.ownsRow w.heap.size 2 1 v' zs.length (zs.map (Value.int .i64))) := Lib.hid (by rw [HZ.out, List.map_append, List.length_append]; exact hown1)
          have HG4 : Hid (Below w.heap.size w w4) := Lib.hid ((HBW.out.alloc HBW.out.size _).grown hgrow1 (Nat.le_trans HBW.out.size (by simp)) (fun j hj => own_base HO.out j hj))
          clear hown1 hgrow1
          go_wp2_with fail
          go_roundw
          case rel => exact ⟨k + 1, by omega, by go_num, by rw [← HZS.out]; exact HO4.out, HG4.out⟩
          case measure => simp [intOf]; omega
        have hn5 : xk ≠ 5 := hkv
        have b5 : (xk == 5) = false := by simpa using hkv
        clear hkv
        by_cases hkv : xk = 6
        · skip
          have HPL : Hid (plJ xk = some 0) := Lib.hid (by rw [hkv]; rfl)
          have b6 : (xk == 6) = true := by simpa using hkv
          have HKF : Hid (¬ (xk = 19 ∨ xk = 15) ∧ xk = 6) := Lib.hid ⟨HKF.out.1, hkv⟩
          clear hkv hn15 hn19
          have hcond : plJ xk = some j ∧ sideE ⟨xk, xm, xa, xn, xo⟩ = (q1, q2) := ⟨by rw [HPL.out, hjv], HSD.out⟩
          have h6 : xk = 6 := HKF.out.2
          clear hjv HKF HPL HSD
          have HZ : Hid (zs = (ys ++ [-xn - 1]) ++ [1]) := Lib.hid (by rw [HRS.out, if_pos (hcond)]; unfold mctr; rw [if_pos (by simpa using h6)]; simp)
          have HMI := Lib.hid fun W => minus_any xn W HX.out.2.2.2.1
          clear HRS h6
          go_wp2_with fail
          refine (HMI.out _).mono ?_
          rintro e w2 ⟨rfl, hw2⟩
          have hg0 : w2.cell? ⟨wr.heap.size + 1, 0, none⟩ = some (.int .i64 (-xn - 1)) := by rw [← hw2]; exact cell_new _ _ _ 0 (by simp)
          have hg1 : w2.cell? ⟨wr.heap.size + 1, 1, none⟩ = some (.int .i64 1) := by rw [← hw2]; exact cell_new _ _ _ 1 (by simp)
          have HB2 : Hid (Below (wr.alloc (.cells #[.int .i64 xk, .int .i64 xm, .int .i64 xa, .int .i64 xn, .int .i64 xo] 34)).heap.size (wr.alloc (.cells #[.int .i64 xk, .int .i64 xm, .int .i64 xa, .int .i64 xn, .int .i64 xo] 34)) w2) := Lib.hid (by rw [← hw2]; exact (Below.refl _ _).alloc (Nat.le_refl _) _)
          have hz2' : w2.heap.size = wr.heap.size + 2 := by rw [← hw2]; simp
          have HO2 := Lib.hid (own_below HOX.out HB2.out)
          have HBW2 := Lib.hid (HBW.out.trans (HB2.out.mono HBW.out.size))
          have hub : ∀ g, u9.ownBlock = some g → g < wr.heap.size := fun g hg => (HO.out.lt g hg).2
          have hg2 : wr.heap.size + 2 ≤ w2.heap.size := Nat.le_of_eq hz2'.symm
          clear hw2 HMI hz2'
          go_wp2_with (at_builtin; refine wpList_append_own_at _ rfl _ _ 45 rfl w.heap.size 2 i0 _ 1 8 Try.underlying45 hi0 hz0 hz1' hz2 rfl (by decide) _ ys.length (ys.map (Value.int .i64)) rfl (HO2.out.alloc _) ⟨w2.heap.size, 0, none⟩ 1 1 [.int .i64 (-xn - 1)] rfl rfl (new_cells _ _ #[_] (by simp)) one_int (by simp only [maxLen]; omega) (by omega) (by simp; omega) ?_)
          intro v' w4 hown1 hgrow1 _ hat1
          have hx4 : w4.cell? ⟨wr.heap.size + 1, 1, none⟩ = some (.int .i64 1) := by
            rw [World.cell?_of_block (a := ⟨wr.heap.size + 1, 1, none⟩) (hgrow1.block (wr.heap.size + 1) (by simp; omega) (fun e => by have := hub _ e.symm; omega)), cell_old _ _ _ (by omega)]
            exact hg1
          have HO4 : Hid (w4.ownsRow w.heap.size 2 1 v' (ys ++ [-xn - 1]).length ((ys ++ [-xn - 1]).map (Value.int .i64))) := Lib.hid (by rw [List.map_append, List.length_append]; exact hown1)
          have HG4 : Hid (Below w.heap.size w w4) := Lib.hid ((HBW2.out.alloc HBW2.out.size _).grown hgrow1 (Nat.le_trans HBW2.out.size (by simp)) (fun j hj => own_base HO.out j hj))
          have hyl4 : (ys ++ [-xn - 1]).length ≤ 200001 := by rw [List.length_append]; simp; omega
          have hsz4 := HG4.out.size
          clear hown1 hgrow1 hat1
          generalize ys ++ [-xn - 1] = ys1 at *
          go_wp2_with (at_builtin; refine wpList_append_own _ rfl _ _ 45 rfl w.heap.size 2 i0 _ 1 8 Try.underlying45 hi0 hz0 hz1' hz2 rfl (by decide) _ ys1.length (ys1.map (Value.int .i64)) rfl (HO4.out.alloc _) ⟨w4.heap.size, 0, none⟩ 1 1 [.int .i64 1] rfl rfl (new_cells _ _ #[_] (by simp)) one_int (by simp only [maxLen]; omega) (by omega) (by simp; omega) ?_)
          intro v2 w6 hown2 hgrow2 _
          have HO6 : Hid (w6.ownsRow w.heap.size 2 1 v2 zs.length (zs.map (Value.int .i64))) := Lib.hid (by rw [HZ.out, List.map_append, List.length_append]; exact hown2)
          have HG6 : Hid (Below w.heap.size w w6) := Lib.hid ((HG4.out.alloc HG4.out.size _).grown hgrow2 (Nat.le_trans HG4.out.size (by simp)) (fun j hj => own_base HO4.out j hj))
          clear hown2 hgrow2
          go_wp2_with fail
          go_roundw
          case rel => exact ⟨k + 1, by omega, by go_num, by rw [← HZS.out]; exact HO6.out, HG6.out⟩
          case measure => simp [intOf]; omega
        have hn6 : xk ≠ 6 := hkv
        have b6 : (xk == 6) = false := by simpa using hkv
        clear hkv
        have HNO : Hid (¬ (plJ xk = some j ∧ sideE ⟨xk, xm, xa, xn, xo⟩ = (q1, q2))) := Lib.hid (fun e => by have h := e.1; rw [hjv] at h; exact plJ_ne0 hn5 hn6 h)
        clear hjv HKF HSD hn15 hn19 hn5 hn6
        have HZ : Hid (zs = ys) := Lib.hid (by rw [HRS.out, if_neg (HNO.out)])
        clear HRS
        go_wp2_with fail
        go_roundw
        case rel => exact ⟨k + 1, by omega, by go_num, by rw [← HZS.out, HZ.out]; exact HOX.out, HBW.out⟩
        case measure => simp [intOf]; omega
      · skip
        have j0 : ((j : Int) == 0) = false := by rw [hjv]; rfl
        have j1 : ((j : Int) == 1) = true := by rw [hjv]; rfl
        have j2 : ((j : Int) == 2) = false := by rw [hjv]; rfl
        have j3 : ((j : Int) == 3) = false := by rw [hjv]; rfl
        have j4 : ((j : Int) == 4) = false := by rw [hjv]; rfl
        by_cases hkv : xk = 13
        · skip
          have HPL : Hid (plJ xk = some 1) := Lib.hid (by rw [hkv]; rfl)
          have b13 : (xk == 13) = true := by simpa using hkv
          have HKF : Hid (¬ (xk = 19 ∨ xk = 15) ∧ xk = 13) := Lib.hid ⟨HKF.out.1, hkv⟩
          clear hkv hn15 hn19
          have hcond : plJ xk = some j ∧ sideE ⟨xk, xm, xa, xn, xo⟩ = (q1, q2) := ⟨by rw [HPL.out, hjv], HSD.out⟩
          have hm6 : mctr ⟨xk, xm, xa, xn, xo⟩ = [xn] := by unfold mctr; rw [if_neg (by simpa using (show xk ≠ 6 by have := HKF.out.2; omega))]
          rw [hm6] at HRS
          clear hjv HKF HPL HSD hm6
          have HZ : Hid (zs = ys ++ [xn]) := Lib.hid (by rw [HRS.out, if_pos (hcond)])
          clear HRS
          go_wp2_with (at_builtin; refine wpList_append_own _ rfl _ _ 45 rfl w.heap.size 2 i0 _ 1 8 Try.underlying45 hi0 hz0 hz1' hz2 rfl (by decide) _ ys.length (ys.map (Value.int .i64)) rfl (HOX.out.alloc _) ⟨wr.heap.size + 1, 0, none⟩ 1 1 [.int .i64 xn] rfl rfl (new_cells _ _ #[_] (by simp)) one_int (by simp only [maxLen]; omega) (by omega) (by simp; omega) ?_)
          intro v' w4 hown1 hgrow1 _
          have hx4 : w4.cell? ⟨wr.heap.size, 0, none⟩ = some (.int .i64 xk) := by
            rw [World.cell?_of_block (a := ⟨wr.heap.size, 0, none⟩) (hgrow1.block wr.heap.size (by simp; omega) (fun e => by have := (HO.out.lt _ e.symm).2; omega)), cell_old _ _ _ (by simp), cell_new _ _ _ _ rfl]
            rfl
          have HO4 : Hid (w4.ownsRow w.heap.size 2 1 v' zs.length (zs.map (Value.int .i64))) := Lib.hid (by rw [HZ.out, List.map_append, List.length_append]; exact hown1)
          have HG4 : Hid (Below w.heap.size w w4) := Lib.hid ((HBW.out.alloc HBW.out.size _).grown hgrow1 (Nat.le_trans HBW.out.size (by simp)) (fun j hj => own_base HO.out j hj))
          clear hown1 hgrow1
          go_wp2_with fail
          go_roundw
          case rel => exact ⟨k + 1, by omega, by go_num, by rw [← HZS.out]; exact HO4.out, HG4.out⟩
          case measure => simp [intOf]; omega
        have hn13 : xk ≠ 13 := hkv
        have b13 : (xk == 13) = false := by simpa using hkv
        clear hkv
        have HNO : Hid (¬ (plJ xk = some j ∧ sideE ⟨xk, xm, xa, xn, xo⟩ = (q1, q2))) := Lib.hid (fun e => by have h := e.1; rw [hjv] at h; exact plJ_ne1 hn13 hn19 h)
        clear hjv HKF HSD hn13 hn15 hn19
        have HZ : Hid (zs = ys) := Lib.hid (by rw [HRS.out, if_neg (HNO.out)])
        clear HRS
        go_wp2_with fail
        go_roundw
        case rel => exact ⟨k + 1, by omega, by go_num, by rw [← HZS.out, HZ.out]; exact HOX.out, HBW.out⟩
        case measure => simp [intOf]; omega
      · skip
        have j0 : ((j : Int) == 0) = false := by rw [hjv]; rfl
        have j1 : ((j : Int) == 1) = false := by rw [hjv]; rfl
        have j2 : ((j : Int) == 2) = true := by rw [hjv]; rfl
        have j3 : ((j : Int) == 3) = false := by rw [hjv]; rfl
        have j4 : ((j : Int) == 4) = false := by rw [hjv]; rfl
        by_cases hkv : xk = 12
        · skip
          have HPL : Hid (plJ xk = some 2) := Lib.hid (by rw [hkv]; rfl)
          have b12 : (xk == 12) = true := by simpa using hkv
          have HKF : Hid (¬ (xk = 19 ∨ xk = 15) ∧ xk = 12) := Lib.hid ⟨HKF.out.1, hkv⟩
          clear hkv hn15 hn19
          have hcond : plJ xk = some j ∧ sideE ⟨xk, xm, xa, xn, xo⟩ = (q1, q2) := ⟨by rw [HPL.out, hjv], HSD.out⟩
          have hm6 : mctr ⟨xk, xm, xa, xn, xo⟩ = [xn] := by unfold mctr; rw [if_neg (by simpa using (show xk ≠ 6 by have := HKF.out.2; omega))]
          rw [hm6] at HRS
          clear hjv HKF HPL HSD hm6
          have HZ : Hid (zs = ys ++ [xn]) := Lib.hid (by rw [HRS.out, if_pos (hcond)])
          clear HRS
          go_wp2_with (at_builtin; refine wpList_append_own _ rfl _ _ 45 rfl w.heap.size 2 i0 _ 1 8 Try.underlying45 hi0 hz0 hz1' hz2 rfl (by decide) _ ys.length (ys.map (Value.int .i64)) rfl (HOX.out.alloc _) ⟨wr.heap.size + 1, 0, none⟩ 1 1 [.int .i64 xn] rfl rfl (new_cells _ _ #[_] (by simp)) one_int (by simp only [maxLen]; omega) (by omega) (by simp; omega) ?_)
          intro v' w4 hown1 hgrow1 _
          have hx4 : w4.cell? ⟨wr.heap.size, 0, none⟩ = some (.int .i64 xk) := by
            rw [World.cell?_of_block (a := ⟨wr.heap.size, 0, none⟩) (hgrow1.block wr.heap.size (by simp; omega) (fun e => by have := (HO.out.lt _ e.symm).2; omega)), cell_old _ _ _ (by simp), cell_new _ _ _ _ rfl]
            rfl
          have HO4 : Hid (w4.ownsRow w.heap.size 2 1 v' zs.length (zs.map (Value.int .i64))) := Lib.hid (by rw [HZ.out, List.map_append, List.length_append]; exact hown1)
          have HG4 : Hid (Below w.heap.size w w4) := Lib.hid ((HBW.out.alloc HBW.out.size _).grown hgrow1 (Nat.le_trans HBW.out.size (by simp)) (fun j hj => own_base HO.out j hj))
          clear hown1 hgrow1
          go_wp2_with fail
          go_roundw
          case rel => exact ⟨k + 1, by omega, by go_num, by rw [← HZS.out]; exact HO4.out, HG4.out⟩
          case measure => simp [intOf]; omega
        have hn12 : xk ≠ 12 := hkv
        have b12 : (xk == 12) = false := by simpa using hkv
        clear hkv
        have HNO : Hid (¬ (plJ xk = some j ∧ sideE ⟨xk, xm, xa, xn, xo⟩ = (q1, q2))) := Lib.hid (fun e => by have h := e.1; rw [hjv] at h; exact plJ_ne2 hn12 h)
        clear hjv HKF HSD hn12 hn15 hn19
        have HZ : Hid (zs = ys) := Lib.hid (by rw [HRS.out, if_neg (HNO.out)])
        clear HRS
        go_wp2_with fail
        go_roundw
        case rel => exact ⟨k + 1, by omega, by go_num, by rw [← HZS.out, HZ.out]; exact HOX.out, HBW.out⟩
        case measure => simp [intOf]; omega
      · skip
        have j0 : ((j : Int) == 0) = false := by rw [hjv]; rfl
        have j1 : ((j : Int) == 1) = false := by rw [hjv]; rfl
        have j2 : ((j : Int) == 2) = false := by rw [hjv]; rfl
        have j3 : ((j : Int) == 3) = true := by rw [hjv]; rfl
        have j4 : ((j : Int) == 4) = false := by rw [hjv]; rfl
        by_cases hkv : xk = 14
        · skip
          have HPL : Hid (plJ xk = some 3) := Lib.hid (by rw [hkv]; rfl)
          have b14 : (xk == 14) = true := by simpa using hkv
          have HKF : Hid (¬ (xk = 19 ∨ xk = 15) ∧ xk = 14) := Lib.hid ⟨HKF.out.1, hkv⟩
          clear hkv hn15 hn19
          have hcond : plJ xk = some j ∧ sideE ⟨xk, xm, xa, xn, xo⟩ = (q1, q2) := ⟨by rw [HPL.out, hjv], HSD.out⟩
          have hm6 : mctr ⟨xk, xm, xa, xn, xo⟩ = [xn] := by unfold mctr; rw [if_neg (by simpa using (show xk ≠ 6 by have := HKF.out.2; omega))]
          rw [hm6] at HRS
          clear hjv HKF HPL HSD hm6
          have HZ : Hid (zs = ys ++ [xn]) := Lib.hid (by rw [HRS.out, if_pos (hcond)])
          clear HRS
          go_wp2_with (at_builtin; refine wpList_append_own _ rfl _ _ 45 rfl w.heap.size 2 i0 _ 1 8 Try.underlying45 hi0 hz0 hz1' hz2 rfl (by decide) _ ys.length (ys.map (Value.int .i64)) rfl (HOX.out.alloc _) ⟨wr.heap.size + 1, 0, none⟩ 1 1 [.int .i64 xn] rfl rfl (new_cells _ _ #[_] (by simp)) one_int (by simp only [maxLen]; omega) (by omega) (by simp; omega) ?_)
          intro v' w4 hown1 hgrow1 _
          have hx4 : w4.cell? ⟨wr.heap.size, 0, none⟩ = some (.int .i64 xk) := by
            rw [World.cell?_of_block (a := ⟨wr.heap.size, 0, none⟩) (hgrow1.block wr.heap.size (by simp; omega) (fun e => by have := (HO.out.lt _ e.symm).2; omega)), cell_old _ _ _ (by simp), cell_new _ _ _ _ rfl]
            rfl
          have HO4 : Hid (w4.ownsRow w.heap.size 2 1 v' zs.length (zs.map (Value.int .i64))) := Lib.hid (by rw [HZ.out, List.map_append, List.length_append]; exact hown1)
          have HG4 : Hid (Below w.heap.size w w4) := Lib.hid ((HBW.out.alloc HBW.out.size _).grown hgrow1 (Nat.le_trans HBW.out.size (by simp)) (fun j hj => own_base HO.out j hj))
          clear hown1 hgrow1
          go_wp2_with fail
          go_roundw
          case rel => exact ⟨k + 1, by omega, by go_num, by rw [← HZS.out]; exact HO4.out, HG4.out⟩
          case measure => simp [intOf]; omega
        have hn14 : xk ≠ 14 := hkv
        have b14 : (xk == 14) = false := by simpa using hkv
        clear hkv
        have HNO : Hid (¬ (plJ xk = some j ∧ sideE ⟨xk, xm, xa, xn, xo⟩ = (q1, q2))) := Lib.hid (fun e => by have h := e.1; rw [hjv] at h; exact plJ_ne3 hn14 h)
        clear hjv HKF HSD hn14 hn15 hn19
        have HZ : Hid (zs = ys) := Lib.hid (by rw [HRS.out, if_neg (HNO.out)])
        clear HRS
        go_wp2_with fail
        go_roundw
        case rel => exact ⟨k + 1, by omega, by go_num, by rw [← HZS.out, HZ.out]; exact HOX.out, HBW.out⟩
        case measure => simp [intOf]; omega
      · skip
        have j0 : ((j : Int) == 0) = false := by rw [hjv]; rfl
        have j1 : ((j : Int) == 1) = false := by rw [hjv]; rfl
        have j2 : ((j : Int) == 2) = false := by rw [hjv]; rfl
        have j3 : ((j : Int) == 3) = false := by rw [hjv]; rfl
        have j4 : ((j : Int) == 4) = true := by rw [hjv]; rfl
        have HNO : Hid (¬ (plJ xk = some j ∧ sideE ⟨xk, xm, xa, xn, xo⟩ = (q1, q2))) := Lib.hid (fun e => by have h := e.1; rw [hjv] at h; exact plJ_ne4 hn15 h)
        clear hjv HKF HSD hn15 hn19
        have HZ : Hid (zs = ys) := Lib.hid (by rw [HRS.out, if_neg (HNO.out)])
        clear HRS
        go_wp2_with fail
        go_roundw
        case rel => exact ⟨k + 1, by omega, by go_num, by rw [← HZS.out, HZ.out]; exact HOX.out, HBW.out⟩
        case measure => simp [intOf]; omega
    · obtain rfl : k = l.length := by omega
      have hO := HO.out
      rw [List.take_length] at hO
      obtain ⟨A1, c1, rfl⟩ := own_form hO
      have HOE := Lib.hid hO
      clear hO
      go_wp2_with fail
      go_ret
      exact ⟨A1, c1, rfl, HOE.out, HB.out⟩
end Go.Proofs.Ytgkidjjijgegmaa
