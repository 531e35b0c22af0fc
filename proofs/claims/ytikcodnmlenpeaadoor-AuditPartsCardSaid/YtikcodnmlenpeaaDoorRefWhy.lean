/-
  What complineref34.Why and Wrong come to, over this seat's translation: contracts for callers.
-/
import Derived.Test.YtikcodnmlenpeaaDoorAudit7
import Derived.Test.YtikcodnmlenpeaaDoorRef34e
import Derived.Test.YtikcodnmlenpeaaDoorRef01
import Derived.Test.YtikcodnmlenpeaaDoorTwo
namespace Go.Proofs.YtikcodnmlenpeaaDoor
open Go.RowKit

theorem flows_step {l : List Ev} {a : Int} {j : Nat} {b : Bool} (hj : j < l.length) (h : (l[j].a == a) = b) : flowsL (l.take (j + 1)) a = if b then flowsL (l.take j) a ++ [flowI l[j]] else flowsL (l.take j) a := by
  rw [List.take_succ_eq_append_getElem hj, flowsL_append]
  cases b
  · simp [flowsL, h]
  · simp [flowsL, h]
theorem flowsL_len (l : List Ev) (a : Int) (k : Nat) : (flowsL (l.take k) a).length ≤ k := by
  unfold flowsL
  rw [List.length_map]
  have := List.length_filter_le (fun x => x.a == a) (l.take k)
  rw [List.length_take] at this
  omega
theorem flowsL_I64 {l : List Ev} (h : ∀ x ∈ l, I64 x.n) (a : Int) (k : Nat) : ∀ x ∈ flowsL (l.take k) a, I64 x := by
  intro x hx
  obtain ⟨y, hy, rfl⟩ := List.mem_map.1 hx
  exact flow_I64 y (h y (List.mem_of_mem_take (List.mem_filter.1 hy).1))
structure EvC (l : List Ev) (j b o : Nat) (hj : j < l.length) (W : World) : Prop where
  c0 : W.cell? ⟨b, o + j * 5, none⟩ = some (.int .i64 l[j].k)
  c1 : W.cell? ⟨b, o + j * 5 + 1, none⟩ = some (.int .i64 l[j].m)
  c2 : W.cell? ⟨b, o + j * 5 + 2, none⟩ = some (.int .i64 l[j].a)
  c3 : W.cell? ⟨b, o + j * 5 + 3, none⟩ = some (.int .i64 l[j].n)
  c4 : W.cell? ⟨b, o + j * 5 + 4, none⟩ = some (.int .i64 l[j].o)
theorem ev_cells {W : World} {B b o : Nat} {l : List Ev} (h : Seg W B (some ⟨b, o, none⟩) (evRows l)) {j : Nat} (hj : j < l.length) : EvC l j b o hj W := by
  obtain ⟨b9, o9, e9, _, c0, c1, c2, c3, c4⟩ := ev_at h hj
  injection e9 with e9
  injection e9 with e91 e92
  subst e91 e92
  exact ⟨c0, c1, c2, c3, c4⟩
set_option maxHeartbeats 12800000 in
set_option maxRecDepth 1000000 in
theorem rwhy_any (ms ss : Int) (l : List Ev) (A : Option Addr) (c k : Nat) (hk : k < l.length) (w : World) (hI : ∀ x ∈ l, I64 x.n) (hs : Seg w w.heap.size A (evRows l)) (hn : l.length ≤ 1000) :
    Calls Tryd.prog 30 #[.int .i64 ms, .int .i64 ss, .slice A l.length c, .int .i64 k] w fun e w' => e = .returned (.int .i64 (whyP ms ss l k l[k])) ∧ Below w.heap.size w w' := by
  obtain ⟨b, o, rfl, hb, y0, y1, y2, y3, y4⟩ := ev_at hs hk
  obtain ⟨x, hx⟩ : ∃ x, x = l[k] := ⟨_, rfl⟩
  have hxI := hI _ (List.getElem_mem hk)
  rw [← hx] at y0 y1 y2 y3 y4 hxI ⊢
  have HS := Lib.hid hs
  have HI := Lib.hid hI
  have HXI := Lib.hid hxI
  have HB0 : Hid (Below w.heap.size w (w.alloc (.cells #[.int .i64 x.k, .int .i64 x.m, .int .i64 x.a, .int .i64 x.n, .int .i64 x.o] 23))) := (Below.refl _ _).alloc (Nat.le_refl _) _
  have HBX : Hid (∀ W, Below (w.heap.size + 1) (w.alloc (.cells #[.int .i64 x.k, .int .i64 x.m, .int .i64 x.a, .int .i64 x.n, .int .i64 x.o] 23)) W → EvAt W w.heap.size x) := fun W hW =>
    EvAt.keep (W := (w.alloc (.cells #[.int .i64 x.k, .int .i64 x.m, .int .i64 x.a, .int .i64 x.n, .int .i64 x.o] 23))) ⟨by rw [cell_new _ _ _ _ rfl]; rfl, by rw [cell_new _ _ _ _ rfl]; rfl, by rw [cell_new _ _ _ _ rfl]; rfl, by rw [cell_new _ _ _ _ rfl]; rfl, by rw [cell_new _ _ _ _ rfl]; rfl⟩ fun o => hW.cell (p := ⟨w.heap.size, o, none⟩) (show w.heap.size < w.heap.size + 1 by omega)
  have HSW : Hid (∀ W, Below (w.heap.size + 1) (w.alloc (.cells #[.int .i64 x.k, .int .i64 x.m, .int .i64 x.a, .int .i64 x.n, .int .i64 x.o] 23)) W → Below w.heap.size w W) := fun W hW => HB0.out.trans (hW.mono (by omega))
  have HWD := Lib.hid (show whyP ms ss l k x = if rightB ms ss x = false then 1 else if ¬ (I64 (houseS l k x.a + flowI x) ∧ 0 ≤ houseS l k x.a + flowI x) then 2 else if x.k = 1 ∧ folB (phaseL (l.take k)) x.n = false then 3 else if x.k = 8 ∧ twiceB (l.take k) x.m = true then 4 else 0 from rfl)
  have hki0 : (0 : Int) ≤ (k : Int) := by omega
  have hkib : (k : Int) < (l.length : Int) := by omega
  have HRP := Lib.hid (right_phase (ms := ms) (ss := ss) (x := x))
  clear hx hxI hI hs
  have HRX : Hid (∀ W, Calls Tryd.prog 9 #[.int .i64 ms, .int .i64 ss, .agg #[.int .i64 x.k, .int .i64 x.m, .int .i64 x.a, .int .i64 x.n, .int .i64 x.o]] W fun e w' => e = .returned (.bool (rightB ms ss x)) ∧ Below W.heap.size W w') := fun W => refRight_any ms ss x W
  have HFX : Hid (∀ W, Calls Tryd.prog 11 #[.agg #[.int .i64 x.k, .int .i64 x.m, .int .i64 x.a, .int .i64 x.n, .int .i64 x.o]] W fun e w' => e = .returned (.int .i64 (flowI x)) ∧ Below W.heap.size W w') := fun W => refflow_any x W HXI.out
  cases hr : rightB ms ss x
  · have HE : Hid (whyP ms ss l k x = 1) := by show _ = _; rw [HWD.out, if_pos hr]
    rw [hr] at HRX
    clear hr
    go_enter Tryd.func30, Tryd.ntmps30
    go_wp2_with fail
    refine (HRX.out _).mono ?_
    rintro e w1 ⟨rfl, hb1⟩
    have HB1 : Hid (Below w.heap.size w w1) := HB0.out.trans (hb1.mono (by simp))
    clear hb1
    go_wp2_with fail
    go_ret
    exact ⟨ret_int HE.out.symm, HB1.out⟩
  have HR := Lib.hid hr
  rw [hr] at HRX
  obtain ⟨i0, hi0, hz0, hz1, hz2⟩ := info_parts int64_info
  clear hr
  go_enter Tryd.func30, Tryd.ntmps30
  go_wp2_with fail
  refine (HRX.out _).mono ?_
  rintro e w1 ⟨rfl, hb1⟩
  have HB1 : Hid (Below (w.heap.size + 1) (w.alloc (.cells #[.int .i64 x.k, .int .i64 x.m, .int .i64 x.a, .int .i64 x.n, .int .i64 x.o] 23)) w1) := hb1.mono (by simp)
  clear hb1 HRX y0 y1 y2 y3 y4
  go_wp2_with fail
  go_loopw [10, 11, 12, 13] (fun u f t i wr => ∃ j : Nat, j ≤ k ∧ i = .int .i64 j ∧ f = .int .i64 (phaseL (l.take j)) ∧ t = .bool (twiceB (l.take j) x.m) ∧ Hid (wr.ownsRow (w.heap.size + 1) 2 1 u (flowsL (l.take j) x.a).length ((flowsL (l.take j) x.a).map (Value.int .i64))) ∧ Hid (Below (w.heap.size + 1) (w.alloc (.cells #[.int .i64 x.k, .int .i64 x.m, .int .i64 x.a, .int .i64 x.n, .int .i64 x.o] 23)) wr)) (fun _ _ _ i _ => k - (intOf i).toNat)
  case atStart => exact ⟨0, Nat.zero_le _, rfl, rfl, rfl, World.ownsRow_nil _ _ _ _, HB1.out⟩
  case round =>
    obtain ⟨j, hj, rfl, rfl, rfl, HO, HB⟩ := hrel
    have hsz : w.heap.size + 1 ≤ wr.heap.size := by have := HB.out.size; simpa using this
    by_cases hjk : j < k
    · have hjl : j < l.length := by omega
      have HKP : Hid (∀ W, Below (w.heap.size + 1) (w.alloc (.cells #[.int .i64 x.k, .int .i64 x.m, .int .i64 x.a, .int .i64 x.n, .int .i64 x.o] 23)) W → EvC l j b o hjl W ∧ EvAt W w.heap.size x) := fun W hW => ⟨ev_cells (HS.out.below (HSW.out W hW)) hjl, HBX.out W hW⟩
      obtain ⟨⟨c0, c1, c2, c3, c4⟩, ⟨x0, x1, x2, x3, x4⟩⟩ := HKP.out _ HB.out
      have HYI : Hid (I64 l[j].n) := HI.out _ (List.getElem_mem hjl)
      have hyl := flowsL_len l x.a j
      have hj0 : (0 : Int) ≤ (j : Int) := by omega
      have hjb : (j : Int) < (l.length : Int) := by omega
      have hjk2 : (j : Int) < (k : Int) := by omega
      clear hj
      cases htb : twiceB (l.take j) x.m
      · cases hba : (l[j].a == x.a)
        · cases hk1 : (l[j].k == 1)
          · cases hk8 : (l[j].k == 8)
            ·
              have HF : Hid (flowsL (l.take (j + 1)) x.a = flowsL (l.take j) x.a) := flows_step (a := x.a) hjl hba
              have HPH : Hid (phaseL (l.take (j + 1)) = phaseL (l.take j)) := by show _ = _; rw [phase_succ hjl]; rw [if_neg (by simpa using hk1)]
              have HTW : Hid (twiceB (l.take (j + 1)) x.m = false) := by show _ = _; rw [twice_succ hjl, htb, hk8]; rfl
              clear htb
              go_wp2_with fail
              go_quiet (fail)
              have HBd : Hid (Below (w.heap.size + 1) (w.alloc (.cells #[.int .i64 x.k, .int .i64 x.m, .int .i64 x.a, .int .i64 x.n, .int .i64 x.o] 23)) (wr.drewN nq)) := below_drewN HB.out nq
              have HOd : Hid ((wr.drewN nq).ownsRow (w.heap.size + 1) 2 1 _ _ _) := HO.out
              clear c0 c1 c2 c3 c4 x0 x1 x2 x3 x4
              obtain ⟨⟨c0, c1, c2, c3, c4⟩, ⟨x0, x1, x2, x3, x4⟩⟩ := HKP.out _ HBd.out
              have szd : w.heap.size + 1 ≤ (wr.drewN nq).heap.size := hsz
              generalize wr.drewN nq = wd at *
              have hO9 := HOd.out
              rw [← HF.out] at hO9
              have HO4 := Lib.hid hO9
              have HG4 := HBd
              clear hO9
              go_wp2_with fail
              go_quiet (fail)
              go_wp2_with fail
              go_roundw
              case rel => exact ⟨j + 1, by omega, by go_num, by rw [HPH.out], by rw [HTW.out], HO4.out, below_drewN HG4.out nq⟩
              case measure => simp [intOf]; omega
            · cases hkm : (l[j].m == x.m)
              ·
                have HF : Hid (flowsL (l.take (j + 1)) x.a = flowsL (l.take j) x.a) := flows_step (a := x.a) hjl hba
                have HPH : Hid (phaseL (l.take (j + 1)) = phaseL (l.take j)) := by show _ = _; rw [phase_succ hjl]; rw [if_neg (by simpa using hk1)]
                have HTW : Hid (twiceB (l.take (j + 1)) x.m = false) := by show _ = _; rw [twice_succ hjl, htb, hk8, hkm]; rfl
                clear htb
                go_wp2_with fail
                go_quiet (fail)
                have HBd : Hid (Below (w.heap.size + 1) (w.alloc (.cells #[.int .i64 x.k, .int .i64 x.m, .int .i64 x.a, .int .i64 x.n, .int .i64 x.o] 23)) (wr.drewN nq)) := below_drewN HB.out nq
                have HOd : Hid ((wr.drewN nq).ownsRow (w.heap.size + 1) 2 1 _ _ _) := HO.out
                clear c0 c1 c2 c3 c4 x0 x1 x2 x3 x4
                obtain ⟨⟨c0, c1, c2, c3, c4⟩, ⟨x0, x1, x2, x3, x4⟩⟩ := HKP.out _ HBd.out
                have szd : w.heap.size + 1 ≤ (wr.drewN nq).heap.size := hsz
                generalize wr.drewN nq = wd at *
                have hO9 := HOd.out
                rw [← HF.out] at hO9
                have HO4 := Lib.hid hO9
                have HG4 := HBd
                clear hO9
                go_wp2_with fail
                go_quiet (fail)
                go_wp2_with fail
                go_roundw
                case rel => exact ⟨j + 1, by omega, by go_num, by rw [HPH.out], by rw [HTW.out], HO4.out, below_drewN HG4.out nq⟩
                case measure => simp [intOf]; omega
              ·
                have HF : Hid (flowsL (l.take (j + 1)) x.a = flowsL (l.take j) x.a) := flows_step (a := x.a) hjl hba
                have HPH : Hid (phaseL (l.take (j + 1)) = phaseL (l.take j)) := by show _ = _; rw [phase_succ hjl]; rw [if_neg (by simpa using hk1)]
                have HTW : Hid (twiceB (l.take (j + 1)) x.m = true) := by show _ = _; rw [twice_succ hjl, htb, hk8, hkm]; rfl
                clear htb
                go_wp2_with fail
                go_quiet (fail)
                have HBd : Hid (Below (w.heap.size + 1) (w.alloc (.cells #[.int .i64 x.k, .int .i64 x.m, .int .i64 x.a, .int .i64 x.n, .int .i64 x.o] 23)) (wr.drewN nq)) := below_drewN HB.out nq
                have HOd : Hid ((wr.drewN nq).ownsRow (w.heap.size + 1) 2 1 _ _ _) := HO.out
                clear c0 c1 c2 c3 c4 x0 x1 x2 x3 x4
                obtain ⟨⟨c0, c1, c2, c3, c4⟩, ⟨x0, x1, x2, x3, x4⟩⟩ := HKP.out _ HBd.out
                have szd : w.heap.size + 1 ≤ (wr.drewN nq).heap.size := hsz
                generalize wr.drewN nq = wd at *
                have hO9 := HOd.out
                rw [← HF.out] at hO9
                have HO4 := Lib.hid hO9
                have HG4 := HBd
                clear hO9
                go_wp2_with fail
                go_quiet (fail)
                go_wp2_with fail
                go_roundw
                case rel => exact ⟨j + 1, by omega, by go_num, by rw [HPH.out], by rw [HTW.out], HO4.out, below_drewN HG4.out nq⟩
                case measure => simp [intOf]; omega
          · have hk8 : (l[j].k == 8) = false := by rw [beq_eq_false_iff_ne]; rw [beq_iff_eq] at hk1; omega
            have HF : Hid (flowsL (l.take (j + 1)) x.a = flowsL (l.take j) x.a) := flows_step (a := x.a) hjl hba
            have HPH : Hid (phaseL (l.take (j + 1)) = l[j].n) := by show _ = _; rw [phase_succ hjl]; rw [if_pos (by simpa using hk1)]
            have HTW : Hid (twiceB (l.take (j + 1)) x.m = false) := by show _ = _; rw [twice_succ hjl, htb, hk8]; rfl
            clear htb
            go_wp2_with fail
            go_quiet (fail)
            have HBd : Hid (Below (w.heap.size + 1) (w.alloc (.cells #[.int .i64 x.k, .int .i64 x.m, .int .i64 x.a, .int .i64 x.n, .int .i64 x.o] 23)) (wr.drewN nq)) := below_drewN HB.out nq
            have HOd : Hid ((wr.drewN nq).ownsRow (w.heap.size + 1) 2 1 _ _ _) := HO.out
            clear c0 c1 c2 c3 c4 x0 x1 x2 x3 x4
            obtain ⟨⟨c0, c1, c2, c3, c4⟩, ⟨x0, x1, x2, x3, x4⟩⟩ := HKP.out _ HBd.out
            have szd : w.heap.size + 1 ≤ (wr.drewN nq).heap.size := hsz
            generalize wr.drewN nq = wd at *
            have hO9 := HOd.out
            rw [← HF.out] at hO9
            have HO4 := Lib.hid hO9
            have HG4 := HBd
            clear hO9
            go_wp2_with fail
            go_quiet (fail)
            go_wp2_with fail
            go_roundw
            case rel => exact ⟨j + 1, by omega, by go_num, by rw [HPH.out], by rw [HTW.out], HO4.out, below_drewN HG4.out nq⟩
            case measure => simp [intOf]; omega
        · cases hk1 : (l[j].k == 1)
          · cases hk8 : (l[j].k == 8)
            ·
              have HF : Hid (flowsL (l.take (j + 1)) x.a = flowsL (l.take j) x.a ++ [flowI l[j]]) := flows_step (a := x.a) hjl hba
              have HPH : Hid (phaseL (l.take (j + 1)) = phaseL (l.take j)) := by show _ = _; rw [phase_succ hjl]; rw [if_neg (by simpa using hk1)]
              have HTW : Hid (twiceB (l.take (j + 1)) x.m = false) := by show _ = _; rw [twice_succ hjl, htb, hk8]; rfl
              clear htb
              go_wp2_with fail
              go_quiet (fail)
              have HBd : Hid (Below (w.heap.size + 1) (w.alloc (.cells #[.int .i64 x.k, .int .i64 x.m, .int .i64 x.a, .int .i64 x.n, .int .i64 x.o] 23)) (wr.drewN nq)) := below_drewN HB.out nq
              have HOd : Hid ((wr.drewN nq).ownsRow (w.heap.size + 1) 2 1 _ _ _) := HO.out
              clear c0 c1 c2 c3 c4 x0 x1 x2 x3 x4
              obtain ⟨⟨c0, c1, c2, c3, c4⟩, ⟨x0, x1, x2, x3, x4⟩⟩ := HKP.out _ HBd.out
              have szd : w.heap.size + 1 ≤ (wr.drewN nq).heap.size := hsz
              generalize wr.drewN nq = wd at *
              generalize flowsL (l.take j) x.a = ys at *
              go_wp2_with fail
              refine (refflow_any l[j] _ HYI.out).mono ?_
              rintro e w3 ⟨rfl, hb3⟩
              have HB3 : Hid (Below (w.heap.size + 1) (w.alloc (.cells #[.int .i64 x.k, .int .i64 x.m, .int .i64 x.a, .int .i64 x.n, .int .i64 x.o] 23)) w3) := HBd.out.trans (hb3.mono szd)
              have HO3 := Lib.hid (own_below HOd.out hb3)
              have sz3 : w.heap.size + 1 ≤ w3.heap.size := Nat.le_trans szd hb3.size
              clear hb3 c0 c1 c2 c3 c4 x0 x1 x2 x3 x4
              generalize flowI l[j] = fl at *
              go_wp2_with (at_builtin; refine wpList_append_own _ rfl _ _ 33 rfl (w.heap.size + 1) 2 i0 _ 1 8 Tryd.underlying33 hi0 hz0 hz1 hz2 rfl (by decide) _ ys.length (ys.map (Value.int .i64)) rfl (HO3.out.alloc _) ⟨w3.heap.size, 0, none⟩ 1 1 [.int .i64 fl] rfl rfl (new_cells _ _ #[_] (by simp)) one_int (by simp only [maxLen]; omega) (by omega) (by simp; omega) ?_)
              intro v' w4 hown1 hgrow1 _
              have HO4 : Hid (w4.ownsRow (w.heap.size + 1) 2 1 v' (flowsL (l.take (j + 1)) x.a).length ((flowsL (l.take (j + 1)) x.a).map (Value.int .i64))) := by
                show World.ownsRow _ _ _ _ _ _ _
                rw [HF.out, List.map_append, List.length_append, List.length_singleton]
                exact hown1
              have HG4 : Hid (Below (w.heap.size + 1) (w.alloc (.cells #[.int .i64 x.k, .int .i64 x.m, .int .i64 x.a, .int .i64 x.n, .int .i64 x.o] 23)) w4) := (HB3.out.alloc sz3 _).grown hgrow1 (by simp; omega) (fun j hj => own_base HO3.out j hj)
              clear hown1 hgrow1
              obtain ⟨⟨c0, c1, c2, c3, c4⟩, ⟨x0, x1, x2, x3, x4⟩⟩ := HKP.out _ HG4.out
              go_wp2_with fail
              go_quiet (fail)
              go_wp2_with fail
              go_roundw
              case rel => exact ⟨j + 1, by omega, by go_num, by rw [HPH.out], by rw [HTW.out], HO4.out, below_drewN HG4.out nq⟩
              case measure => simp [intOf]; omega
            · cases hkm : (l[j].m == x.m)
              ·
                have HF : Hid (flowsL (l.take (j + 1)) x.a = flowsL (l.take j) x.a ++ [flowI l[j]]) := flows_step (a := x.a) hjl hba
                have HPH : Hid (phaseL (l.take (j + 1)) = phaseL (l.take j)) := by show _ = _; rw [phase_succ hjl]; rw [if_neg (by simpa using hk1)]
                have HTW : Hid (twiceB (l.take (j + 1)) x.m = false) := by show _ = _; rw [twice_succ hjl, htb, hk8, hkm]; rfl
                clear htb
                go_wp2_with fail
                go_quiet (fail)
                have HBd : Hid (Below (w.heap.size + 1) (w.alloc (.cells #[.int .i64 x.k, .int .i64 x.m, .int .i64 x.a, .int .i64 x.n, .int .i64 x.o] 23)) (wr.drewN nq)) := below_drewN HB.out nq
                have HOd : Hid ((wr.drewN nq).ownsRow (w.heap.size + 1) 2 1 _ _ _) := HO.out
                clear c0 c1 c2 c3 c4 x0 x1 x2 x3 x4
                obtain ⟨⟨c0, c1, c2, c3, c4⟩, ⟨x0, x1, x2, x3, x4⟩⟩ := HKP.out _ HBd.out
                have szd : w.heap.size + 1 ≤ (wr.drewN nq).heap.size := hsz
                generalize wr.drewN nq = wd at *
                generalize flowsL (l.take j) x.a = ys at *
                go_wp2_with fail
                refine (refflow_any l[j] _ HYI.out).mono ?_
                rintro e w3 ⟨rfl, hb3⟩
                have HB3 : Hid (Below (w.heap.size + 1) (w.alloc (.cells #[.int .i64 x.k, .int .i64 x.m, .int .i64 x.a, .int .i64 x.n, .int .i64 x.o] 23)) w3) := HBd.out.trans (hb3.mono szd)
                have HO3 := Lib.hid (own_below HOd.out hb3)
                have sz3 : w.heap.size + 1 ≤ w3.heap.size := Nat.le_trans szd hb3.size
                clear hb3 c0 c1 c2 c3 c4 x0 x1 x2 x3 x4
                generalize flowI l[j] = fl at *
                go_wp2_with (at_builtin; refine wpList_append_own _ rfl _ _ 33 rfl (w.heap.size + 1) 2 i0 _ 1 8 Tryd.underlying33 hi0 hz0 hz1 hz2 rfl (by decide) _ ys.length (ys.map (Value.int .i64)) rfl (HO3.out.alloc _) ⟨w3.heap.size, 0, none⟩ 1 1 [.int .i64 fl] rfl rfl (new_cells _ _ #[_] (by simp)) one_int (by simp only [maxLen]; omega) (by omega) (by simp; omega) ?_)
                intro v' w4 hown1 hgrow1 _
                have HO4 : Hid (w4.ownsRow (w.heap.size + 1) 2 1 v' (flowsL (l.take (j + 1)) x.a).length ((flowsL (l.take (j + 1)) x.a).map (Value.int .i64))) := by
                  show World.ownsRow _ _ _ _ _ _ _
                  rw [HF.out, List.map_append, List.length_append, List.length_singleton]
                  exact hown1
                have HG4 : Hid (Below (w.heap.size + 1) (w.alloc (.cells #[.int .i64 x.k, .int .i64 x.m, .int .i64 x.a, .int .i64 x.n, .int .i64 x.o] 23)) w4) := (HB3.out.alloc sz3 _).grown hgrow1 (by simp; omega) (fun j hj => own_base HO3.out j hj)
                clear hown1 hgrow1
                obtain ⟨⟨c0, c1, c2, c3, c4⟩, ⟨x0, x1, x2, x3, x4⟩⟩ := HKP.out _ HG4.out
                go_wp2_with fail
                go_quiet (fail)
                go_wp2_with fail
                go_roundw
                case rel => exact ⟨j + 1, by omega, by go_num, by rw [HPH.out], by rw [HTW.out], HO4.out, below_drewN HG4.out nq⟩
                case measure => simp [intOf]; omega
              ·
                have HF : Hid (flowsL (l.take (j + 1)) x.a = flowsL (l.take j) x.a ++ [flowI l[j]]) := flows_step (a := x.a) hjl hba
                have HPH : Hid (phaseL (l.take (j + 1)) = phaseL (l.take j)) := by show _ = _; rw [phase_succ hjl]; rw [if_neg (by simpa using hk1)]
                have HTW : Hid (twiceB (l.take (j + 1)) x.m = true) := by show _ = _; rw [twice_succ hjl, htb, hk8, hkm]; rfl
                clear htb
                go_wp2_with fail
                go_quiet (fail)
                have HBd : Hid (Below (w.heap.size + 1) (w.alloc (.cells #[.int .i64 x.k, .int .i64 x.m, .int .i64 x.a, .int .i64 x.n, .int .i64 x.o] 23)) (wr.drewN nq)) := below_drewN HB.out nq
                have HOd : Hid ((wr.drewN nq).ownsRow (w.heap.size + 1) 2 1 _ _ _) := HO.out
                clear c0 c1 c2 c3 c4 x0 x1 x2 x3 x4
                obtain ⟨⟨c0, c1, c2, c3, c4⟩, ⟨x0, x1, x2, x3, x4⟩⟩ := HKP.out _ HBd.out
                have szd : w.heap.size + 1 ≤ (wr.drewN nq).heap.size := hsz
                generalize wr.drewN nq = wd at *
                generalize flowsL (l.take j) x.a = ys at *
                go_wp2_with fail
                refine (refflow_any l[j] _ HYI.out).mono ?_
                rintro e w3 ⟨rfl, hb3⟩
                have HB3 : Hid (Below (w.heap.size + 1) (w.alloc (.cells #[.int .i64 x.k, .int .i64 x.m, .int .i64 x.a, .int .i64 x.n, .int .i64 x.o] 23)) w3) := HBd.out.trans (hb3.mono szd)
                have HO3 := Lib.hid (own_below HOd.out hb3)
                have sz3 : w.heap.size + 1 ≤ w3.heap.size := Nat.le_trans szd hb3.size
                clear hb3 c0 c1 c2 c3 c4 x0 x1 x2 x3 x4
                generalize flowI l[j] = fl at *
                go_wp2_with (at_builtin; refine wpList_append_own _ rfl _ _ 33 rfl (w.heap.size + 1) 2 i0 _ 1 8 Tryd.underlying33 hi0 hz0 hz1 hz2 rfl (by decide) _ ys.length (ys.map (Value.int .i64)) rfl (HO3.out.alloc _) ⟨w3.heap.size, 0, none⟩ 1 1 [.int .i64 fl] rfl rfl (new_cells _ _ #[_] (by simp)) one_int (by simp only [maxLen]; omega) (by omega) (by simp; omega) ?_)
                intro v' w4 hown1 hgrow1 _
                have HO4 : Hid (w4.ownsRow (w.heap.size + 1) 2 1 v' (flowsL (l.take (j + 1)) x.a).length ((flowsL (l.take (j + 1)) x.a).map (Value.int .i64))) := by
                  show World.ownsRow _ _ _ _ _ _ _
                  rw [HF.out, List.map_append, List.length_append, List.length_singleton]
                  exact hown1
                have HG4 : Hid (Below (w.heap.size + 1) (w.alloc (.cells #[.int .i64 x.k, .int .i64 x.m, .int .i64 x.a, .int .i64 x.n, .int .i64 x.o] 23)) w4) := (HB3.out.alloc sz3 _).grown hgrow1 (by simp; omega) (fun j hj => own_base HO3.out j hj)
                clear hown1 hgrow1
                obtain ⟨⟨c0, c1, c2, c3, c4⟩, ⟨x0, x1, x2, x3, x4⟩⟩ := HKP.out _ HG4.out
                go_wp2_with fail
                go_quiet (fail)
                go_wp2_with fail
                go_roundw
                case rel => exact ⟨j + 1, by omega, by go_num, by rw [HPH.out], by rw [HTW.out], HO4.out, below_drewN HG4.out nq⟩
                case measure => simp [intOf]; omega
          · have hk8 : (l[j].k == 8) = false := by rw [beq_eq_false_iff_ne]; rw [beq_iff_eq] at hk1; omega
            have HF : Hid (flowsL (l.take (j + 1)) x.a = flowsL (l.take j) x.a ++ [flowI l[j]]) := flows_step (a := x.a) hjl hba
            have HPH : Hid (phaseL (l.take (j + 1)) = l[j].n) := by show _ = _; rw [phase_succ hjl]; rw [if_pos (by simpa using hk1)]
            have HTW : Hid (twiceB (l.take (j + 1)) x.m = false) := by show _ = _; rw [twice_succ hjl, htb, hk8]; rfl
            clear htb
            go_wp2_with fail
            go_quiet (fail)
            have HBd : Hid (Below (w.heap.size + 1) (w.alloc (.cells #[.int .i64 x.k, .int .i64 x.m, .int .i64 x.a, .int .i64 x.n, .int .i64 x.o] 23)) (wr.drewN nq)) := below_drewN HB.out nq
            have HOd : Hid ((wr.drewN nq).ownsRow (w.heap.size + 1) 2 1 _ _ _) := HO.out
            clear c0 c1 c2 c3 c4 x0 x1 x2 x3 x4
            obtain ⟨⟨c0, c1, c2, c3, c4⟩, ⟨x0, x1, x2, x3, x4⟩⟩ := HKP.out _ HBd.out
            have szd : w.heap.size + 1 ≤ (wr.drewN nq).heap.size := hsz
            generalize wr.drewN nq = wd at *
            generalize flowsL (l.take j) x.a = ys at *
            go_wp2_with fail
            refine (refflow_any l[j] _ HYI.out).mono ?_
            rintro e w3 ⟨rfl, hb3⟩
            have HB3 : Hid (Below (w.heap.size + 1) (w.alloc (.cells #[.int .i64 x.k, .int .i64 x.m, .int .i64 x.a, .int .i64 x.n, .int .i64 x.o] 23)) w3) := HBd.out.trans (hb3.mono szd)
            have HO3 := Lib.hid (own_below HOd.out hb3)
            have sz3 : w.heap.size + 1 ≤ w3.heap.size := Nat.le_trans szd hb3.size
            clear hb3 c0 c1 c2 c3 c4 x0 x1 x2 x3 x4
            generalize flowI l[j] = fl at *
            go_wp2_with (at_builtin; refine wpList_append_own _ rfl _ _ 33 rfl (w.heap.size + 1) 2 i0 _ 1 8 Tryd.underlying33 hi0 hz0 hz1 hz2 rfl (by decide) _ ys.length (ys.map (Value.int .i64)) rfl (HO3.out.alloc _) ⟨w3.heap.size, 0, none⟩ 1 1 [.int .i64 fl] rfl rfl (new_cells _ _ #[_] (by simp)) one_int (by simp only [maxLen]; omega) (by omega) (by simp; omega) ?_)
            intro v' w4 hown1 hgrow1 _
            have HO4 : Hid (w4.ownsRow (w.heap.size + 1) 2 1 v' (flowsL (l.take (j + 1)) x.a).length ((flowsL (l.take (j + 1)) x.a).map (Value.int .i64))) := by
              show World.ownsRow _ _ _ _ _ _ _
              rw [HF.out, List.map_append, List.length_append, List.length_singleton]
              exact hown1
            have HG4 : Hid (Below (w.heap.size + 1) (w.alloc (.cells #[.int .i64 x.k, .int .i64 x.m, .int .i64 x.a, .int .i64 x.n, .int .i64 x.o] 23)) w4) := (HB3.out.alloc sz3 _).grown hgrow1 (by simp; omega) (fun j hj => own_base HO3.out j hj)
            clear hown1 hgrow1
            obtain ⟨⟨c0, c1, c2, c3, c4⟩, ⟨x0, x1, x2, x3, x4⟩⟩ := HKP.out _ HG4.out
            go_wp2_with fail
            go_quiet (fail)
            go_wp2_with fail
            go_roundw
            case rel => exact ⟨j + 1, by omega, by go_num, by rw [HPH.out], by rw [HTW.out], HO4.out, below_drewN HG4.out nq⟩
            case measure => simp [intOf]; omega
      · cases hba : (l[j].a == x.a)
        · cases hk1 : (l[j].k == 1)
          · cases hk8 : (l[j].k == 8)
            ·
              have HF : Hid (flowsL (l.take (j + 1)) x.a = flowsL (l.take j) x.a) := flows_step (a := x.a) hjl hba
              have HPH : Hid (phaseL (l.take (j + 1)) = phaseL (l.take j)) := by show _ = _; rw [phase_succ hjl]; rw [if_neg (by simpa using hk1)]
              have HTW : Hid (twiceB (l.take (j + 1)) x.m = true) := by show _ = _; rw [twice_succ hjl, htb, hk8]; rfl
              clear htb
              go_wp2_with fail
              go_quiet (fail)
              have HBd : Hid (Below (w.heap.size + 1) (w.alloc (.cells #[.int .i64 x.k, .int .i64 x.m, .int .i64 x.a, .int .i64 x.n, .int .i64 x.o] 23)) (wr.drewN nq)) := below_drewN HB.out nq
              have HOd : Hid ((wr.drewN nq).ownsRow (w.heap.size + 1) 2 1 _ _ _) := HO.out
              clear c0 c1 c2 c3 c4 x0 x1 x2 x3 x4
              obtain ⟨⟨c0, c1, c2, c3, c4⟩, ⟨x0, x1, x2, x3, x4⟩⟩ := HKP.out _ HBd.out
              have szd : w.heap.size + 1 ≤ (wr.drewN nq).heap.size := hsz
              generalize wr.drewN nq = wd at *
              have hO9 := HOd.out
              rw [← HF.out] at hO9
              have HO4 := Lib.hid hO9
              have HG4 := HBd
              clear hO9
              go_wp2_with fail
              go_quiet (fail)
              go_wp2_with fail
              go_roundw
              case rel => exact ⟨j + 1, by omega, by go_num, by rw [HPH.out], by rw [HTW.out], HO4.out, below_drewN HG4.out nq⟩
              case measure => simp [intOf]; omega
            · cases hkm : (l[j].m == x.m)
              ·
                have HF : Hid (flowsL (l.take (j + 1)) x.a = flowsL (l.take j) x.a) := flows_step (a := x.a) hjl hba
                have HPH : Hid (phaseL (l.take (j + 1)) = phaseL (l.take j)) := by show _ = _; rw [phase_succ hjl]; rw [if_neg (by simpa using hk1)]
                have HTW : Hid (twiceB (l.take (j + 1)) x.m = true) := by show _ = _; rw [twice_succ hjl, htb, hk8, hkm]; rfl
                clear htb
                go_wp2_with fail
                go_quiet (fail)
                have HBd : Hid (Below (w.heap.size + 1) (w.alloc (.cells #[.int .i64 x.k, .int .i64 x.m, .int .i64 x.a, .int .i64 x.n, .int .i64 x.o] 23)) (wr.drewN nq)) := below_drewN HB.out nq
                have HOd : Hid ((wr.drewN nq).ownsRow (w.heap.size + 1) 2 1 _ _ _) := HO.out
                clear c0 c1 c2 c3 c4 x0 x1 x2 x3 x4
                obtain ⟨⟨c0, c1, c2, c3, c4⟩, ⟨x0, x1, x2, x3, x4⟩⟩ := HKP.out _ HBd.out
                have szd : w.heap.size + 1 ≤ (wr.drewN nq).heap.size := hsz
                generalize wr.drewN nq = wd at *
                have hO9 := HOd.out
                rw [← HF.out] at hO9
                have HO4 := Lib.hid hO9
                have HG4 := HBd
                clear hO9
                go_wp2_with fail
                go_quiet (fail)
                go_wp2_with fail
                go_roundw
                case rel => exact ⟨j + 1, by omega, by go_num, by rw [HPH.out], by rw [HTW.out], HO4.out, below_drewN HG4.out nq⟩
                case measure => simp [intOf]; omega
              ·
                have HF : Hid (flowsL (l.take (j + 1)) x.a = flowsL (l.take j) x.a) := flows_step (a := x.a) hjl hba
                have HPH : Hid (phaseL (l.take (j + 1)) = phaseL (l.take j)) := by show _ = _; rw [phase_succ hjl]; rw [if_neg (by simpa using hk1)]
                have HTW : Hid (twiceB (l.take (j + 1)) x.m = true) := by show _ = _; rw [twice_succ hjl, htb, hk8, hkm]; rfl
                clear htb
                go_wp2_with fail
                go_quiet (fail)
                have HBd : Hid (Below (w.heap.size + 1) (w.alloc (.cells #[.int .i64 x.k, .int .i64 x.m, .int .i64 x.a, .int .i64 x.n, .int .i64 x.o] 23)) (wr.drewN nq)) := below_drewN HB.out nq
                have HOd : Hid ((wr.drewN nq).ownsRow (w.heap.size + 1) 2 1 _ _ _) := HO.out
                clear c0 c1 c2 c3 c4 x0 x1 x2 x3 x4
                obtain ⟨⟨c0, c1, c2, c3, c4⟩, ⟨x0, x1, x2, x3, x4⟩⟩ := HKP.out _ HBd.out
                have szd : w.heap.size + 1 ≤ (wr.drewN nq).heap.size := hsz
                generalize wr.drewN nq = wd at *
                have hO9 := HOd.out
                rw [← HF.out] at hO9
                have HO4 := Lib.hid hO9
                have HG4 := HBd
                clear hO9
                go_wp2_with fail
                go_quiet (fail)
                go_wp2_with fail
                go_roundw
                case rel => exact ⟨j + 1, by omega, by go_num, by rw [HPH.out], by rw [HTW.out], HO4.out, below_drewN HG4.out nq⟩
                case measure => simp [intOf]; omega
          · have hk8 : (l[j].k == 8) = false := by rw [beq_eq_false_iff_ne]; rw [beq_iff_eq] at hk1; omega
            have HF : Hid (flowsL (l.take (j + 1)) x.a = flowsL (l.take j) x.a) := flows_step (a := x.a) hjl hba
            have HPH : Hid (phaseL (l.take (j + 1)) = l[j].n) := by show _ = _; rw [phase_succ hjl]; rw [if_pos (by simpa using hk1)]
            have HTW : Hid (twiceB (l.take (j + 1)) x.m = true) := by show _ = _; rw [twice_succ hjl, htb, hk8]; rfl
            clear htb
            go_wp2_with fail
            go_quiet (fail)
            have HBd : Hid (Below (w.heap.size + 1) (w.alloc (.cells #[.int .i64 x.k, .int .i64 x.m, .int .i64 x.a, .int .i64 x.n, .int .i64 x.o] 23)) (wr.drewN nq)) := below_drewN HB.out nq
            have HOd : Hid ((wr.drewN nq).ownsRow (w.heap.size + 1) 2 1 _ _ _) := HO.out
            clear c0 c1 c2 c3 c4 x0 x1 x2 x3 x4
            obtain ⟨⟨c0, c1, c2, c3, c4⟩, ⟨x0, x1, x2, x3, x4⟩⟩ := HKP.out _ HBd.out
            have szd : w.heap.size + 1 ≤ (wr.drewN nq).heap.size := hsz
            generalize wr.drewN nq = wd at *
            have hO9 := HOd.out
            rw [← HF.out] at hO9
            have HO4 := Lib.hid hO9
            have HG4 := HBd
            clear hO9
            go_wp2_with fail
            go_quiet (fail)
            go_wp2_with fail
            go_roundw
            case rel => exact ⟨j + 1, by omega, by go_num, by rw [HPH.out], by rw [HTW.out], HO4.out, below_drewN HG4.out nq⟩
            case measure => simp [intOf]; omega
        · cases hk1 : (l[j].k == 1)
          · cases hk8 : (l[j].k == 8)
            ·
              have HF : Hid (flowsL (l.take (j + 1)) x.a = flowsL (l.take j) x.a ++ [flowI l[j]]) := flows_step (a := x.a) hjl hba
              have HPH : Hid (phaseL (l.take (j + 1)) = phaseL (l.take j)) := by show _ = _; rw [phase_succ hjl]; rw [if_neg (by simpa using hk1)]
              have HTW : Hid (twiceB (l.take (j + 1)) x.m = true) := by show _ = _; rw [twice_succ hjl, htb, hk8]; rfl
              clear htb
              go_wp2_with fail
              go_quiet (fail)
              have HBd : Hid (Below (w.heap.size + 1) (w.alloc (.cells #[.int .i64 x.k, .int .i64 x.m, .int .i64 x.a, .int .i64 x.n, .int .i64 x.o] 23)) (wr.drewN nq)) := below_drewN HB.out nq
              have HOd : Hid ((wr.drewN nq).ownsRow (w.heap.size + 1) 2 1 _ _ _) := HO.out
              clear c0 c1 c2 c3 c4 x0 x1 x2 x3 x4
              obtain ⟨⟨c0, c1, c2, c3, c4⟩, ⟨x0, x1, x2, x3, x4⟩⟩ := HKP.out _ HBd.out
              have szd : w.heap.size + 1 ≤ (wr.drewN nq).heap.size := hsz
              generalize wr.drewN nq = wd at *
              generalize flowsL (l.take j) x.a = ys at *
              go_wp2_with fail
              refine (refflow_any l[j] _ HYI.out).mono ?_
              rintro e w3 ⟨rfl, hb3⟩
              have HB3 : Hid (Below (w.heap.size + 1) (w.alloc (.cells #[.int .i64 x.k, .int .i64 x.m, .int .i64 x.a, .int .i64 x.n, .int .i64 x.o] 23)) w3) := HBd.out.trans (hb3.mono szd)
              have HO3 := Lib.hid (own_below HOd.out hb3)
              have sz3 : w.heap.size + 1 ≤ w3.heap.size := Nat.le_trans szd hb3.size
              clear hb3 c0 c1 c2 c3 c4 x0 x1 x2 x3 x4
              generalize flowI l[j] = fl at *
              go_wp2_with (at_builtin; refine wpList_append_own _ rfl _ _ 33 rfl (w.heap.size + 1) 2 i0 _ 1 8 Tryd.underlying33 hi0 hz0 hz1 hz2 rfl (by decide) _ ys.length (ys.map (Value.int .i64)) rfl (HO3.out.alloc _) ⟨w3.heap.size, 0, none⟩ 1 1 [.int .i64 fl] rfl rfl (new_cells _ _ #[_] (by simp)) one_int (by simp only [maxLen]; omega) (by omega) (by simp; omega) ?_)
              intro v' w4 hown1 hgrow1 _
              have HO4 : Hid (w4.ownsRow (w.heap.size + 1) 2 1 v' (flowsL (l.take (j + 1)) x.a).length ((flowsL (l.take (j + 1)) x.a).map (Value.int .i64))) := by
                show World.ownsRow _ _ _ _ _ _ _
                rw [HF.out, List.map_append, List.length_append, List.length_singleton]
                exact hown1
              have HG4 : Hid (Below (w.heap.size + 1) (w.alloc (.cells #[.int .i64 x.k, .int .i64 x.m, .int .i64 x.a, .int .i64 x.n, .int .i64 x.o] 23)) w4) := (HB3.out.alloc sz3 _).grown hgrow1 (by simp; omega) (fun j hj => own_base HO3.out j hj)
              clear hown1 hgrow1
              obtain ⟨⟨c0, c1, c2, c3, c4⟩, ⟨x0, x1, x2, x3, x4⟩⟩ := HKP.out _ HG4.out
              go_wp2_with fail
              go_quiet (fail)
              go_wp2_with fail
              go_roundw
              case rel => exact ⟨j + 1, by omega, by go_num, by rw [HPH.out], by rw [HTW.out], HO4.out, below_drewN HG4.out nq⟩
              case measure => simp [intOf]; omega
            · cases hkm : (l[j].m == x.m)
              ·
                have HF : Hid (flowsL (l.take (j + 1)) x.a = flowsL (l.take j) x.a ++ [flowI l[j]]) := flows_step (a := x.a) hjl hba
                have HPH : Hid (phaseL (l.take (j + 1)) = phaseL (l.take j)) := by show _ = _; rw [phase_succ hjl]; rw [if_neg (by simpa using hk1)]
                have HTW : Hid (twiceB (l.take (j + 1)) x.m = true) := by show _ = _; rw [twice_succ hjl, htb, hk8, hkm]; rfl
                clear htb
                go_wp2_with fail
                go_quiet (fail)
                have HBd : Hid (Below (w.heap.size + 1) (w.alloc (.cells #[.int .i64 x.k, .int .i64 x.m, .int .i64 x.a, .int .i64 x.n, .int .i64 x.o] 23)) (wr.drewN nq)) := below_drewN HB.out nq
                have HOd : Hid ((wr.drewN nq).ownsRow (w.heap.size + 1) 2 1 _ _ _) := HO.out
                clear c0 c1 c2 c3 c4 x0 x1 x2 x3 x4
                obtain ⟨⟨c0, c1, c2, c3, c4⟩, ⟨x0, x1, x2, x3, x4⟩⟩ := HKP.out _ HBd.out
                have szd : w.heap.size + 1 ≤ (wr.drewN nq).heap.size := hsz
                generalize wr.drewN nq = wd at *
                generalize flowsL (l.take j) x.a = ys at *
                go_wp2_with fail
                refine (refflow_any l[j] _ HYI.out).mono ?_
                rintro e w3 ⟨rfl, hb3⟩
                have HB3 : Hid (Below (w.heap.size + 1) (w.alloc (.cells #[.int .i64 x.k, .int .i64 x.m, .int .i64 x.a, .int .i64 x.n, .int .i64 x.o] 23)) w3) := HBd.out.trans (hb3.mono szd)
                have HO3 := Lib.hid (own_below HOd.out hb3)
                have sz3 : w.heap.size + 1 ≤ w3.heap.size := Nat.le_trans szd hb3.size
                clear hb3 c0 c1 c2 c3 c4 x0 x1 x2 x3 x4
                generalize flowI l[j] = fl at *
                go_wp2_with (at_builtin; refine wpList_append_own _ rfl _ _ 33 rfl (w.heap.size + 1) 2 i0 _ 1 8 Tryd.underlying33 hi0 hz0 hz1 hz2 rfl (by decide) _ ys.length (ys.map (Value.int .i64)) rfl (HO3.out.alloc _) ⟨w3.heap.size, 0, none⟩ 1 1 [.int .i64 fl] rfl rfl (new_cells _ _ #[_] (by simp)) one_int (by simp only [maxLen]; omega) (by omega) (by simp; omega) ?_)
                intro v' w4 hown1 hgrow1 _
                have HO4 : Hid (w4.ownsRow (w.heap.size + 1) 2 1 v' (flowsL (l.take (j + 1)) x.a).length ((flowsL (l.take (j + 1)) x.a).map (Value.int .i64))) := by
                  show World.ownsRow _ _ _ _ _ _ _
                  rw [HF.out, List.map_append, List.length_append, List.length_singleton]
                  exact hown1
                have HG4 : Hid (Below (w.heap.size + 1) (w.alloc (.cells #[.int .i64 x.k, .int .i64 x.m, .int .i64 x.a, .int .i64 x.n, .int .i64 x.o] 23)) w4) := (HB3.out.alloc sz3 _).grown hgrow1 (by simp; omega) (fun j hj => own_base HO3.out j hj)
                clear hown1 hgrow1
                obtain ⟨⟨c0, c1, c2, c3, c4⟩, ⟨x0, x1, x2, x3, x4⟩⟩ := HKP.out _ HG4.out
                go_wp2_with fail
                go_quiet (fail)
                go_wp2_with fail
                go_roundw
                case rel => exact ⟨j + 1, by omega, by go_num, by rw [HPH.out], by rw [HTW.out], HO4.out, below_drewN HG4.out nq⟩
                case measure => simp [intOf]; omega
              ·
                have HF : Hid (flowsL (l.take (j + 1)) x.a = flowsL (l.take j) x.a ++ [flowI l[j]]) := flows_step (a := x.a) hjl hba
                have HPH : Hid (phaseL (l.take (j + 1)) = phaseL (l.take j)) := by show _ = _; rw [phase_succ hjl]; rw [if_neg (by simpa using hk1)]
                have HTW : Hid (twiceB (l.take (j + 1)) x.m = true) := by show _ = _; rw [twice_succ hjl, htb, hk8, hkm]; rfl
                clear htb
                go_wp2_with fail
                go_quiet (fail)
                have HBd : Hid (Below (w.heap.size + 1) (w.alloc (.cells #[.int .i64 x.k, .int .i64 x.m, .int .i64 x.a, .int .i64 x.n, .int .i64 x.o] 23)) (wr.drewN nq)) := below_drewN HB.out nq
                have HOd : Hid ((wr.drewN nq).ownsRow (w.heap.size + 1) 2 1 _ _ _) := HO.out
                clear c0 c1 c2 c3 c4 x0 x1 x2 x3 x4
                obtain ⟨⟨c0, c1, c2, c3, c4⟩, ⟨x0, x1, x2, x3, x4⟩⟩ := HKP.out _ HBd.out
                have szd : w.heap.size + 1 ≤ (wr.drewN nq).heap.size := hsz
                generalize wr.drewN nq = wd at *
                generalize flowsL (l.take j) x.a = ys at *
                go_wp2_with fail
                refine (refflow_any l[j] _ HYI.out).mono ?_
                rintro e w3 ⟨rfl, hb3⟩
                have HB3 : Hid (Below (w.heap.size + 1) (w.alloc (.cells #[.int .i64 x.k, .int .i64 x.m, .int .i64 x.a, .int .i64 x.n, .int .i64 x.o] 23)) w3) := HBd.out.trans (hb3.mono szd)
                have HO3 := Lib.hid (own_below HOd.out hb3)
                have sz3 : w.heap.size + 1 ≤ w3.heap.size := Nat.le_trans szd hb3.size
                clear hb3 c0 c1 c2 c3 c4 x0 x1 x2 x3 x4
                generalize flowI l[j] = fl at *
                go_wp2_with (at_builtin; refine wpList_append_own _ rfl _ _ 33 rfl (w.heap.size + 1) 2 i0 _ 1 8 Tryd.underlying33 hi0 hz0 hz1 hz2 rfl (by decide) _ ys.length (ys.map (Value.int .i64)) rfl (HO3.out.alloc _) ⟨w3.heap.size, 0, none⟩ 1 1 [.int .i64 fl] rfl rfl (new_cells _ _ #[_] (by simp)) one_int (by simp only [maxLen]; omega) (by omega) (by simp; omega) ?_)
                intro v' w4 hown1 hgrow1 _
                have HO4 : Hid (w4.ownsRow (w.heap.size + 1) 2 1 v' (flowsL (l.take (j + 1)) x.a).length ((flowsL (l.take (j + 1)) x.a).map (Value.int .i64))) := by
                  show World.ownsRow _ _ _ _ _ _ _
                  rw [HF.out, List.map_append, List.length_append, List.length_singleton]
                  exact hown1
                have HG4 : Hid (Below (w.heap.size + 1) (w.alloc (.cells #[.int .i64 x.k, .int .i64 x.m, .int .i64 x.a, .int .i64 x.n, .int .i64 x.o] 23)) w4) := (HB3.out.alloc sz3 _).grown hgrow1 (by simp; omega) (fun j hj => own_base HO3.out j hj)
                clear hown1 hgrow1
                obtain ⟨⟨c0, c1, c2, c3, c4⟩, ⟨x0, x1, x2, x3, x4⟩⟩ := HKP.out _ HG4.out
                go_wp2_with fail
                go_quiet (fail)
                go_wp2_with fail
                go_roundw
                case rel => exact ⟨j + 1, by omega, by go_num, by rw [HPH.out], by rw [HTW.out], HO4.out, below_drewN HG4.out nq⟩
                case measure => simp [intOf]; omega
          · have hk8 : (l[j].k == 8) = false := by rw [beq_eq_false_iff_ne]; rw [beq_iff_eq] at hk1; omega
            have HF : Hid (flowsL (l.take (j + 1)) x.a = flowsL (l.take j) x.a ++ [flowI l[j]]) := flows_step (a := x.a) hjl hba
            have HPH : Hid (phaseL (l.take (j + 1)) = l[j].n) := by show _ = _; rw [phase_succ hjl]; rw [if_pos (by simpa using hk1)]
            have HTW : Hid (twiceB (l.take (j + 1)) x.m = true) := by show _ = _; rw [twice_succ hjl, htb, hk8]; rfl
            clear htb
            go_wp2_with fail
            go_quiet (fail)
            have HBd : Hid (Below (w.heap.size + 1) (w.alloc (.cells #[.int .i64 x.k, .int .i64 x.m, .int .i64 x.a, .int .i64 x.n, .int .i64 x.o] 23)) (wr.drewN nq)) := below_drewN HB.out nq
            have HOd : Hid ((wr.drewN nq).ownsRow (w.heap.size + 1) 2 1 _ _ _) := HO.out
            clear c0 c1 c2 c3 c4 x0 x1 x2 x3 x4
            obtain ⟨⟨c0, c1, c2, c3, c4⟩, ⟨x0, x1, x2, x3, x4⟩⟩ := HKP.out _ HBd.out
            have szd : w.heap.size + 1 ≤ (wr.drewN nq).heap.size := hsz
            generalize wr.drewN nq = wd at *
            generalize flowsL (l.take j) x.a = ys at *
            go_wp2_with fail
            refine (refflow_any l[j] _ HYI.out).mono ?_
            rintro e w3 ⟨rfl, hb3⟩
            have HB3 : Hid (Below (w.heap.size + 1) (w.alloc (.cells #[.int .i64 x.k, .int .i64 x.m, .int .i64 x.a, .int .i64 x.n, .int .i64 x.o] 23)) w3) := HBd.out.trans (hb3.mono szd)
            have HO3 := Lib.hid (own_below HOd.out hb3)
            have sz3 : w.heap.size + 1 ≤ w3.heap.size := Nat.le_trans szd hb3.size
            clear hb3 c0 c1 c2 c3 c4 x0 x1 x2 x3 x4
            generalize flowI l[j] = fl at *
            go_wp2_with (at_builtin; refine wpList_append_own _ rfl _ _ 33 rfl (w.heap.size + 1) 2 i0 _ 1 8 Tryd.underlying33 hi0 hz0 hz1 hz2 rfl (by decide) _ ys.length (ys.map (Value.int .i64)) rfl (HO3.out.alloc _) ⟨w3.heap.size, 0, none⟩ 1 1 [.int .i64 fl] rfl rfl (new_cells _ _ #[_] (by simp)) one_int (by simp only [maxLen]; omega) (by omega) (by simp; omega) ?_)
            intro v' w4 hown1 hgrow1 _
            have HO4 : Hid (w4.ownsRow (w.heap.size + 1) 2 1 v' (flowsL (l.take (j + 1)) x.a).length ((flowsL (l.take (j + 1)) x.a).map (Value.int .i64))) := by
              show World.ownsRow _ _ _ _ _ _ _
              rw [HF.out, List.map_append, List.length_append, List.length_singleton]
              exact hown1
            have HG4 : Hid (Below (w.heap.size + 1) (w.alloc (.cells #[.int .i64 x.k, .int .i64 x.m, .int .i64 x.a, .int .i64 x.n, .int .i64 x.o] 23)) w4) := (HB3.out.alloc sz3 _).grown hgrow1 (by simp; omega) (fun j hj => own_base HO3.out j hj)
            clear hown1 hgrow1
            obtain ⟨⟨c0, c1, c2, c3, c4⟩, ⟨x0, x1, x2, x3, x4⟩⟩ := HKP.out _ HG4.out
            go_wp2_with fail
            go_quiet (fail)
            go_wp2_with fail
            go_roundw
            case rel => exact ⟨j + 1, by omega, by go_num, by rw [HPH.out], by rw [HTW.out], HO4.out, below_drewN HG4.out nq⟩
            case measure => simp [intOf]; omega
    · obtain rfl : j = k := by omega
      have hbw := HSW.out _ HB.out
      obtain ⟨x0, x1, x2, x3, x4⟩ := HBX.out _ HB.out
      have hyl := flowsL_len l x.a j
      have HFI := Lib.hid (flowsL_I64 HI.out x.a j)
      have HHS := Lib.hid (show houseS l j x.a = sumI (flowsL (l.take j) x.a) from rfl)
      have HFL := Lib.hid (flow_I64 x HXI.out)
      generalize flowsL (l.take j) x.a = ys at *
      go_wp2_with fail
      refine (HFX.out _).mono ?_
      rintro e w3 ⟨rfl, hb3⟩
      have HB3 : Hid (Below (w.heap.size + 1) (w.alloc (.cells #[.int .i64 x.k, .int .i64 x.m, .int .i64 x.a, .int .i64 x.n, .int .i64 x.o] 23)) w3) := HB.out.trans (hb3.mono hsz)
      have HO3 := Lib.hid (own_below HO.out hb3)
      have sz3 : w.heap.size + 1 ≤ w3.heap.size := Nat.le_trans hsz hb3.size
      clear hb3 x0 x1 x2 x3 x4 hbw
      generalize flowI x = fl at *
      go_wp2_with (at_builtin; refine wpList_append_own _ rfl _ _ 33 rfl (w.heap.size + 1) 2 i0 _ 1 8 Tryd.underlying33 hi0 hz0 hz1 hz2 rfl (by decide) _ ys.length (ys.map (Value.int .i64)) rfl (HO3.out.alloc _) ⟨w3.heap.size, 0, none⟩ 1 1 [.int .i64 fl] rfl rfl (new_cells _ _ #[_] (by simp)) one_int (by simp only [maxLen]; omega) (by omega) (by simp; omega) ?_)
      intro v' w4 hown1 hgrow1 _
      have hO4 : w4.ownsRow (w.heap.size + 1) 2 1 v' (ys.length + 1) ((ys ++ [fl]).map (Value.int .i64)) := by
        rw [List.map_append]
        exact hown1
      have HG4 : Hid (Below (w.heap.size + 1) (w.alloc (.cells #[.int .i64 x.k, .int .i64 x.m, .int .i64 x.a, .int .i64 x.n, .int .i64 x.o] 23)) w4) := (HB3.out.alloc sz3 _).grown hgrow1 (by simp; omega) (fun j hj => own_base HO3.out j hj)
      have e9 : ys.length + 1 = (ys ++ [fl]).length := by simp
      obtain ⟨A1, c1, rfl⟩ := own_form hO4
      have HSG := Lib.hid (Seg.of_own hO4)
      have HSM : Hid (sumI (ys ++ [fl]) = houseS l j x.a + fl) := by show _ = _; rw [sumI_append, HHS.out]; simp [sumI]
      have hyl2 : (ys ++ [fl]).length ≤ 1073741824 := by simp; omega
      have HYI2 : Hid (∀ y ∈ ys ++ [fl], I64 y) := fun y hy => by
        rcases List.mem_append.1 hy with h | h
        · exact HFI.out y h
        · simp at h; rw [h]; exact HFL.out
      clear hown1 hgrow1 hO4
      obtain ⟨x0, x1, x2, x3, x4⟩ := HBX.out _ HG4.out
      have HBR : Hid (Below w.heap.size w w4) := HSW.out _ HG4.out
      have hcs := refsum_any (ys ++ [fl]) A1 c1 _ HYI2.out HSG.out hyl2
      rw [← e9, HSM.out] at hcs
      have HCS := Lib.hid hcs
      clear e9 hcs
      generalize houseS l j x.a + fl = S9 at *
      go_wp2_with fail
      refine HCS.out.mono ?_
      rintro e w5 ⟨rfl, rfl⟩
      by_cases h2 : I64 S9 ∧ 0 ≤ S9
      · have hE := (amt_in h2.1).2
        have hV := (amt_in h2.1).1
        have h20 := h2.2
        have h20' : ¬ S9 < 0 := by omega
        rw [hE, hV]
        have HW2 : Hid (whyP ms ss l j x = if x.k = 1 ∧ folB (phaseL (l.take j)) x.n = false then 3 else if x.k = 8 ∧ twiceB (l.take j) x.m = true then 4 else 0) := by show _ = _; rw [HWD.out, if_neg (by rw [HR.out]; decide), if_neg (not_not_intro h2)]
        clear hE hV h2
        cases k1 : (x.k == 1)
        · have k1' : ¬ x.k = 1 := by simpa using k1
          cases k8 : (x.k == 8)
          · have HE : Hid (whyP ms ss l j x = 0) := by show _ = _; rw [HW2.out, if_neg (fun h => k1' h.1), if_neg (fun h => by have := beq_eq_false_iff_ne.1 k8; exact this h.1)]
            clear k1'
            go_wp2_with fail
            go_ret
            exact ⟨ret_int HE.out.symm, HBR.out⟩
          · cases ht : twiceB (l.take j) x.m
            · have HE : Hid (whyP ms ss l j x = 0) := by show _ = _; rw [HW2.out, if_neg (fun h => k1' h.1), if_neg (fun h => by rw [ht] at h; cases h.2)]
              clear k1' ht
              go_wp2_with fail
              go_ret
              exact ⟨ret_int HE.out.symm, HBR.out⟩
            · have HE : Hid (whyP ms ss l j x = 4) := by show _ = _; rw [HW2.out, if_neg (fun h => k1' h.1), if_pos ⟨by simpa using k8, ht⟩]
              clear k1' ht
              go_wp2_with fail
              go_ret
              exact ⟨ret_int HE.out.symm, HBR.out⟩
        · have k1' : x.k = 1 := by simpa using k1
          have k8 : (x.k == 8) = false := by rw [beq_eq_false_iff_ne]; omega
          have hRF := fun W => Lib.hid (rfollows_any (phaseL (l.take j)) x.n W (HRP.out HR.out k1').1)
          cases hf : folB (phaseL (l.take j)) x.n
          · have HE : Hid (whyP ms ss l j x = 3) := by show _ = _; rw [HW2.out, if_pos ⟨k1', hf⟩]
            rw [hf] at hRF
            clear k1' hf
            go_wp2_with fail
            refine (hRF _).out.mono ?_
            rintro e w6 ⟨rfl, rfl⟩
            go_wp2_with fail
            go_ret
            exact ⟨ret_int HE.out.symm, HBR.out⟩
          · have HE : Hid (whyP ms ss l j x = 0) := by show _ = _; rw [HW2.out, if_neg (fun h => by rw [hf] at h; cases h.2), if_neg (fun h => by have := h.1; omega)]
            rw [hf] at hRF
            clear k1' hf
            go_wp2_with fail
            refine (hRF _).out.mono ?_
            rintro e w6 ⟨rfl, rfl⟩
            go_wp2_with fail
            go_ret
            exact ⟨ret_int HE.out.symm, HBR.out⟩
      · have HE : Hid (whyP ms ss l j x = 2) := by show _ = _; rw [HWD.out, if_neg (by rw [HR.out]; decide), if_pos h2]
        by_cases h3 : I64 S9
        · have hE := (amt_in h3).2
          have hV := (amt_in h3).1
          have h20 : S9 < 0 := by
            have : ¬ 0 ≤ S9 := fun h => h2 ⟨h3, h⟩
            omega
          rw [hE, hV]
          clear hE hV h2 h3
          go_wp2_with fail
          go_ret
          exact ⟨ret_int HE.out.symm, HBR.out⟩
        · have hE := (amt_out h3).2
          have hV := (amt_out h3).1
          rw [hE, hV]
          clear hE hV h2 h3
          go_wp2_with fail
          go_ret
          exact ⟨ret_int HE.out.symm, HBR.out⟩
set_option maxHeartbeats 1600000 in
/-- complineref34.Wrong. -/
theorem rwrong_any (ms ss : Int) (l : List Ev) (A : Option Addr) (c n : Nat) (w : World) (hF : First ms ss l n) (hI : ∀ x ∈ l, I64 x.n) (hs : Seg w w.heap.size A (evRows l)) (hn : l.length ≤ 1000) :
    Calls Tryd.prog 13 #[.int .i64 ms, .int .i64 ss, .slice A l.length c] w fun e w' => e = .returned (.tuple #[.int .i64 n, .int .i64 (whyAt l n (whyN ms ss l))]) ∧ Below w.heap.size w w' := by
  have HC : Hid (∀ k (hk : k < l.length) (W : World), Below w.heap.size w W → Calls Tryd.prog 30 #[.int .i64 ms, .int .i64 ss, .slice A l.length c, .int .i64 k] W fun e w' => e = .returned (.int .i64 (whyP ms ss l k l[k])) ∧ Below W.heap.size W w') := fun k hk W hW => rwhy_any ms ss l A c k hk W hI ((hs.below hW).mono hW.size) hn
  obtain ⟨hle, hfine, hbad⟩ := hF
  have HFI := Lib.hid hfine
  have HBA := Lib.hid hbad
  clear hI hs hfine hbad
  go_enter Tryd.func13, Tryd.ntmps13
  go_wp2_with fail
  go_loopw [8, 9] (fun i _ wr => ∃ k : Nat, k ≤ n ∧ i = .int .i64 k ∧ Hid (Below w.heap.size w wr)) (fun i _ _ => l.length - (intOf i).toNat)
  case atStart => exact ⟨0, Nat.zero_le _, rfl, Below.refl _ _⟩
  case round =>
    obtain ⟨k, hk, rfl, HB⟩ := hrel
    have hsz := HB.out.size
    by_cases hkl : k < l.length
    · have HCK := Lib.hid (HC.out k hkl _ HB.out)
      by_cases hkn : k < n
      · have h0 := HFI.out k hkl hkn
        rw [h0] at HCK
        clear h0
        go_wp2_with fail
        refine HCK.out.mono ?_
        rintro e w1 ⟨rfl, hb1⟩
        have HB1 : Hid (Below w.heap.size w w1) := HB.out.trans (hb1.mono hsz)
        clear hb1
        go_wp2_with fail
        go_roundw
        case rel => exact ⟨k + 1, by omega, by go_num, HB1⟩
        case measure => simp [intOf]; omega
      · obtain rfl : k = n := by omega
        have hne := HBA.out hkl
        have hneb : (whyP ms ss l k l[k] != 0) = true := by simpa [bne] using hne
        have HWA : Hid (whyAt l k (whyN ms ss l) = whyP ms ss l k l[k]) := by show _ = _; unfold whyAt whyN; rw [if_pos hkl, dif_pos hkl]
        clear hne
        generalize whyP ms ss l k l[k] = E at *
        go_wp2_with fail
        refine HCK.out.mono ?_
        rintro e w1 ⟨rfl, hb1⟩
        have HB1 : Hid (Below w.heap.size w w1) := HB.out.trans (hb1.mono hsz)
        clear hb1
        go_wp2_with fail
        go_ret2
        exact ⟨(by rw [HWA.out]; first | done | rfl), HB1.out⟩
    · have hkl' : k = l.length := by omega
      have hnl : n = l.length := by omega
      have HWA : Hid (whyAt l n (whyN ms ss l) = 0) := by show _ = _; unfold whyAt; rw [if_neg (by omega)]
      have HNL := Lib.hid hnl
      subst hkl'
      clear hnl
      go_wp2_with fail
      go_ret2
      exact ⟨(by rw [HWA.out, HNL.out]; first | done | rfl), HB.out⟩
end Go.Proofs.YtikcodnmlenpeaaDoor
