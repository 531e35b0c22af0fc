/-
  The law AuditSums returns true, over this seat's translation: its walk.
-/
import Derived.Test.YtikcodnmlenpeaaDoorAwake34
import Derived.Test.YtikcodnmlenpeaaDoorRef01
import Derived.Deep.QuietTactic
import Derived.BigQuiet
namespace Go.Proofs.YtikcodnmlenpeaaDoor
open Go.RowKit

theorem closed_snoc {l : List Ob} {k : Nat} (hk : k < l.length) : closedB (l.take (k + 1)) = (closedB (l.take k) && !(l[k].st == 1)) := all_snoc _ hk
theorem drewN_own {w : World} {base : Nat} {e : TypeId} {size n : Nat} {v : Value} {xs : List Value} (h : w.ownsRow base e size v n xs) (q : Nat) : (w.drewN q).ownsRow base e size v n xs := h

set_option maxRecDepth 100000 in
set_option maxHeartbeats 3200000 in
theorem sums_any (l : List Ob) (ev : List Ev) (x0 x1 : Int) (A1 A2 : Option Addr) (c1 c2 : Nat) (w : World) (hw : WordsAt w) (hw0 : 0 < w.heap.size)
    (hs1 : Seg w w.heap.size A1 (obRows l)) (hs2 : Seg w w.heap.size A2 (evRows ev)) (hn1 : l.length ≤ 60) (hn2 : ev.length ≤ 60) (hI1 : ∀ x ∈ l, I64 x.net) (hI2 : ∀ x ∈ ev, I64 x.n) :
    Calls Tryd.prog 6 #[.slice A1 l.length c1, .slice A2 ev.length c2, .agg #[.int .i64 x0, .int .i64 x1]] w fun e w' => e = .returned (.bool true) ∧ Below w.heap.size w w' := by
  have HW := Lib.hid hw
  have HS1 := Lib.hid hs1
  have HS2 := Lib.hid hs2
  have HI1 := Lib.hid hI1
  have HI2 := Lib.hid hI2
  clear hw hs1 hs2 hI1 hI2
  obtain ⟨i0, hi0, hz0, hz1, hz2⟩ := info_parts int64_info
  have hW0 : Below w.heap.size w (w.alloc (.cells #[.int .i64 x0, .int .i64 x1] 32)) := (Below.refl _ _).alloc (Nat.le_refl _) _
  have HW0 := Lib.hid hW0
  clear hW0
  have h60a : decide ((60 : Int) < (l.length : Int)) = false := by simp; omega
  have h60b : decide ((60 : Int) < (ev.length : Int)) = false := by simp; omega
  have HXC : Hid (∀ W, Below (w.heap.size + 1) (w.alloc (.cells #[.int .i64 x0, .int .i64 x1] 32)) W → W.cell? ⟨w.heap.size, 0, none⟩ = some (.int .i64 x0) ∧ W.cell? ⟨w.heap.size, 1, none⟩ = some (.int .i64 x1)) := fun W hb => by
    have hc := fun o => (hb.cell (p := ⟨w.heap.size, o, none⟩) (by simp)).trans (cell_new _ _ _ o rfl)
    exact ⟨hc 0, hc 1⟩
  go_enter Tryd.func6, Tryd.ntmps6
  go_wp2_with fail
  go_loopw [7, 9, 10] (fun v cl i wr => ∃ k : Nat, k ≤ l.length ∧ i = .int .i64 k ∧ cl = .bool (closedB (l.take k)) ∧ Hid (Below (w.heap.size + 1) (w.alloc (.cells #[.int .i64 x0, .int .i64 x1] 32)) wr) ∧
      Hid (wr.ownsRow (w.heap.size + 1) 2 1 v (netsL (l.take k) x0 x1).length ((netsL (l.take k) x0 x1).map (Value.int .i64)))) (fun _ _ i _ => l.length - (intOf i).toNat)
  case atStart => exact ⟨0, Nat.zero_le _, rfl, rfl, Below.refl _ _, ⟨by simp [netsL], Or.inl ⟨rfl, rfl⟩⟩⟩
  case round =>
    obtain ⟨k, hk, rfl, rfl, HB, HO⟩ := hrel
    have hsz : w.heap.size + 1 ≤ wr.heap.size := by have := HB.out.size; simpa using this
    obtain ⟨xc0, xc1⟩ := HXC.out _ HB.out
    by_cases hlt : k < l.length
    · obtain ⟨b, o, rfl, hb, d0, d1, d2, d3, d4, d5⟩ := ob_at (HS1.out.below (HW0.out.trans (HB.out.mono (by omega)))) hlt
      have HF := Lib.hid (filter_snoc (fun x : Ob => (x.c == x0) && (x.a == x1)) (·.net) hlt)
      have HC := Lib.hid (closed_snoc hlt)
      have hlen : (netsL (l.take k) x0 x1).length ≤ k := filter_len _ _ l k
      have hkb : (k : Int) < (l.length : Int) := by omega
      have hk0 : (0 : Int) ≤ (k : Int) := by omega
      cases hc : closedB (l.take k)
      all_goals
        cases ht : (l[k].c == x0)
        · go_wp2
          go_quiet (fail)
          go_wp2
          go_roundw
          case rel => exact ⟨k + 1, by omega, by go_num, by rw [HC.out, hc]; rfl, below_drewN HB.out _, by
            have e : netsL (l.take (k + 1)) x0 x1 = netsL (l.take k) x0 x1 := by unfold netsL; rw [HF.out, ht]; simp
            exact Lib.hid (by rw [e]; exact HO.out)⟩
          case measure => simp [intOf]; omega
        · cases hu : (l[k].a == x1)
          · go_wp2
            go_quiet (fail)
            go_wp2
            go_roundw
            case rel => exact ⟨k + 1, by omega, by go_num, by rw [HC.out, hc]; rfl, below_drewN HB.out _, by
              have e : netsL (l.take (k + 1)) x0 x1 = netsL (l.take k) x0 x1 := by unfold netsL; rw [HF.out, ht, hu]; simp
              exact Lib.hid (by rw [e]; exact HO.out)⟩
            case measure => simp [intOf]; omega
          · go_wp2
            go_quiet (fail)
            go_wp2_with (at_builtin; refine wpList_append_own _ rfl _ _ 33 rfl (w.heap.size + 1) 2 i0 (.int .i64 0) 1 8 Tryd.underlying33 hi0 hz0 hz1 hz2 rfl (by decide) _ _ _ rfl ((drewN_own HO.out _).alloc _) ⟨wr.heap.size, 0, none⟩ 1 1 [.int .i64 l[k].net] rfl rfl (new_cells _ _ #[_] rfl) one_int (by simp only [maxLen]; omega) (by omega) (by simp; omega) ?_; intro v' w1 hown1 hgrow1 _; have HO1 := Lib.hid hown1; have HG1 := Lib.hid hgrow1; clear hown1 hgrow1)
            go_roundw
            case rel => exact ⟨k + 1, by omega, by go_num, by rw [HC.out, hc]; rfl, ((below_drewN HB.out _).alloc (by simpa using hsz) _).grown HG1.out (by simp; omega) (own_base HO.out), by
              have e : netsL (l.take (k + 1)) x0 x1 = netsL (l.take k) x0 x1 ++ [l[k].net] := by unfold netsL; rw [HF.out, ht, hu]; simp
              exact Lib.hid (by rw [e]; simpa using HO1.out)⟩
            case measure => simp [intOf]; omega
    · obtain rfl : k = l.length := by omega
      have hO := HO.out
      rw [List.take_length] at hO
      obtain ⟨A7, c7, rfl⟩ := own_form hO
      have HSg := Lib.hid (Seg.of_own hO)
      have hlen : (netsL l x0 x1).length ≤ l.length := by have := filter_len (fun x : Ob => (x.c == x0) && (x.a == x1)) (·.net) l l.length; rwa [List.take_length] at this
      clear hO HO
      rw [List.take_length]
      obtain ⟨wo, rfl⟩ : ∃ wo : World, wo = wr := ⟨_, rfl⟩
      go_wp2_with fail
      go_loopw [8, 11] (fun v i wr2 => ∃ j : Nat, j ≤ ev.length ∧ i = .int .i64 j ∧ Hid (Below wo.heap.size wo wr2) ∧
          Hid (wr2.ownsRow wo.heap.size 2 1 v (drawsL (ev.take j) x0 x1).length ((drawsL (ev.take j) x0 x1).map (Value.int .i64)))) (fun _ i _ => ev.length - (intOf i).toNat)
      case atStart => exact ⟨0, Nat.zero_le _, rfl, Below.refl _ _, ⟨by simp [drawsL], Or.inl ⟨rfl, rfl⟩⟩⟩
      case round =>
        obtain ⟨j, hj, rfl, HB2, HO2⟩ := hrel
        have hsz2 := HB2.out.size
        have hbx : Below (w.heap.size + 1) (w.alloc (.cells #[.int .i64 x0, .int .i64 x1] 32)) wr := HB.out.trans (HB2.out.mono hsz)
        have HBX := Lib.hid hbx
        clear xc0 xc1
        obtain ⟨xc0, xc1⟩ := HXC.out _ hbx
        clear hbx
        by_cases hlt2 : j < ev.length
        · obtain ⟨b, o, rfl, hb, d0, d1, d2, d3, d4⟩ := ev_at (HS2.out.below (HW0.out.trans (HBX.out.mono (by omega)))) hlt2
          have HF2 := Lib.hid (filter_snoc (fun x : Ev => (x.k == 10) && (x.o == x0) && (x.m == x1)) (·.n) hlt2)
          have hlen2 : (drawsL (ev.take j) x0 x1).length ≤ j := filter_len _ _ ev j
          have hkb : (j : Int) < (ev.length : Int) := by omega
          have hk0 : (0 : Int) ≤ (j : Int) := by omega
          cases ht : (ev[j].k == 10)
          · go_wp2
            go_quiet (fail)
            go_wp2
            go_roundw
            case rel => exact ⟨j + 1, by omega, by go_num, below_drewN HB2.out _, by
              have e : drawsL (ev.take (j + 1)) x0 x1 = drawsL (ev.take j) x0 x1 := by unfold drawsL; rw [HF2.out, ht]; simp
              exact Lib.hid (by rw [e]; exact HO2.out)⟩
            case measure => simp [intOf]; omega
          cases hu : (ev[j].o == x0)
          · go_wp2
            go_quiet (fail)
            go_wp2
            go_roundw
            case rel => exact ⟨j + 1, by omega, by go_num, below_drewN HB2.out _, by
              have e : drawsL (ev.take (j + 1)) x0 x1 = drawsL (ev.take j) x0 x1 := by unfold drawsL; rw [HF2.out, ht, hu]; simp
              exact Lib.hid (by rw [e]; exact HO2.out)⟩
            case measure => simp [intOf]; omega
          cases hv : (ev[j].m == x1)
          · go_wp2
            go_quiet (fail)
            go_wp2
            go_roundw
            case rel => exact ⟨j + 1, by omega, by go_num, below_drewN HB2.out _, by
              have e : drawsL (ev.take (j + 1)) x0 x1 = drawsL (ev.take j) x0 x1 := by unfold drawsL; rw [HF2.out, ht, hu, hv]; simp
              exact Lib.hid (by rw [e]; exact HO2.out)⟩
            case measure => simp [intOf]; omega
          · go_wp2
            go_quiet (fail)
            go_wp2_with (at_builtin; refine wpList_append_own _ rfl _ _ 33 rfl wo.heap.size 2 i0 (.int .i64 0) 1 8 Tryd.underlying33 hi0 hz0 hz1 hz2 rfl (by decide) _ _ _ rfl ((drewN_own HO2.out _).alloc _) ⟨wr.heap.size, 0, none⟩ 1 1 [.int .i64 ev[j].n] rfl rfl (new_cells _ _ #[_] rfl) one_int (by simp only [maxLen]; omega) (by omega) (by simp; omega) ?_; intro v' w1 hown1 hgrow1 _; have HO1 := Lib.hid hown1; have HG1 := Lib.hid hgrow1; clear hown1 hgrow1)
            go_roundw
            case rel =>
              have e : drawsL (ev.take (j + 1)) x0 x1 = drawsL (ev.take j) x0 x1 ++ [ev[j].n] := by unfold drawsL; rw [HF2.out, ht, hu, hv]; simp
              have hown : Hid (w1.ownsRow wo.heap.size 2 1 v' (drawsL (ev.take (j + 1)) x0 x1).length ((drawsL (ev.take (j + 1)) x0 x1).map (Value.int .i64))) := Lib.hid (by rw [e]; simpa using HO1.out)
              have hbel : Hid (Below wo.heap.size wo w1) := ((below_drewN HB2.out _).alloc (by simpa using hsz2) _).grown HG1.out (by simp; omega) (own_base HO2.out)
              first
                | exact ⟨j + 1, by omega, by go_num, hbel, hown⟩
                | ((repeat apply Exists.intro); exact ⟨⟨j + 1, by omega, by go_num, hbel, hown⟩, rfl⟩)
            case measure => simp [intOf]; omega
        · obtain rfl : j = ev.length := by omega
          have hO := HO2.out
          rw [List.take_length] at hO
          obtain ⟨A8, c8, rfl⟩ := own_form hO
          have HSh := Lib.hid (Seg.of_own hO)
          have hlen2 : (drawsL ev x0 x1).length ≤ ev.length := by have := filter_len (fun x : Ev => (x.k == 10) && (x.o == x0) && (x.m == x1)) (·.n) ev ev.length; rwa [List.take_length] at this
          have hIn : ∀ x ∈ netsL l x0 x1, I64 x := fun x hx => by
            unfold netsL at hx
            obtain ⟨y, hy, rfl⟩ := List.mem_map.1 hx
            exact HI1.out y (List.mem_filter.1 hy).1
          have hId : ∀ x ∈ drawsL ev x0 x1, I64 x := fun x hx => by
            unfold drawsL at hx
            obtain ⟨y, hy, rfl⟩ := List.mem_map.1 hx
            exact HI2.out y (List.mem_filter.1 hy).1
          have HIN := Lib.hid hIn
          have HID := Lib.hid hId
          have HB3 : Hid (Below w.heap.size w wr) := HW0.out.trans (HBX.out.mono (by omega))
          clear hO hIn hId HO2
          have hb0 : w.heap.size ≤ wr.heap.size := HB3.out.size
          go_wp2_with fail
          refine (nets_any l x0 x1 A1 c1 _ ((HS1.out.below HB3.out).mono hb0) (by omega) HI1.out).mono ?_
          rintro e1 w1 ⟨rfl, hb1⟩
          have HE1 := Lib.hid hb1
          have hz1 := hb1.size
          clear hb1
          go_wp2_with fail
          refine (refsum_any (netsL l x0 x1) A7 c7 _ HIN.out (((HSg.out.below HB2.out).mono hsz2).below HE1.out |>.mono hz1) (by omega)).mono ?_
          rintro e2 w2 ⟨rfl, rfl⟩
          obtain ⟨xc0, xc1⟩ := HXC.out _ (HBX.out.trans (HE1.out.mono (by omega)))
          go_wp2_with fail
          refine (drawn_any ev x0 x1 A2 c2 _ (((HS2.out.below HB3.out).mono hb0).below HE1.out |>.mono hz1) (by omega) HI2.out).mono ?_
          rintro e3 w3 ⟨rfl, hb3⟩
          have HE3 := Lib.hid hb3
          have hz3 := hb3.size
          clear hb3
          go_wp2_with fail
          refine (refsum_any (drawsL ev x0 x1) A8 c8 _ HID.out (((HSh.out.below HE1.out).mono hz1).below HE3.out |>.mono hz3) (by omega)).mono ?_
          rintro e4 w4 ⟨rfl, rfl⟩
          have HB5 : Hid (Below w.heap.size w w3) := HB3.out.trans ((HE1.out.mono hb0).trans (HE3.out.mono (by omega)))
          have hp : 0 < w3.heap.size := by omega
          go_wp2_with fail
          refine (awake_any _ (HW.out.below hw0 HB5.out) hp).mono ?_
          rintro e5 w5 ⟨rfl, hb5⟩
          have HE5 := Lib.hid hb5
          have hz5 := hb5.size
          clear hb5
          go_wp2_with fail
          refine (closed_any l A1 c1 _ (((HS1.out.below HB5.out).mono (by omega)).below HE5.out |>.mono hz5) (by omega)).mono ?_
          rintro e6 w6 ⟨rfl, hb6⟩
          have HE6 := Lib.hid hb6
          clear hb6
          go_wp2_with fail
          go_ret
          refine ⟨?_, HB5.out.trans ((HE5.out.mono (by omega)).trans (HE6.out.mono (by omega)))⟩
          simp
end Go.Proofs.YtikcodnmlenpeaaDoor
