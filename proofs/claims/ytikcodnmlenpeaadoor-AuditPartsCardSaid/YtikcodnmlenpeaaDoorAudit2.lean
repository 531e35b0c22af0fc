/-
  What audit.Right and its four closures come to, over this seat's translation: contracts for callers.
-/
import Derived.Test.YtikcodnmlenpeaaDoorAudit1
import Derived.Laws.EntriesVeiled
namespace Go.Proofs.YtikcodnmlenpeaaDoor
open Go.RowKit

/-- An event's five cells lie in a block. -/
structure EvAt (W : World) (b : Nat) (x : Ev) : Prop where
  c0 : W.cell? ⟨b, 0, none⟩ = some (.int .i64 x.k)
  c1 : W.cell? ⟨b, 1, none⟩ = some (.int .i64 x.m)
  c2 : W.cell? ⟨b, 2, none⟩ = some (.int .i64 x.a)
  c3 : W.cell? ⟨b, 3, none⟩ = some (.int .i64 x.n)
  c4 : W.cell? ⟨b, 4, none⟩ = some (.int .i64 x.o)
theorem EvAt.keep {W W' : World} {b : Nat} {x : Ev} (h : EvAt W b x) (hk : ∀ o, W'.cell? ⟨b, o, none⟩ = W.cell? ⟨b, o, none⟩) : EvAt W' b x :=
  ⟨(hk _).trans h.c0, (hk _).trans h.c1, (hk _).trans h.c2, (hk _).trans h.c3, (hk _).trans h.c4⟩

set_option maxHeartbeats 400000 in
theorem right1_any (ms : Int) (x : Ev) (bm bx : Nat) (w : World) (hm : w.cell? ⟨bm, 0, none⟩ = some (.int .i64 ms)) (hx : EvAt w bx x) :
    Calls Tryd.prog 19 #[.pointer (some ⟨bm, 0, none⟩), .pointer (some ⟨bx, 0, none⟩)] w fun e w' => e = .returned (.bool (memB ms x)) ∧ Below w.heap.size w w' := by
  obtain ⟨c0, c1, c2, c3, c4⟩ := hx
  go_enter Tryd.func19, Tryd.ntmps19
  go_wp2_with (go_at_call 20; refine (member_any ms x _).mono ?_; rintro e w' ⟨rfl, hb⟩)
  go_ret
  exact ⟨rfl, hb⟩

set_option maxHeartbeats 400000 in
theorem right2_any (ss : Int) (x : Ev) (bs bx : Nat) (w : World) (hm : w.cell? ⟨bs, 0, none⟩ = some (.int .i64 ss)) (hx : EvAt w bx x) :
    Calls Tryd.prog 21 #[.pointer (some ⟨bx, 0, none⟩), .pointer (some ⟨bs, 0, none⟩)] w fun e w' => e = .returned (.bool (assB ss x)) ∧ Below w.heap.size w w' := by
  obtain ⟨c0, c1, c2, c3, c4⟩ := hx
  go_enter Tryd.func21, Tryd.ntmps21
  go_wp2
  all_goals
    go_ret
    refine ⟨ret_bool ?_, Below.refl _ _⟩
    rw [Bool.eq_iff_iff]
    simp_all [assB] <;> omega

set_option maxHeartbeats 400000 in
theorem right3_any (x : Ev) (bx : Nat) (w : World) (hx : EvAt w bx x) :
    Calls Tryd.prog 22 #[.pointer (some ⟨bx, 0, none⟩)] w fun e w' => e = .returned (.bool (amtB x)) ∧ Below w.heap.size w w' := by
  obtain ⟨c0, c1, c2, c3, c4⟩ := hx
  go_enter Tryd.func22, Tryd.ntmps22
  go_wp2_with (go_at_call 23; refine (amount_any x _).mono ?_; rintro e w' ⟨rfl, hb⟩)
  go_ret
  exact ⟨rfl, hb⟩

set_option maxHeartbeats 400000 in
theorem right4_any (x : Ev) (bx : Nat) (w : World) (hx : EvAt w bx x) :
    Calls Tryd.prog 24 #[.pointer (some ⟨bx, 0, none⟩)] w fun e w' => e = .returned (.bool (othB x)) ∧ Below w.heap.size w w' := by
  obtain ⟨c0, c1, c2, c3, c4⟩ := hx
  go_enter Tryd.func24, Tryd.ntmps24
  go_wp2_with (go_at_call 25; refine (other_any x _).mono ?_; rintro e w' ⟨rfl, hb⟩)
  go_ret
  exact ⟨rfl, hb⟩

/-- The form's parts, up to j of them. -/
def partJ (ms ss : Int) (x : Ev) (j : Nat) : Bool :=
  match j with
  | 0 => partB (hasM x.k) (memB ms x) (x.m == 0)
  | 1 => partB (hasA x.k) (assB ss x) (x.a == 0)
  | 2 => partB (hasN x.k) (amtB x) (x.n == 0)
  | 3 => partB (hasO x.k) (othB x) (x.o == 0)
  | _ => true
def rightTo (ms ss : Int) (x : Ev) : Nat → Bool
  | 0 => hasI x.k
  | j + 1 => rightTo ms ss x j && partJ ms ss x j
theorem rightTo_all (ms ss : Int) (x : Ev) : rightTo ms ss x 4 = rightB ms ss x := by
  simp only [rightTo, partJ, rightB]
  have e : ∀ z : Int, (z == 0) = decide (z = 0) := fun z => by rw [Bool.eq_iff_iff]; simp
  simp only [e]
def hasJ (k : Int) (j : Nat) : Bool := match j with | 0 => hasM k | 1 => hasA k | 2 => hasN k | _ => hasO k
def bitJ (j : Nat) : Int := match j with | 0 => 1 | 1 => 2 | 2 => 4 | _ => 8
theorem bits_has (k : Int) : (bits .and .i64 (hasB k) 1 != 0) = hasM k ∧ (bits .and .i64 (hasB k) 2 != 0) = hasA k ∧ (bits .and .i64 (hasB k) 4 != 0) = hasN k ∧ (bits .and .i64 (hasB k) 8 != 0) = hasO k := by
  unfold hasB
  cases hasM k <;> cases hasA k <;> cases hasN k <;> cases hasO k <;> decide

/-- The world at the loop's head. -/
def rw0 (w : World) (ms ss k m a n o : Int) : World :=
  (((w.alloc (.cells #[.int .i64 ms] 3)).alloc (.cells #[.int .i64 ss] 3)).alloc (.cells #[.int .i64 k, .int .i64 m, .int .i64 a, .int .i64 n, .int .i64 o] 23)).alloc
        (.cells #[.int .i64 1, .bool (m == 0), .func (.func 19) #[] #[.pointer (some ⟨w.heap.size, 0, none⟩), .pointer (some ⟨w.heap.size + 1 + 1, 0, none⟩)],
         .int .i64 2, .bool (a == 0), .func (.func 21) #[] #[.pointer (some ⟨w.heap.size + 1 + 1, 0, none⟩), .pointer (some ⟨w.heap.size + 1, 0, none⟩)],
         .int .i64 4, .bool (n == 0), .func (.func 22) #[] #[.pointer (some ⟨w.heap.size + 1 + 1, 0, none⟩)],
         .int .i64 8, .bool (o == 0), .func (.func 24) #[] #[.pointer (some ⟨w.heap.size + 1 + 1, 0, none⟩)]] 46)
theorem rw0_size (w : World) (ms ss k m a n o : Int) : (rw0 w ms ss k m a n o).heap.size = w.heap.size + 4 := by simp [rw0]
theorem rw0_below (w : World) (ms ss k m a n o : Int) : Below w.heap.size w (rw0 w ms ss k m a n o) :=
  ((((Below.refl _ _).alloc (Nat.le_refl _) _).alloc (by simp) _).alloc (by simp; omega) _).alloc (by simp; omega) _
theorem rw0_cell (w : World) (ms ss k m a n o : Int) (j : Nat) : (rw0 w ms ss k m a n o).cell? ⟨w.heap.size + 1 + 1 + 1, j, none⟩ =
   (#[.int .i64 1, .bool (m == 0), .func (.func 19) #[] #[.pointer (some ⟨w.heap.size, 0, none⟩), .pointer (some ⟨w.heap.size + 1 + 1, 0, none⟩)],
         .int .i64 2, .bool (a == 0), .func (.func 21) #[] #[.pointer (some ⟨w.heap.size + 1 + 1, 0, none⟩), .pointer (some ⟨w.heap.size + 1, 0, none⟩)],
         .int .i64 4, .bool (n == 0), .func (.func 22) #[] #[.pointer (some ⟨w.heap.size + 1 + 1, 0, none⟩)],
         .int .i64 8, .bool (o == 0), .func (.func 24) #[] #[.pointer (some ⟨w.heap.size + 1 + 1, 0, none⟩)]] : Array Value)[j]? := by
  exact cell_new _ _ _ _ (by simp)
theorem rw0_ev (w : World) (ms ss k m a n o : Int) : EvAt (rw0 w ms ss k m a n o) (w.heap.size + 1 + 1) ⟨k, m, a, n, o⟩ ∧
    (rw0 w ms ss k m a n o).cell? ⟨w.heap.size, 0, none⟩ = some (.int .i64 ms) ∧ (rw0 w ms ss k m a n o).cell? ⟨w.heap.size + 1, 0, none⟩ = some (.int .i64 ss) := by
  unfold rw0
  refine ⟨⟨?_, ?_, ?_, ?_, ?_⟩, ?_, ?_⟩
  · rw [cell_old _ _ _ (by simp), cell_new _ _ _ _ (by simp)]; rfl
  · rw [cell_old _ _ _ (by simp), cell_new _ _ _ _ (by simp)]; rfl
  · rw [cell_old _ _ _ (by simp), cell_new _ _ _ _ (by simp)]; rfl
  · rw [cell_old _ _ _ (by simp), cell_new _ _ _ _ (by simp)]; rfl
  · rw [cell_old _ _ _ (by simp), cell_new _ _ _ _ (by simp)]; rfl
  · rw [cell_old _ _ _ (by simp; omega), cell_old _ _ _ (by simp; omega), cell_old _ _ _ (by simp), cell_new _ _ _ _ rfl]; rfl
  · rw [cell_old _ _ _ (by simp), cell_old _ _ _ (by simp), cell_new _ _ _ _ (by simp)]; rfl

set_option maxHeartbeats 1600000 in
theorem right_any (ms ss : Int) (x : Ev) (w : World) :
    Calls Tryd.prog 8 #[.int .i64 ms, .int .i64 ss, x.val] w fun e w' => e = .returned (.bool (rightB ms ss x)) ∧ Below w.heap.size w w' := by
  obtain ⟨k, m, a, n, o⟩ := x
  show Calls Tryd.prog 8 #[.int .i64 ms, .int .i64 ss, .agg #[.int .i64 k, .int .i64 m, .int .i64 a, .int .i64 n, .int .i64 o]] w _
  go_enter Tryd.func8, Tryd.ntmps8
  go_wp2_with (go_at_call 18; refine (has_any k _).mono ?_; rintro e w' ⟨rfl, rfl⟩)
  go_loopw [8, 39] (fun is i wr => ∃ j : Nat, j ≤ 4 ∧ i = .int .i64 j ∧ is = .bool (rightTo ms ss ⟨k, m, a, n, o⟩ j) ∧
      Below (w.heap.size + 4) (rw0 w ms ss k m a n o) wr)
    (fun _ i _ => 4 - (intOf i).toNat)
  case atStart => exact ⟨0, by omega, rfl, rfl, Below.refl _ _⟩
  case round =>
    obtain ⟨j, hj, rfl, rfl, hb⟩ := hrel
    have hsz : w.heap.size + 4 ≤ wr.heap.size := by have := hb.size; rw [rw0_size] at this; exact this
    obtain ⟨he, hm, hs⟩ := rw0_ev w ms ss k m a n o
    have he' : EvAt wr (w.heap.size + 1 + 1) ⟨k, m, a, n, o⟩ := he.keep fun o => hb.cell (p := ⟨_, o, none⟩) (by simp)
    have hm' : wr.cell? ⟨w.heap.size, 0, none⟩ = some (.int .i64 ms) := (hb.cell (p := ⟨_, 0, none⟩) (by simp)).trans hm
    have hs' : wr.cell? ⟨w.heap.size + 1, 0, none⟩ = some (.int .i64 ss) := (hb.cell (p := ⟨_, 0, none⟩) (by simp)).trans hs
    have hsl : ∀ i, wr.cell? ⟨w.heap.size + 1 + 1 + 1, i, none⟩ = _ := fun i => (hb.cell (p := ⟨_, i, none⟩) (by simp)).trans (rw0_cell w ms ss k m a n o i)
    have hbel : Below w.heap.size w wr := (rw0_below w ms ss k m a n o).trans (hb.mono (by omega))
    have HE := Lib.hid he'
    have HB := Lib.hid hb
    have HBEL := Lib.hid hbel
    clear he hm hs he' hb hbel
    by_cases h4 : j = 4
    · subst h4
      have HR := Lib.hid (rightTo_all ms ss ⟨k, m, a, n, o⟩)
      clear hsl hm' hs'
      go_wp2
      go_ret
      exact ⟨ret_bool HR.out, HBEL.out⟩
    · have hj3 : j = 0 ∨ j = 1 ∨ j = 2 ∨ j = 3 := by omega
      clear hj h4
      rcases hj3 with rfl | rfl | rfl | rfl
      · have d0 := hsl 0
        have d1 := hsl 1
        have d2 := hsl 2
        simp at d0 d1 d2
        clear hsl
        cases hr : rightTo ms ss ⟨k, m, a, n, o⟩ 0
        · cases hh : hasM k
          · have hbit : (bits .and .i64 (hasB k) 1 != 0) = false := (bits_has k).1.trans hh
            go_wp2_with fail
            go_roundw
            case rel => exact ⟨1, by omega, by go_num, by (show _ = Value.bool (rightTo ms ss ⟨k, m, a, n, o⟩ 0 && partJ ms ss ⟨k, m, a, n, o⟩ 0); rw [hr]; simp [partJ, partB, hh]), HB.out.alloc hsz _⟩
            case measure => simp [intOf]
          · have hbit : (bits .and .i64 (hasB k) 1 != 0) = true := (bits_has k).1.trans hh
            go_wp2_with fail
            go_roundw
            case rel => exact ⟨1, by omega, by go_num, by (show _ = Value.bool (rightTo ms ss ⟨k, m, a, n, o⟩ 0 && partJ ms ss ⟨k, m, a, n, o⟩ 0); rw [hr]; simp [partJ, partB, hh]), HB.out.alloc hsz _⟩
            case measure => simp [intOf]
        · cases hh : hasM k
          · have hbit : (bits .and .i64 (hasB k) 1 != 0) = false := (bits_has k).1.trans hh
            go_wp2_with fail
            go_roundw
            case rel => exact ⟨1, by omega, by go_num, by (show _ = Value.bool (rightTo ms ss ⟨k, m, a, n, o⟩ 0 && partJ ms ss ⟨k, m, a, n, o⟩ 0); rw [hr]; simp [partJ, partB, hh]), HB.out.alloc hsz _⟩
            case measure => simp [intOf]
          · have hbit : (bits .and .i64 (hasB k) 1 != 0) = true := (bits_has k).1.trans hh
            have HE' := Lib.hid (HE.out.keep (W' := wr.alloc (.cells #[.int .i64 1, .bool (m == 0), .func (.func 19) #[] #[.pointer (some ⟨w.heap.size, 0, none⟩), .pointer (some ⟨w.heap.size + 1 + 1, 0, none⟩)]] 46)) fun o => cell_old _ _ _ (by omega))
            have hm2 : (wr.alloc (.cells #[.int .i64 1, .bool (m == 0), .func (.func 19) #[] #[.pointer (some ⟨w.heap.size, 0, none⟩), .pointer (some ⟨w.heap.size + 1 + 1, 0, none⟩)]] 46)).cell? ⟨w.heap.size, 0, none⟩ = _ := (cell_old _ _ _ (by omega)).trans hm'
            go_wp2_with (go_at_call 19; refine (right1_any ms ⟨k, m, a, n, o⟩ _ _ _ hm2 HE'.out).mono ?_; rintro e w' ⟨rfl, hb1⟩)
            go_roundw
            case rel => exact ⟨1, by omega, by go_num, by (show _ = Value.bool (rightTo ms ss ⟨k, m, a, n, o⟩ 0 && partJ ms ss ⟨k, m, a, n, o⟩ 0); rw [hr]; simp [partJ, partB, hh]), (HB.out.alloc hsz _).trans (hb1.mono (by simp; omega))⟩
            case measure => simp [intOf]
      · have d0 := hsl 3
        have d1 := hsl 4
        have d2 := hsl 5
        simp at d0 d1 d2
        clear hsl
        cases hr : rightTo ms ss ⟨k, m, a, n, o⟩ 1
        · cases hh : hasA k
          · have hbit : (bits .and .i64 (hasB k) 2 != 0) = false := (bits_has k).2.1.trans hh
            go_wp2_with fail
            go_roundw
            case rel => exact ⟨2, by omega, by go_num, by (show _ = Value.bool (rightTo ms ss ⟨k, m, a, n, o⟩ 1 && partJ ms ss ⟨k, m, a, n, o⟩ 1); rw [hr]; simp [partJ, partB, hh]), HB.out.alloc hsz _⟩
            case measure => simp [intOf]
          · have hbit : (bits .and .i64 (hasB k) 2 != 0) = true := (bits_has k).2.1.trans hh
            go_wp2_with fail
            go_roundw
            case rel => exact ⟨2, by omega, by go_num, by (show _ = Value.bool (rightTo ms ss ⟨k, m, a, n, o⟩ 1 && partJ ms ss ⟨k, m, a, n, o⟩ 1); rw [hr]; simp [partJ, partB, hh]), HB.out.alloc hsz _⟩
            case measure => simp [intOf]
        · cases hh : hasA k
          · have hbit : (bits .and .i64 (hasB k) 2 != 0) = false := (bits_has k).2.1.trans hh
            go_wp2_with fail
            go_roundw
            case rel => exact ⟨2, by omega, by go_num, by (show _ = Value.bool (rightTo ms ss ⟨k, m, a, n, o⟩ 1 && partJ ms ss ⟨k, m, a, n, o⟩ 1); rw [hr]; simp [partJ, partB, hh]), HB.out.alloc hsz _⟩
            case measure => simp [intOf]
          · have hbit : (bits .and .i64 (hasB k) 2 != 0) = true := (bits_has k).2.1.trans hh
            have HE' := Lib.hid (HE.out.keep (W' := wr.alloc (.cells #[.int .i64 2, .bool (a == 0), .func (.func 21) #[] #[.pointer (some ⟨w.heap.size + 1 + 1, 0, none⟩), .pointer (some ⟨w.heap.size + 1, 0, none⟩)]] 46)) fun o => cell_old _ _ _ (by omega))
            have hs2 : (wr.alloc (.cells #[.int .i64 2, .bool (a == 0), .func (.func 21) #[] #[.pointer (some ⟨w.heap.size + 1 + 1, 0, none⟩), .pointer (some ⟨w.heap.size + 1, 0, none⟩)]] 46)).cell? ⟨w.heap.size + 1, 0, none⟩ = _ := (cell_old _ _ _ (by omega)).trans hs'
            go_wp2_with (go_at_call 21; refine (right2_any ss ⟨k, m, a, n, o⟩ _ _ _ hs2 HE'.out).mono ?_; rintro e w' ⟨rfl, hb1⟩)
            go_roundw
            case rel => exact ⟨2, by omega, by go_num, by (show _ = Value.bool (rightTo ms ss ⟨k, m, a, n, o⟩ 1 && partJ ms ss ⟨k, m, a, n, o⟩ 1); rw [hr]; simp [partJ, partB, hh]), (HB.out.alloc hsz _).trans (hb1.mono (by simp; omega))⟩
            case measure => simp [intOf]
      · have d0 := hsl 6
        have d1 := hsl 7
        have d2 := hsl 8
        simp at d0 d1 d2
        clear hsl
        cases hr : rightTo ms ss ⟨k, m, a, n, o⟩ 2
        · cases hh : hasN k
          · have hbit : (bits .and .i64 (hasB k) 4 != 0) = false := (bits_has k).2.2.1.trans hh
            go_wp2_with fail
            go_roundw
            case rel => exact ⟨3, by omega, by go_num, by (show _ = Value.bool (rightTo ms ss ⟨k, m, a, n, o⟩ 2 && partJ ms ss ⟨k, m, a, n, o⟩ 2); rw [hr]; simp [partJ, partB, hh]), HB.out.alloc hsz _⟩
            case measure => simp [intOf]
          · have hbit : (bits .and .i64 (hasB k) 4 != 0) = true := (bits_has k).2.2.1.trans hh
            go_wp2_with fail
            go_roundw
            case rel => exact ⟨3, by omega, by go_num, by (show _ = Value.bool (rightTo ms ss ⟨k, m, a, n, o⟩ 2 && partJ ms ss ⟨k, m, a, n, o⟩ 2); rw [hr]; simp [partJ, partB, hh]), HB.out.alloc hsz _⟩
            case measure => simp [intOf]
        · cases hh : hasN k
          · have hbit : (bits .and .i64 (hasB k) 4 != 0) = false := (bits_has k).2.2.1.trans hh
            go_wp2_with fail
            go_roundw
            case rel => exact ⟨3, by omega, by go_num, by (show _ = Value.bool (rightTo ms ss ⟨k, m, a, n, o⟩ 2 && partJ ms ss ⟨k, m, a, n, o⟩ 2); rw [hr]; simp [partJ, partB, hh]), HB.out.alloc hsz _⟩
            case measure => simp [intOf]
          · have hbit : (bits .and .i64 (hasB k) 4 != 0) = true := (bits_has k).2.2.1.trans hh
            have HE' := Lib.hid (HE.out.keep (W' := wr.alloc (.cells #[.int .i64 4, .bool (n == 0), .func (.func 22) #[] #[.pointer (some ⟨w.heap.size + 1 + 1, 0, none⟩)]] 46)) fun o => cell_old _ _ _ (by omega))
            go_wp2_with (go_at_call 22; refine (right3_any ⟨k, m, a, n, o⟩ _ _ HE'.out).mono ?_; rintro e w' ⟨rfl, hb1⟩)
            go_roundw
            case rel => exact ⟨3, by omega, by go_num, by (show _ = Value.bool (rightTo ms ss ⟨k, m, a, n, o⟩ 2 && partJ ms ss ⟨k, m, a, n, o⟩ 2); rw [hr]; simp [partJ, partB, hh]), (HB.out.alloc hsz _).trans (hb1.mono (by simp; omega))⟩
            case measure => simp [intOf]
      · have d0 := hsl 9
        have d1 := hsl 10
        have d2 := hsl 11
        simp at d0 d1 d2
        clear hsl
        cases hr : rightTo ms ss ⟨k, m, a, n, o⟩ 3
        · cases hh : hasO k
          · have hbit : (bits .and .i64 (hasB k) 8 != 0) = false := (bits_has k).2.2.2.trans hh
            go_wp2_with fail
            go_roundw
            case rel => exact ⟨4, by omega, by go_num, by (show _ = Value.bool (rightTo ms ss ⟨k, m, a, n, o⟩ 3 && partJ ms ss ⟨k, m, a, n, o⟩ 3); rw [hr]; simp [partJ, partB, hh]), HB.out.alloc hsz _⟩
            case measure => simp [intOf]
          · have hbit : (bits .and .i64 (hasB k) 8 != 0) = true := (bits_has k).2.2.2.trans hh
            go_wp2_with fail
            go_roundw
            case rel => exact ⟨4, by omega, by go_num, by (show _ = Value.bool (rightTo ms ss ⟨k, m, a, n, o⟩ 3 && partJ ms ss ⟨k, m, a, n, o⟩ 3); rw [hr]; simp [partJ, partB, hh]), HB.out.alloc hsz _⟩
            case measure => simp [intOf]
        · cases hh : hasO k
          · have hbit : (bits .and .i64 (hasB k) 8 != 0) = false := (bits_has k).2.2.2.trans hh
            go_wp2_with fail
            go_roundw
            case rel => exact ⟨4, by omega, by go_num, by (show _ = Value.bool (rightTo ms ss ⟨k, m, a, n, o⟩ 3 && partJ ms ss ⟨k, m, a, n, o⟩ 3); rw [hr]; simp [partJ, partB, hh]), HB.out.alloc hsz _⟩
            case measure => simp [intOf]
          · have hbit : (bits .and .i64 (hasB k) 8 != 0) = true := (bits_has k).2.2.2.trans hh
            have HE' := Lib.hid (HE.out.keep (W' := wr.alloc (.cells #[.int .i64 8, .bool (o == 0), .func (.func 24) #[] #[.pointer (some ⟨w.heap.size + 1 + 1, 0, none⟩)]] 46)) fun o => cell_old _ _ _ (by omega))
            go_wp2_with (go_at_call 24; refine (right4_any ⟨k, m, a, n, o⟩ _ _ HE'.out).mono ?_; rintro e w' ⟨rfl, hb1⟩)
            go_roundw
            case rel => exact ⟨4, by omega, by go_num, by (show _ = Value.bool (rightTo ms ss ⟨k, m, a, n, o⟩ 3 && partJ ms ss ⟨k, m, a, n, o⟩ 3); rw [hr]; simp [partJ, partB, hh]), (HB.out.alloc hsz _).trans (hb1.mono (by simp; omega))⟩
            case measure => simp [intOf]
end Go.Proofs.YtikcodnmlenpeaaDoor
