/-
  What codec.Check and codec.Put come to, over this seat's translation: contracts for callers.
-/
import Derived.Test.YtmplokdbbhlomaaDoorSc6
import Derived.Laws.EntriesVeiled
namespace Go.Proofs.YtmplokdbbhlomaaDoor
open Go.RowKit

def pw (j : Nat) : Int := if j = 0 then 1 else if j = 1 then 2 else if j = 2 then 4 else if j = 3 then 8 else if j = 4 then 16 else 32
theorem six_cases {j : Nat} (h : j < 6) : j = 0 ∨ j = 1 ∨ j = 2 ∨ j = 3 ∨ j = 4 ∨ j = 5 := by omega
theorem pw_ne (j : Nat) : (pw j == 0) = false := by
  unfold pw
  repeat' split
  all_goals rfl
theorem bit_and {k : Int} (hk : isK k = true) {j : Nat} (hj : j < 6) : bits .and .i64 (bitsOf k) (pw j) = if hasB k j then pw j else 0 := by
  rcases isK_cases hk with rfl | rfl | rfl | rfl | rfl | rfl | rfl | rfl | rfl | rfl
  all_goals (rcases six_cases hj with rfl | rfl | rfl | rfl | rfl | rfl)
  all_goals decide
theorem val_at {w : World} {g : Nat} {c : Cm} (h : w.heap[g]? = some (.cells (vCells c) TV (0, 0))) {j : Nat} (hj : j < 6) :
    w.cell? ⟨g, j * 3, none⟩ = some (.int .i64 (pw j)) ∧ w.cell? ⟨g, j * 3 + 1, none⟩ = some (.int .i64 (c.get j)) ∧ w.cell? ⟨g, j * 3 + 2, none⟩ = some (.func (.func (fnOf j)) #[] #[]) := by
  rcases six_cases hj with rfl | rfl | rfl | rfl | rfl | rfl
  all_goals exact ⟨(Lib.cell_of_heap h _).trans rfl, (Lib.cell_of_heap h _).trans rfl, (Lib.cell_of_heap h _).trans rfl⟩
theorem fn_cases {j : Nat} (h : j < 6) : fnOf j = 59 ∨ fnOf j = 60 ∨ fnOf j = 61 ∨ fnOf j = 62 ∨ fnOf j = 63 ∨ fnOf j = 64 := by
  rcases six_cases h with rfl | rfl | rfl | rfl | rfl | rfl
  all_goals simp [fnOf]
theorem heap_kept {w w' : World} {g : Nat} {o : Obj} (h : w.heap[g]? = some o) (hb : Below w.heap.size w w') : w'.heap[g]? = some o := (hb.block g (Array.getElem?_eq_some_iff.1 h).1).trans h
def errC (c : Cm) : Int := if rightC c then 0 else 3
/-- The first j values are as they must be. -/
def okTo (c : Cm) (j : Nat) : Bool := (List.range j).all fun i => hasB c.k i || c.get i == 0
theorem okTo_succ (c : Cm) (j : Nat) : okTo c (j + 1) = (okTo c j && (hasB c.k j || c.get j == 0)) := by
  unfold okTo
  rw [List.range_succ, List.all_append]
  simp
theorem right_okTo (c : Cm) : rightC c = (isK c.k && okTo c 6) := rfl
theorem okTo_bad {c : Cm} {j : Nat} (hj : j < 6) (h : (hasB c.k j || c.get j == 0) = false) : okTo c 6 = false := by
  unfold okTo
  rw [List.all_eq_false]
  exact ⟨j, List.mem_range.2 hj, by rw [h]; simp⟩
set_option maxRecDepth 100000 in
set_option maxHeartbeats 3200000 in
theorem check_any (c : Cm) (w : World) : Calls Tryd.prog 25 #[cmV c] w fun e w' => e = .returned (.int .i64 (errC c)) ∧ Below w.heap.size w w' := by
  have HH := Lib.hid (fun W => has_any c.k W)
  have HV := Lib.hid (fun W => values_any c W)
  have HER : Hid (errC c = if isK c.k && okTo c 6 then 0 else 3) := Lib.hid rfl
  obtain ⟨er, her⟩ : ∃ er, er = errC c := ⟨_, rfl⟩
  rw [← her]
  rw [← her] at HER
  clear her
  have HW0 : Hid (Below w.heap.size w (w.alloc (.cells #[.int .i64 c.k, .int .i64 c.i, .int .i64 c.m, .int .i64 c.o, .int .i64 c.s, .int .i64 c.q, .int .i64 c.p] 32))) := Lib.hid ((Below.refl _ _).alloc (Nat.le_refl _) _)
  unfold cmV at HV ⊢
  cases hk : isK c.k with
  | false =>
    have HE : Hid (er = 3) := Lib.hid (by rw [HER.out, hk]; rfl)
    rw [hk] at HH
    go_enter Tryd.func25, Tryd.ntmps25
    go_wp2_with (go_at_call 43; refine (HH.out _).mono ?_; rintro e w1 ⟨rfl, rfl⟩)
    go_ret
    exact ⟨by rw [HE.out]; rfl, HW0.out⟩
  | true =>
    have HAN := Lib.hid (fun j (hj : j < 6) => bit_and hk hj)
    rw [hk] at HH
    rw [hk, Bool.true_and] at HER
    generalize bitsOf c.k = bk at *
    go_enter Tryd.func25, Tryd.ntmps25
    go_wp2_with (first | (go_at_call 43; refine (HH.out _).mono ?_; rintro e w1 ⟨rfl, rfl⟩) | (go_at_call 44; refine (HV.out _).mono ?_; rintro e w1 ⟨g, _, rfl, hv, hb⟩; have HVV := Lib.hid hv; have HW1 : Hid (Below w.heap.size w w1) := Lib.hid (HW0.out.trans (hb.mono HW0.out.size)); clear hv hb))
    go_loopw [6, 18] (fun _ i wr => ∃ j : Nat, j ≤ 6 ∧ i = .int .i64 j ∧ okTo c j = true ∧ Hid (Below w1.heap.size w1 wr)) (fun _ i _ => 6 - (intOf i).toNat)
    case atStart => exact ⟨0, by omega, rfl, rfl, Below.refl _ _⟩
    case round =>
      obtain ⟨j, hj, rfl, hok, HB⟩ := hrel
      by_cases hlt : j < 6
      · obtain ⟨e0, e1, e2⟩ := val_at (heap_kept HVV.out HB.out) hlt
        have HAJ := HAN.out j hlt
        have HOS := Lib.hid (okTo_succ c j)
        have HBAD := Lib.hid (fun h => okTo_bad (c := c) hlt h)
        have hpn := pw_ne j
        have hj0 : (0 : Int) ≤ (j : Int) := by omega
        have hjb : (j : Int) < 6 := by omega
        have HBA : Hid (Below w1.heap.size w1 (wr.alloc (.cells #[.int .i64 (pw j), .int .i64 (c.get j), .func (.func (fnOf j)) #[] #[]] TV))) := Lib.hid (HB.out.alloc HB.out.size _)
        generalize pw j = pj at *
        generalize c.get j = gj at *
        generalize fnOf j = fj at *
        all_goals
          cases hhb : hasB c.k j with
          | true =>
            rw [hhb, if_pos rfl] at HAJ
            have hok2 : okTo c (j + 1) = true := by rw [HOS.out, hok, hhb]; rfl
            clear HOS HBAD
            go_wp2_with fail
            go_roundw
            case rel => exact ⟨j + 1, by omega, by go_num, hok2, HBA⟩
            case measure => simp [intOf]; omega
          | false =>
            rw [hhb] at HAJ HOS HBAD
            have hand : bits .and .i64 bk pj = 0 := HAJ
            clear HAJ
            by_cases hg : gj = 0
            · have hgz : (gj != 0) = false := by simpa using hg
              have hok2 : okTo c (j + 1) = true := by rw [HOS.out, hok, hg]; rfl
              clear HOS HBAD hg
              go_wp2_with fail
              go_roundw
              case rel => exact ⟨j + 1, by omega, by go_num, hok2, HBA⟩
              case measure => simp [intOf]; omega
            · have hgz : (gj != 0) = true := by simpa using hg
              have HE : Hid (er = 3) := Lib.hid (by rw [HER.out, HBAD.out (by simpa using hg)]; rfl)
              clear HOS HBAD hg
              go_wp2_with fail
              go_ret
              exact ⟨by rw [HE.out]; rfl, HW1.out.trans (HBA.out.mono HW1.out.size)⟩
      · obtain rfl : j = 6 := by omega
        have HE : Hid (er = 0) := Lib.hid (by rw [HER.out, hok]; rfl)
        go_wp2_with fail
        go_ret
        exact ⟨by rw [HE.out]; rfl, HW1.out.trans (HB.out.mono HW1.out.size)⟩
end Go.Proofs.YtmplokdbbhlomaaDoor
