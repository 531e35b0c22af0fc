/-
  Several texts in one: Sc6, Sc7, Sc8.
-/
import Derived.Test.YtmplokdbbhlomaaGreatDoorScB
import Derived.Laws.EntriesVeiled
/-
  What codec.has and codec.values come to, over this seat's translation: contracts for callers.
-/
namespace Go.Proofs.YtmplokdbbhlomaaGreatDoor
open Go.RowKit

/-- What a kind has, as bits. -/
def bitsOf (k : Int) : Int := if k = 2 then 63 else if k = 3 then 1 else if k = 4 then 18 else if k = 5 then 26 else if k = 6 then 26 else if k = 7 then 58 else if k = 8 then 18 else if k = 9 then 18 else 0
theorem not_k {k : Int} (h : isK k = false) : k ≠ 1 ∧ k ≠ 2 ∧ k ≠ 3 ∧ k ≠ 4 ∧ k ≠ 5 ∧ k ≠ 6 ∧ k ≠ 7 ∧ k ≠ 8 ∧ k ≠ 9 ∧ k ≠ 10 := by
  simp [isK] at h
  omega
set_option maxRecDepth 100000 in
set_option maxHeartbeats 3200000 in
theorem has_any (k : Int) (w : World) : Calls Tryz.prog 51 #[.int .i64 k] w fun e w' => e = .returned (.tuple #[.int .i64 (bitsOf k), .bool (isK k)]) ∧ w' = w := by
  have o1 : bits .or .i64 0 5 = 5 := by decide
  have o2 : bits .or .i64 5 32 = 37 := by decide
  have o3 : bits .or .i64 37 8 = 45 := by decide
  have o4 : bits .or .i64 45 18 = 63 := by decide
  have o5 : bits .or .i64 0 32 = 32 := by decide
  have o6 : bits .or .i64 32 8 = 40 := by decide
  have o7 : bits .or .i64 40 18 = 58 := by decide
  have o8 : bits .or .i64 0 8 = 8 := by decide
  have o9 : bits .or .i64 8 18 = 26 := by decide
  have o10 : bits .or .i64 0 18 = 18 := by decide
  cases hk : isK k with
  | true =>
    rcases isK_cases hk with rfl | rfl | rfl | rfl | rfl | rfl | rfl | rfl | rfl | rfl
    all_goals
      clear hk
      go_enter Tryz.func51, Tryz.ntmps51
      go_wp2_with fail
      go_ret2
      exact ⟨rfl, rfl⟩
  | false =>
    obtain ⟨n1, n2, n3, n4, n5, n6, n7, n8, n9, n10⟩ := not_k hk
    have b1 : (k == 1) = false := by simpa using n1
    have b2 : (k == 2) = false := by simpa using n2
    have b3 : (k == 3) = false := by simpa using n3
    have b4 : (k == 4) = false := by simpa using n4
    have b5 : (k == 5) = false := by simpa using n5
    have b6 : (k == 6) = false := by simpa using n6
    have b7 : (k == 7) = false := by simpa using n7
    have b8 : (k == 8) = false := by simpa using n8
    have b9 : (k == 9) = false := by simpa using n9
    have b10 : (k == 10) = false := by simpa using n10
    have HBO : Hid (bitsOf k = 0) := Lib.hid (by unfold bitsOf; simp [n2, n3, n4, n5, n6, n7, n8, n9])
    clear n1 n2 n3 n4 n5 n6 n7 n8 n9 n10 hk
    go_enter Tryz.func51, Tryz.ntmps51
    go_wp2_with fail
    go_ret2
    exact ⟨by rw [HBO.out]; rfl, rfl⟩
theorem heap_new2 (w : World) (o1 o2 : Obj) : ((w.alloc o1).alloc o2).heap[w.heap.size + 1]? = some o2 := by
  have h := heap_alloc_new (w.alloc o1) o2
  rw [show (w.alloc o1).heap.size = w.heap.size + 1 by simp] at h
  exact h
/-- A command as a value. -/
def cmV (c : Cm) : Value := .agg #[.int .i64 c.k, .int .i64 c.i, .int .i64 c.m, .int .i64 c.o, .int .i64 c.s, .int .i64 c.q, .int .i64 c.p]
def fnOf (j : Nat) : Nat := if j = 0 then 76 else if j = 1 then 77 else if j = 2 then 78 else if j = 3 then 79 else if j = 4 then 80 else 81
def vfn (j : Nat) : Value := .func (.func (fnOf j)) #[] #[]
def vCells (c : Cm) : Array Value := #[.int .i64 1, .int .i64 c.i, vfn 0, .int .i64 2, .int .i64 c.m, vfn 1, .int .i64 4, .int .i64 c.o, vfn 2, .int .i64 8, .int .i64 c.s, vfn 3, .int .i64 16, .int .i64 c.q, vfn 4, .int .i64 32, .int .i64 c.p, vfn 5]
abbrev TV : TypeId := 93
set_option maxRecDepth 100000 in
set_option maxHeartbeats 1600000 in
theorem values_any (c : Cm) (w : World) : Calls Tryz.prog 52 #[cmV c] w fun e w' => ∃ g, w.heap.size ≤ g ∧ e = .returned (.slice (some ⟨g, 0, none⟩) 6 6) ∧ w'.heap[g]? = some (.cells (vCells c) TV (0, 0)) ∧ Below w.heap.size w w' := by
  obtain ⟨k, i, m, o, s, q, p⟩ := c
  unfold cmV
  go_enter Tryz.func52, Tryz.ntmps52
  go_wp2_with fail
  go_ret
  refine ⟨w.heap.size + 1, by omega, rfl, ?_, ((Below.refl _ _).alloc (Nat.le_refl _) _).alloc (by simp) _⟩
  exact heap_new2 w _ _
end Go.Proofs.YtmplokdbbhlomaaGreatDoor

/-
  What codec.Check and codec.Put come to, over this seat's translation: contracts for callers.
-/
namespace Go.Proofs.YtmplokdbbhlomaaGreatDoor
open Go.RowKit

def pw (j : Nat) : Int := if j = 0 then 1 else if j = 1 then 2 else if j = 2 then 4 else if j = 3 then 8 else if j = 4 then 16 else 32
theorem six_cases {j : Nat} (h : j < 6) : j = 0 ∨ j = 1 ∨ j = 2 ∨ j = 3 ∨ j = 4 ∨ j = 5 := by omega
theorem pw_ne (j : Nat) : (pw j == 0) = false := by
  unfold pw
  repeat' split
  all_goals rfl
theorem bit_and {k : Int} (hk : isK k = true) {j : Nat} (hj : j < 6) : bits .and .i64 (bitsOf k) (pw j) = if hasB k j then pw j else 0 := by
  rcases isK_cases hk with rfl | rfl | rfl | rfl | rfl | rfl | rfl | rfl | rfl | rfl
  all_goals (rcases six_cases hj with rfl | rfl | rfl | rfl | rfl | rfl)
  all_goals decide
theorem val_at {w : World} {g : Nat} {c : Cm} (h : w.heap[g]? = some (.cells (vCells c) TV (0, 0))) {j : Nat} (hj : j < 6) :
    w.cell? ⟨g, j * 3, none⟩ = some (.int .i64 (pw j)) ∧ w.cell? ⟨g, j * 3 + 1, none⟩ = some (.int .i64 (c.get j)) ∧ w.cell? ⟨g, j * 3 + 2, none⟩ = some (.func (.func (fnOf j)) #[] #[]) := by
  rcases six_cases hj with rfl | rfl | rfl | rfl | rfl | rfl
  all_goals exact ⟨(Lib.cell_of_heap h _).trans rfl, (Lib.cell_of_heap h _).trans rfl, (Lib.cell_of_heap h _).trans rfl⟩
theorem fn_cases {j : Nat} (h : j < 6) : fnOf j = 76 ∨ fnOf j = 77 ∨ fnOf j = 78 ∨ fnOf j = 79 ∨ fnOf j = 80 ∨ fnOf j = 81 := by
  rcases six_cases h with rfl | rfl | rfl | rfl | rfl | rfl
  all_goals simp [fnOf]
theorem heap_kept {w w' : World} {g : Nat} {o : Obj} (h : w.heap[g]? = some o) (hb : Below w.heap.size w w') : w'.heap[g]? = some o := (hb.block g (Array.getElem?_eq_some_iff.1 h).1).trans h
def errC (c : Cm) : Int := if rightC c then 0 else 3
/-- The first j values are as they must be. -/
def okTo (c : Cm) (j : Nat) : Bool := (List.range j).all fun i => hasB c.k i || c.get i == 0
theorem okTo_succ (c : Cm) (j : Nat) : okTo c (j + 1) = (okTo c j && (hasB c.k j || c.get j == 0)) := by
  unfold okTo
  rw [List.range_succ, List.all_append]
  simp
theorem right_okTo (c : Cm) : rightC c = (isK c.k && okTo c 6) := rfl
theorem okTo_bad {c : Cm} {j : Nat} (hj : j < 6) (h : (hasB c.k j || c.get j == 0) = false) : okTo c 6 = false := by
  unfold okTo
  rw [List.all_eq_false]
  exact ⟨j, List.mem_range.2 hj, by rw [h]; simp⟩
set_option maxRecDepth 100000 in
set_option maxHeartbeats 3200000 in
theorem check_any (c : Cm) (w : World) : Calls Tryz.prog 22 #[cmV c] w fun e w' => e = .returned (.int .i64 (errC c)) ∧ Below w.heap.size w w' := by
  have HH := Lib.hid (fun W => has_any c.k W)
  have HV := Lib.hid (fun W => values_any c W)
  have HER : Hid (errC c = if isK c.k && okTo c 6 then 0 else 3) := Lib.hid rfl
  obtain ⟨er, her⟩ : ∃ er, er = errC c := ⟨_, rfl⟩
  rw [← her]
  rw [← her] at HER
  clear her
  have HW0 : Hid (Below w.heap.size w (w.alloc (.cells #[.int .i64 c.k, .int .i64 c.i, .int .i64 c.m, .int .i64 c.o, .int .i64 c.s, .int .i64 c.q, .int .i64 c.p] 23))) := Lib.hid ((Below.refl _ _).alloc (Nat.le_refl _) _)
  unfold cmV at HV ⊢
  cases hk : isK c.k with
  | false =>
    have HE : Hid (er = 3) := Lib.hid (by rw [HER.out, hk]; rfl)
    rw [hk] at HH
    go_enter Tryz.func22, Tryz.ntmps22
    go_wp2_with (go_at_call 51; refine (HH.out _).mono ?_; rintro e w1 ⟨rfl, rfl⟩)
    go_ret
    exact ⟨by rw [HE.out]; rfl, HW0.out⟩
  | true =>
    have HAN := Lib.hid (fun j (hj : j < 6) => bit_and hk hj)
    rw [hk] at HH
    rw [hk, Bool.true_and] at HER
    generalize bitsOf c.k = bk at *
    go_enter Tryz.func22, Tryz.ntmps22
    go_wp2_with (first | (go_at_call 51; refine (HH.out _).mono ?_; rintro e w1 ⟨rfl, rfl⟩) | (go_at_call 52; refine (HV.out _).mono ?_; rintro e w1 ⟨g, _, rfl, hv, hb⟩; have HVV := Lib.hid hv; have HW1 : Hid (Below w.heap.size w w1) := Lib.hid (HW0.out.trans (hb.mono HW0.out.size)); clear hv hb))
    go_loopw [6, 18] (fun _ i wr => ∃ j : Nat, j ≤ 6 ∧ i = .int .i64 j ∧ okTo c j = true ∧ Hid (Below w1.heap.size w1 wr)) (fun _ i _ => 6 - (intOf i).toNat)
    case atStart => exact ⟨0, by omega, rfl, rfl, Below.refl _ _⟩
    case round =>
      obtain ⟨j, hj, rfl, hok, HB⟩ := hrel
      by_cases hlt : j < 6
      · obtain ⟨e0, e1, e2⟩ := val_at (heap_kept HVV.out HB.out) hlt
        have HAJ := HAN.out j hlt
        have HOS := Lib.hid (okTo_succ c j)
        have HBAD := Lib.hid (fun h => okTo_bad (c := c) hlt h)
        have hpn := pw_ne j
        have hj0 : (0 : Int) ≤ (j : Int) := by omega
        have hjb : (j : Int) < 6 := by omega
        have HBA : Hid (Below w1.heap.size w1 (wr.alloc (.cells #[.int .i64 (pw j), .int .i64 (c.get j), .func (.func (fnOf j)) #[] #[]] TV))) := Lib.hid (HB.out.alloc HB.out.size _)
        generalize pw j = pj at *
        generalize c.get j = gj at *
        generalize fnOf j = fj at *
        all_goals
          cases hhb : hasB c.k j with
          | true =>
            rw [hhb, if_pos rfl] at HAJ
            have hok2 : okTo c (j + 1) = true := by rw [HOS.out, hok, hhb]; rfl
            clear HOS HBAD
            go_wp2_with fail
            go_roundw
            case rel => exact ⟨j + 1, by omega, by go_num, hok2, HBA⟩
            case measure => simp [intOf]; omega
          | false =>
            rw [hhb] at HAJ HOS HBAD
            have hand : bits .and .i64 bk pj = 0 := HAJ
            clear HAJ
            by_cases hg : gj = 0
            · have hgz : (gj != 0) = false := by simpa using hg
              have hok2 : okTo c (j + 1) = true := by rw [HOS.out, hok, hg]; rfl
              clear HOS HBAD hg
              go_wp2_with fail
              go_roundw
              case rel => exact ⟨j + 1, by omega, by go_num, hok2, HBA⟩
              case measure => simp [intOf]; omega
            · have hgz : (gj != 0) = true := by simpa using hg
              have HE : Hid (er = 3) := Lib.hid (by rw [HER.out, HBAD.out (by simpa using hg)]; rfl)
              clear HOS HBAD hg
              go_wp2_with fail
              go_ret
              exact ⟨by rw [HE.out]; rfl, HW1.out.trans (HBA.out.mono HW1.out.size)⟩
      · obtain rfl : j = 6 := by omega
        have HE : Hid (er = 0) := Lib.hid (by rw [HER.out, hok]; rfl)
        go_wp2_with fail
        go_ret
        exact ⟨by rw [HE.out]; rfl, HW1.out.trans (HB.out.mono HW1.out.size)⟩
end Go.Proofs.YtmplokdbbhlomaaGreatDoor

/-
  What codec.Put comes to, over this seat's translation: a contract for callers.
-/
namespace Go.Proofs.YtmplokdbbhlomaaGreatDoor
open Go.RowKit

theorem putF_succ (c : Cm) {j : Nat} (hj : j < 6) : putF c (six.take (j + 1)) = putF c (six.take j) ++ (if hasB c.k j then putN (c.get j) else []) := by
  have e : six.take (j + 1) = six.take j ++ [j] := by
    rcases six_cases hj with rfl | rfl | rfl | rfl | rfl | rfl
    all_goals rfl
  unfold putF
  rw [e, List.flatMap_append]
  simp
theorem tv_tu (cs : Array Value) (c : Array Value) (fz : Nat × Nat) : Obj.cells cs TV (0, 0) ≠ Obj.cells c TU fz := by
  intro e
  injection e with _ e _
  exact absurd e (by decide)
theorem take_len {c : Cm} (hc : CmOk c) (j : Nat) (hj : j ≤ 6) : (putN c.k ++ putF c (six.take j)).length ≤ 70 := by
  have h1 := putN_len hc.1
  have h2 := putF_len hc (six.take j)
  rw [List.length_take] at h2
  rw [List.length_append]
  omega
set_option maxRecDepth 100000 in
set_option maxHeartbeats 6400000 in
theorem cput_any (c : Cm) (hc : CmOk c) (w : World) : Calls Tryz.prog 44 #[cmV c] w fun e w' => e = .returned (.tuple #[.string (bs (if rightC c then putC c else [])), .int .i64 (errC c)]) ∧ Below w.heap.size w w' := by
  have HC := Lib.hid hc
  have HCK := Lib.hid (fun W => check_any c W)
  have HW0 : Hid (Below w.heap.size w (w.alloc (.cells #[.int .i64 c.k, .int .i64 c.i, .int .i64 c.m, .int .i64 c.o, .int .i64 c.s, .int .i64 c.q, .int .i64 c.p] 23))) := Lib.hid ((Below.refl _ _).alloc (Nat.le_refl _) _)
  cases hr : rightC c with
  | false =>
    have he : errC c = 3 := by unfold errC; rw [hr]; rfl
    rw [he] at HCK ⊢
    unfold cmV at HCK ⊢
    go_enter Tryz.func44, Tryz.ntmps44
    go_wp2_with (go_at_call 22; refine (HCK.out _).mono ?_; rintro e w1 ⟨rfl, hb⟩; have HB1 := Lib.hid hb; clear hb)
    go_ret2
    exact ⟨rfl, HW0.out.trans (HB1.out.mono HW0.out.size)⟩
  | true =>
    have he : errC c = 0 := by unfold errC; rw [hr]; rfl
    have hk : isK c.k = true := by
      unfold rightC at hr
      rw [Bool.and_eq_true] at hr
      exact hr.1
    have HH := Lib.hid (fun W => has_any c.k W)
    have HV := Lib.hid (fun W => values_any c W)
    have HAN := Lib.hid (fun j (hj : j < 6) => bit_and hk hj)
    have HPK := Lib.hid (fun W => put_any c.k W hc.1)
    have HPF := Lib.hid (fun j (hj : j < 6) => putF_succ c hj)
    have HTL := Lib.hid (fun j (hj : j ≤ 6) => take_len hc j hj)
    have HGO := Lib.hid (fun j => get_ok hc j)
    have HPC : Hid (putC c = putN c.k ++ putF c (six.take 6)) := Lib.hid rfl
    have HCC : Hid (∀ j, (w.alloc (.cells #[.int .i64 c.k, .int .i64 c.i, .int .i64 c.m, .int .i64 c.o, .int .i64 c.s, .int .i64 c.q, .int .i64 c.p] 23)).cell? ⟨w.heap.size, j, none⟩ = (#[.int .i64 c.k, .int .i64 c.i, .int .i64 c.m, .int .i64 c.o, .int .i64 c.s, .int .i64 c.q, .int .i64 c.p] : Array Value)[j]?) := Lib.hid fun j => cell_new _ _ _ j rfl
    have hz0 : w.heap.size < (w.alloc (.cells #[.int .i64 c.k, .int .i64 c.i, .int .i64 c.m, .int .i64 c.o, .int .i64 c.s, .int .i64 c.q, .int .i64 c.p] 23)).heap.size := by simp
    have HZ0 := Lib.hid hz0
    rw [hk] at HH
    rw [he] at HCK ⊢
    clear hz0 hc he hk hr
    generalize bitsOf c.k = bk at *
    unfold cmV at HCK HV ⊢
    go_enter Tryz.func44, Tryz.ntmps44
    go_wp2_with fail
    generalize (w.alloc (.cells #[.int .i64 c.k, .int .i64 c.i, .int .i64 c.m, .int .i64 c.o, .int .i64 c.s, .int .i64 c.q, .int .i64 c.p] 23)) = w0 at *
    refine (HCK.out w0).mono ?_
    rintro e w1 ⟨rfl, hb1⟩
    have HB1 := Lib.hid hb1
    clear hb1
    have HCW : Hid (∀ W, Below w0.heap.size w0 W → W.cell? ⟨w.heap.size, 0, none⟩ = some (.int .i64 c.k) ∧ W.cell? ⟨w.heap.size, 1, none⟩ = some (.int .i64 c.i) ∧ W.cell? ⟨w.heap.size, 2, none⟩ = some (.int .i64 c.m) ∧ W.cell? ⟨w.heap.size, 3, none⟩ = some (.int .i64 c.o) ∧ W.cell? ⟨w.heap.size, 4, none⟩ = some (.int .i64 c.s) ∧ W.cell? ⟨w.heap.size, 5, none⟩ = some (.int .i64 c.q) ∧ W.cell? ⟨w.heap.size, 6, none⟩ = some (.int .i64 c.p)) := Lib.hid fun W hW => by
      have hh := fun j => (hW.cell (p := ⟨w.heap.size, j, none⟩) HZ0.out).trans (HCC.out j)
      exact ⟨hh 0, hh 1, hh 2, hh 3, hh 4, hh 5, hh 6⟩
    have k0 := (HCW.out w1 HB1.out).1
    have HB2 : Hid (Below w0.heap.size w0 (w1.alloc (.cells #[.pointer none, .slice none 0 0] TB))) := Lib.hid (HB1.out.alloc HB1.out.size _)
    have k1 := (HCW.out _ HB2.out).1
    have HBF : Hid (Lib.IsBuilder TB TU w0.heap.size w1.heap.size [] (w1.alloc (.cells #[.pointer none, .slice none 0 0] TB))) := Lib.hid (bld_fresh w1 w0.heap.size HB1.out.size)
    go_wp2_with (go_at_call 51; refine (HH.out _).mono ?_; rintro e w2 ⟨rfl, rfl⟩)
    refine (HPK.out _).mono ?_
    rintro e w3 ⟨rfl, hb3⟩
    have HBF3 := Lib.hid (bld_below HBF.out hb3)
    have HB3 : Hid (Below w0.heap.size w0 w3) := Lib.hid (HB2.out.trans (hb3.mono HB2.out.size))
    have hbl : w2.heap.size < w3.heap.size := Nat.lt_of_lt_of_le (by simp) hb3.size
    clear hb3 HBF k0 k1 HB2
    have hpk := putN_len HC.out.1
    have HWR := Lib.hid (write_any w0.heap.size w2.heap.size [] (bs (putN c.k)) w3 HBF3.out (by rw [bs_size, List.length_nil]; omega) HB3.out.size)
    go_wp2_with (go_at_call 38; refine HWR.out.mono ?_)
    rintro e w4 ⟨rfl, hbd4, hb4, _⟩
    have HBF4 : Hid (Lib.IsBuilder TB TU w0.heap.size w2.heap.size (Lib.byteCells (putN c.k ++ putF c (six.take 0))) w4) := Lib.hid (by
      have e : putN c.k ++ putF c (six.take 0) = putN c.k := by simp [putF]
      rw [e, ← strCells_mk (putN c.k)]
      exact hbd4)
    have HB4 : Hid (Below w0.heap.size w0 w4) := Lib.hid (HB3.out.trans hb4)
    have hbl4 : w2.heap.size < w4.heap.size := by
      rcases HBF4.out with h | h
      · exact h.lt
      · exact h.lt
    obtain ⟨q0, q1, q2, q3, q4, q5, q6⟩ := HCW.out w4 HB4.out
    clear hbd4 hb4 HWR HBF3 HB3 hbl
    go_wp2_with (go_at_call 52; refine (HV.out _).mono ?_)
    rintro e w5 ⟨g, hg, rfl, hv, hb5⟩
    have HV5 := Lib.hid hv
    have HBF5 := Lib.hid (bld_below HBF4.out hb5)
    have HB5 : Hid (Below w0.heap.size w0 w5) := Lib.hid (HB4.out.trans (hb5.mono HB4.out.size))
    have hgb : g ≠ w2.heap.size := by omega
    clear hv hb5 q0 q1 q2 q3 q4 q5 q6 HBF4 HB4 HV HCK HH HCC HCW hbl4 hg
    go_wp2_with fail
    go_loopw [9, 28] (fun _ i wr => ∃ j : Nat, j ≤ 6 ∧ i = .int .i64 j ∧ Hid (Lib.IsBuilder TB TU w0.heap.size w2.heap.size (Lib.byteCells (putN c.k ++ putF c (six.take j))) wr) ∧ Hid (wr.heap[g]? = some (.cells (vCells c) TV (0, 0))) ∧ Hid (Below w0.heap.size w0 wr)) (fun _ i _ => 6 - (intOf i).toNat)
    case atStart => exact ⟨0, by omega, rfl, HBF5, HV5, HB5⟩
    case round =>
      clear HBF5 HV5 HB5
      obtain ⟨j, hj, rfl, HBJ, HVJ, HJ⟩ := hrel
      by_cases hlt : j < 6
      · obtain ⟨e0, e1, e2⟩ := val_at HVJ.out hlt
        have HAJ := HAN.out j hlt
        have HPJ := Lib.hid (HPF.out j hlt)
        have HTJ := HTL.out j hj
        have HGJ := HGO.out j
        have hpn : (pw j != 0) = true := by have := pw_ne j; simpa using this
        have hj0 : (0 : Int) ≤ (j : Int) := by omega
        have hjb : (j : Int) < 6 := by omega
        have HBA : Hid (Below wr.heap.size wr (wr.alloc (.cells #[.int .i64 (pw j), .int .i64 (c.get j), .func (.func (fnOf j)) #[] #[]] TV))) := Lib.hid ((Below.refl _ _).alloc (Nat.le_refl _) _)
        have HBJ2 := Lib.hid (bld_below HBJ.out HBA.out)
        have HVJ2 := Lib.hid (heap_kept HVJ.out HBA.out)
        have HJ2 : Hid (Below w0.heap.size w0 (wr.alloc (.cells #[.int .i64 (pw j), .int .i64 (c.get j), .func (.func (fnOf j)) #[] #[]] TV))) := Lib.hid (HJ.out.trans (HBA.out.mono HJ.out.size))
        have HPG := Lib.hid (fun W => put_any (c.get j) W HGJ)
        have hpl := putN_len HGJ
        generalize pw j = pj at *
        generalize c.get j = gj at *
        generalize fnOf j = fj at *
        generalize hys : putF c (six.take j) = ys at *
        cases hhb : hasB c.k j with
        | true =>
          rw [hhb, if_pos rfl] at HAJ
          rw [hhb, if_pos rfl] at HPJ
          go_wp2_with (go_at_call 28; refine (HPG.out _).mono ?_)
          rintro e w6 ⟨rfl, hb6⟩
          have HBJ6 := Lib.hid (bld_below HBJ2.out hb6)
          have HVJ6 := Lib.hid (heap_kept HVJ2.out hb6)
          have HJ6 : Hid (Below w0.heap.size w0 w6) := Lib.hid (HJ2.out.trans (hb6.mono HJ2.out.size))
          clear hb6
          have HWR := Lib.hid (write_any w0.heap.size w2.heap.size _ (bs (putN gj)) w6 HBJ6.out (by rw [bs_size, Lib.byteCells_length]; omega) HJ6.out.size)
          go_wp2_with (go_at_call 38; refine HWR.out.mono ?_)
          rintro e w7 ⟨rfl, hbd7, hb7, ho7⟩
          have HBJ7 : Hid (Lib.IsBuilder TB TU w0.heap.size w2.heap.size (Lib.byteCells (putN c.k ++ putF c (six.take (j + 1)))) w7) := Lib.hid (by
            rw [HPJ.out, ← List.append_assoc, bytes_append, ← strCells_mk (putN gj)]
            exact hbd7)
          have HVJ7 : Hid (w7.heap[g]? = some (.cells (vCells c) TV (0, 0))) := Lib.hid (ho7 g _ HVJ6.out (fun e => hgb (by injection e)) (fun cs fz => tv_tu _ cs fz))
          have HJ7 : Hid (Below w0.heap.size w0 w7) := Lib.hid (HJ6.out.trans hb7)
          clear hbd7 hb7 ho7 HWR
          go_wp2_with fail
          go_roundw
          case rel => exact ⟨j + 1, by omega, by go_num, HBJ7, HVJ7, HJ7⟩
          case measure => simp [intOf]; omega
        | false =>
          rw [hhb] at HAJ HPJ
          have hand : bits .and .i64 bk pj = 0 := HAJ
          have HPJ2 : Hid (putF c (six.take (j + 1)) = ys) := Lib.hid (by rw [HPJ.out]; simp)
          clear HAJ HPJ
          go_wp2_with fail
          go_roundw
          case rel => exact ⟨j + 1, by omega, by go_num, by rw [HPJ2.out]; exact HBJ2, HVJ2, HJ2⟩
          case measure => simp [intOf]; omega
      · obtain rfl : j = 6 := by omega
        have hb := HBJ.out
        rw [← HPC.out] at hb
        have HST := Lib.hid (Tryz.Builder_String_any w0.heap.size w2.heap.size _ wr hb HJ.out.size)
        clear hb
        go_wp2_with (go_at_call 39; refine HST.out.mono ?_)
        rintro e w8 ⟨rfl, hb8⟩
        have HJ8 : Hid (Below w0.heap.size w0 w8) := Lib.hid (HJ.out.trans hb8)
        clear hb8 HST
        go_wp2_with fail
        go_ret2
        exact ⟨rfl, HW0.out.trans (HJ8.out.mono HW0.out.size)⟩
end Go.Proofs.YtmplokdbbhlomaaGreatDoor
