/-
  What complineref33.Same comes to, over this seat's translation: a contract for callers.
-/
import Derived.Test.YtmplokdbbhlomaaDoorSr10
namespace Go.Proofs.YtmplokdbbhlomaaDoor
open Go.RowKit

instance : DecidableEq St := fun a b => by
  cases a; cases b
  simp only [St.mk.injEq]
  exact inferInstance
set_option maxHeartbeats 3200000 in
theorem eqS_run (a b : St) (w : World) : (Op.equalIn 10000 TSt (stV a) (stV b)).run Tryd.prog w = .ok (decide (a = b)) w := by
  obtain ⟨a7, ⟨a0, a1, a2, a3, a4, a5, a6⟩, a8⟩ := a
  obtain ⟨b7, ⟨b0, b1, b2, b3, b4, b5, b6⟩, b8⟩ := b
  unfold stV stCells
  have hd : decide (St.mk a7 (Cm.mk a0 a1 a2 a3 a4 a5 a6) a8 = St.mk b7 (Cm.mk b0 b1 b2 b3 b4 b5 b6) b8) = (a7 == b7 && ((a0 == b0 && (a1 == b1 && (a2 == b2 && (a3 == b3 && (a4 == b4 && (a5 == b5 && a6 == b6)))))) && a8 == b8)) := by
    by_cases h : St.mk a7 (Cm.mk a0 a1 a2 a3 a4 a5 a6) a8 = St.mk b7 (Cm.mk b0 b1 b2 b3 b4 b5 b6) b8
    · rw [decide_eq_true h]
      simp only [St.mk.injEq, Cm.mk.injEq] at h
      obtain ⟨rfl, ⟨rfl, rfl, rfl, rfl, rfl, rfl, rfl⟩, rfl⟩ := h
      simp
    · rw [decide_eq_false h]
      simp only [St.mk.injEq, Cm.mk.injEq] at h
      symm
      apply Bool.eq_false_iff.2
      intro h2
      simp at h2
      exact h ⟨h2.1, h2.2.1, h2.2.2⟩
  rw [hd]
  go_simp
  repeat' split
  all_goals simp [*]
theorem neqS_run (x y : St) (w : World) : (binOp .neq TSt (.agg #[.int .i64 x.k, .int .i64 x.c.k, .int .i64 x.c.i, .int .i64 x.c.m, .int .i64 x.c.o, .int .i64 x.c.s, .int .i64 x.c.q, .int .i64 x.c.p, .int .i64 x.n]) (.agg #[.int .i64 y.k, .int .i64 y.c.k, .int .i64 y.c.i, .int .i64 y.c.m, .int .i64 y.c.o, .int .i64 y.c.s, .int .i64 y.c.q, .int .i64 y.c.p, .int .i64 y.n])).run Tryd.prog w = .ok (.bool (!decide (x = y))) w := by
  rw [run_neq_struct]
  have h := eqS_run x y w
  unfold stV stCells at h
  rw [h]
  rfl
theorem take_same {a b : List St} {k : Nat} (ha : k < a.length) (hb : k < b.length) (h : a.take k = b.take k) (he : a[k] = b[k]) : a.take (k + 1) = b.take (k + 1) := by
  rw [List.take_succ_eq_append_getElem ha, List.take_succ_eq_append_getElem hb, h, he]
set_option maxRecDepth 100000 in
set_option maxHeartbeats 3200000 in
theorem rsame_any (a b : List St) (A B : Option Addr) (ca cb : Nat) (w : World) (ha : Seg w w.heap.size A (stRows a)) (hb : Seg w w.heap.size B (stRows b)) (hla : a.length ≤ 1000000) (hlb : b.length ≤ 1000000) : Calls Tryd.prog 11 #[.slice A a.length ca, .slice B b.length cb] w fun e w' => e = .returned (.bool (decide (a = b))) ∧ Below w.heap.size w w' := by
  have HA := Lib.hid ha
  have HBB := Lib.hid hb
  clear ha hb
  obtain ⟨R, HR⟩ : ∃ R, Hid (R = decide (a = b)) := ⟨_, Lib.hid rfl⟩
  rw [← HR.out]
  by_cases hl : a.length = b.length
  case neg =>
    have hne : ((a.length : Int) != (b.length : Int)) = true := by rw [bne_iff_ne]; omega
    have HE : Hid (R = false) := Lib.hid (by rw [HR.out]; exact decide_eq_false (fun h => hl (by rw [h])))
    clear hl
    go_enter Tryd.func11, Tryd.ntmps11
    go_wp2_with fail
    go_ret
    exact ⟨by rw [HE.out]; rfl, Below.refl _ _⟩
  have hne : ((a.length : Int) != (b.length : Int)) = false := by simp [hl]
  have HL := Lib.hid hl
  have hl1 : a.length ≤ b.length := by omega
  have hl2 : b.length ≤ a.length := by omega
  clear hl
  go_enter Tryd.func11, Tryd.ntmps11
  go_wp2_with fail
  go_loopw [5] (fun i wr => ∃ k : Nat, k ≤ a.length ∧ i = .int .i64 k ∧ Hid (a.take k = b.take k) ∧ Hid (Below w.heap.size w wr)) (fun i _ => a.length - (intOf i).toNat)
  case atStart => exact ⟨0, Nat.zero_le _, rfl, rfl, Below.refl _ _⟩
  case round =>
    obtain ⟨k, hk, rfl, HT, HB⟩ := hrel
    by_cases hlt : k < a.length
    · have hltb : k < b.length := by omega
      obtain ⟨b1, o1, rfl, hb1, e0, e1, e2, e3, e4, e5, e6, e7, e8⟩ := st_at (HA.out.below HB.out) hlt
      obtain ⟨b2, o2, rfl, hb2, f0, f1, f2, f3, f4, f5, f6, f7, f8⟩ := st_at (HBB.out.below HB.out) hltb
      have HTS := Lib.hid (take_same hlt hltb HT.out)
      have HNO : Hid (a[k] ≠ b[k] → R = false) := Lib.hid fun h => by rw [HR.out]; exact decide_eq_false (fun he => h (by subst he; rfl))
      have hrun := neqS_run a[k] b[k]
      generalize a[k] = x at *
      generalize b[k] = y at *
      have hk0 : (0 : Int) ≤ (k : Int) := by omega
      have hkb : (k : Int) < (a.length : Int) := by omega
      have hkc : (k : Int) < (b.length : Int) := by omega
      by_cases hxy : x = y
      · have hd : decide (x = y) = true := decide_eq_true hxy
        have HT2 := Lib.hid (HTS.out hxy)
        rw [hd] at hrun
        clear hxy HTS HNO hd
        go_wp2_with fail
        go_quiet (fail)
        have HBD : Hid (∀ n, Below w.heap.size w (wr.drewN n)) := Lib.hid fun n => below_drewN HB.out n
        go_wp2_with fail
        go_roundw
        case rel => exact ⟨k + 1, by omega, by go_num, HT2, HBD.out _⟩
        case measure => simp [intOf]; omega
      · have hd : decide (x = y) = false := decide_eq_false hxy
        have HE : Hid (R = false) := Lib.hid (HNO.out hxy)
        rw [hd] at hrun
        clear hxy HTS HNO hd
        go_wp2_with fail
        go_quiet (fail)
        have HBD : Hid (∀ n, Below w.heap.size w (wr.drewN n)) := Lib.hid fun n => below_drewN HB.out n
        go_wp2_with fail
        go_ret
        exact ⟨by rw [HE.out]; rfl, HBD.out _⟩
    · obtain rfl : k = a.length := by omega
      have HE : Hid (R = true) := Lib.hid (by
        have h := HT.out
        rw [List.take_length, List.take_of_length_le hl2] at h
        rw [HR.out]
        exact decide_eq_true h)
      go_wp2_with fail
      go_ret
      exact ⟨by rw [HE.out]; rfl, HB.out⟩
end Go.Proofs.YtmplokdbbhlomaaDoor
