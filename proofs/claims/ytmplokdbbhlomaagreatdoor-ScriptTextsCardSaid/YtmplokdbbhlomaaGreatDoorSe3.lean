/-
  What script.lines and its iterator come to, over this seat's translation: contracts for callers.
-/
import Derived.Test.YtmplokdbbhlomaaGreatDoorTxL
import Derived.Test.YtmplokdbbhlomaaGreatDoorSdB
import Derived.Test.YtmplokdbbhlomaaGreatDoorRngT
import Derived.TacticsIn
import Derived.RegionIn
namespace Go.Proofs.YtmplokdbbhlomaaGreatDoor
open Go.RowKit Go.Shelf
attribute [local go_sem] Oper.semAt_some

set_option maxHeartbeats 400000 in
theorem lines_any (t : List UInt8) (w : World) : Calls Tryz.prog 42 #[.string (bs t)] w fun e w' => e = .returned (.func (.func 67) #[] #[.pointer (some ⟨w.heap.size, 0, none⟩)]) ∧ w' = w.alloc (.cells #[.string (bs t)] 9) := by
  go_enter Tryz.func42, Tryz.ntmps42
  go_wp2_with fail
  go_ret
  exact ⟨rfl, rfl⟩
/-- What a round keeps for the iterator: its text's block, and the variable that strings.Cut reads. -/
structure KpT (tb : Nat) (A B : World) : Prop where
  size : A.heap.size ≤ B.heap.size
  tb : B.heap[tb]? = A.heap[tb]?
  mx : B.heap[1]? = A.heap[1]?
theorem kpT_t {tb : Nat} {A B C : World} (h : KpT tb A B) (k : KpT tb B C) : KpT tb A C := ⟨Nat.le_trans h.size k.size, k.tb.trans h.tb, k.mx.trans h.mx⟩
theorem kpT_b {tb B : Nat} (h1 : tb < B) (h2 : 1 < B) (W : World) (l : Nat) (o o' : Obj) (hl : B ≤ l) (_ : W.heap[l]? = some o) (_ : o.isCells = false) (_ : o.isWalk = false) : KpT tb W (W.putObj l o') :=
  ⟨by simp [World.putObj], World.putObj_heap_other (by omega), World.putObj_heap_other (by omega)⟩
def encT (x : Int × List UInt8) : Array Value := #[.int .i64 x.1, .string (bs x.2)]
theorem bs_inj {a b : List UInt8} (h : bs a = bs b) : a = b := by
  have := congrArg (fun s : ByteArray => s.data.toList) h
  simpa using this
/-- The cell of the text, in whatever world. -/
structure TbAt (tb : Nat) (t : List UInt8) (W : World) : Prop where
  c : W.cell? ⟨tb, 0, none⟩ = some (.string (bs t))
  f : W.frozen? ⟨tb, 0, none⟩ = false
  m : ∃ m, W.cell? ⟨1, 0, none⟩ = some (.int .i64 m)
theorem TbAt.keep {tb : Nat} {t : List UInt8} {A B : World} (h : TbAt tb t A) (k : KpT tb A B) : TbAt tb t B := by
  obtain ⟨m, hm⟩ := h.m
  refine ⟨(World.cell?_of_block (a := ⟨tb, 0, none⟩) k.tb).trans h.c, ?_, m, (World.cell?_of_block (a := ⟨1, 0, none⟩) k.mx).trans hm⟩
  have : B.frozen? ⟨tb, 0, none⟩ = A.frozen? ⟨tb, 0, none⟩ := by unfold World.frozen?; rw [k.tb]
  rw [this]
  exact h.f
theorem TbAt.set {tb : Nat} {t : List UInt8} {A : World} (h : TbAt tb t A) (hne : tb ≠ 1) (t2 : List UInt8) : TbAt tb t2 (A.setCell ⟨tb, 0, none⟩ (.string (bs t2))) := by
  obtain ⟨m, hm⟩ := h.m
  exact ⟨World.cell?_setCell_same' _ _ _ (by rw [h.c]; rfl), by rw [World.frozen?_setCell]; exact h.f, m, (World.cell?_setCell_other _ _ _ _ (fun e => hne (by injection e))).trans hm⟩
set_option maxRecDepth 100000 in
set_option maxHeartbeats 3200000 in
theorem lines_hands (n : Nat) (hn : 3 ≤ n) (tb : Nat) (t : List UInt8) (w : World) (hT : TbAt tb t w) (hne : tb ≠ 1) (he : ended t = true) (hl : t.length ≤ 100000) (htb : tb < w.heap.size) (hmx : 1 < w.heap.size) :
    HandsT Fence.wide n Tryz.prog 67 #[.pointer (some ⟨tb, 0, none⟩)] encT (KpT tb) tb (numb 1 (lnsT t)) w := by
  intro l J Jx W hW hJ hJx hY h0
  have HT := Lib.hid (hT.keep ⟨hW.size, hW.block tb htb, hW.block _ hmx⟩)
  have HJ := Lib.hid hJ
  have HY := Lib.hid hY
  have HE := Lib.hid he
  have H0 := Lib.hid h0
  have HNM := Lib.hid hne
  have hll : (lnsT t).length ≤ t.length := by rw [lnsT_length]; exact List.count_le_length
  clear hT hJ hJx hY he h0 hne hW
  generalize hYS : numb 1 (lnsT t) = ys at *
  have HYL : Hid (ys.length ≤ t.length) := Lib.hid (by rw [← hYS, numb_len]; exact hll)
  have HN0 : Hid (ys = [] ++ numb (([] : List (Int × List UInt8)).length + 1) (lnsT t)) := Lib.hid hYS.symm
  clear hYS hll
  refine callsIn_of_wp Tryz.func67 rfl trivial ?_ rfl
  simp only [Tryz.ntmps67, List.size_toArray, List.length_cons, List.length_nil, Nat.reduceAdd, Nat.reduceSub, Array.replicate_succ, Array.replicate_zero, List.push_toArray, List.append_toArray, List.nil_append, List.cons_append]
  gi_wp2
  gi_loopw [3, 4, 5, 6] (fun i _ _ _ wr => ∃ (pre : List (Int × List UInt8)) (r : List UInt8), i = .int .i64 ((pre.length : Int) + 1) ∧ pre.length ≤ t.length ∧ r.length ≤ 100000 ∧ Hid (ys = pre ++ numb (pre.length + 1) (lnsT r)) ∧ Hid (ended r = true) ∧ Hid (J pre wr) ∧ Hid (TbAt tb r wr)) (fun i _ _ _ _ => t.length + 2 - (intOf i).toNat)
  case atStart => exact ⟨[], t, rfl, by simp, hl, HN0, HE, H0, HT⟩
  case round =>
    clear HN0 HE H0 HT
    obtain ⟨pre, r, rfl, hpl, hrl, HN, HE, HJP, HT⟩ := hrel
    have c0 := HT.out.c
    have hf := HT.out.f
    have hsr := bs_size r
    by_cases hr : r = []
    · subst hr
      have HYP : Hid (ys = pre) := Lib.hid (by rw [HN.out]; simp [lnsT, splitL, numb])
      gi_wp2
      go_end0
      exact ⟨⟨_, rfl⟩, .inl (by rw [HYP.out]; exact HJP.out)⟩
    · have hbn : r.isEmpty = false := by simpa using hr
      obtain ⟨v, q, hrv, hv, hq⟩ := ended_cut HE.out hr
      have HCT : Hid (Lib.cut r [10] = (v, q, true)) := Lib.hid (by rw [hrv]; exact cut_ten q hv)
      have HN2 : Hid (ys = (pre ++ [((pre.length : Int) + 1, v)]) ++ numb (pre.length + 1 + 1) (lnsT q)) := Lib.hid (by
        rw [HN.out, hrv, lnsT_line q hv, numb, List.append_assoc]
        rfl)
      have hql : q.length ≤ 100000 := by rw [hrv, List.length_append, List.length_cons] at hrl; omega
      have hyl := HYL.out
      rw [HN2.out, List.length_append, List.length_append, List.length_singleton] at hyl
      obtain ⟨m, hm⟩ := HT.out.m
      have HCU := Lib.hid (Tryz.strings_Cut (bs r) (bs [10]) m wr (by omega) hm)
      have hcd : (bs r).data.toList = r := rfl
      have hcd2 : (bs [10]).data.toList = [10] := rfl
      rw [hcd, hcd2, HCT.out] at HCU
      have HCU : Hid (Calls Tryz.prog 68 #[.string (bs r), .string (bs [10])] wr fun e w' => e = .returned (.tuple #[.string (bs v), .string (bs q), .bool true]) ∧ ∃ n, w' = wr.drewN n) := HCU
      have HQ := Lib.hid hq
      clear hrv hv hq hcd hcd2 HCT HN hm
      gi_wp2
      refine ⟨trivial, fun _ => by omega, ?_⟩
      refine (callsIn_wide.2 HCU.out).mono ?_
      rintro e w2 ⟨rfl, k, rfl⟩
      have hdr : wr.grownBy (wr.drewN k) (some tb) := ⟨rfl, rfl, rfl, Nat.le_refl _, fun _ _ _ => rfl⟩
      have HJ2 : Hid (J pre (wr.drewN k)) := Lib.hid (HJ.out _ _ _ HJP.out hdr)
      have HT2 : Hid (TbAt tb r (wr.drewN k)) := Lib.hid (HT.out.keep ⟨Nat.le_refl _, rfl, rfl⟩)
      clear hdr HJP HT HCU c0 hf
      generalize wr.drewN k = w3 at *
      obtain ⟨fn, tmps, assign, body, hy, hR⟩ := HY.out pre ((pre.length : Int) + 1, v) w3 HJ2.out (by rw [HN2.out]; exact List.prefix_append _ _)
      unfold encT at hy
      simp only at hy
      gi_wp2
      refine ⟨fun _ => by omega, ?_⟩
      refine hR.mono ?_
      rintro e w4 (⟨rfl, hj4, hk4⟩ | ⟨rfl, hj4⟩)
      · have HT4 := Lib.hid (HT2.out.keep hk4)
        have HJ4 := Lib.hid hj4
        have c4 := HT4.out.c
        have f4 := HT4.out.f
        have HJ5 : Hid (J (pre ++ [((pre.length : Int) + 1, v)]) (w4.setCell ⟨tb, 0, none⟩ (.string (bs q)))) := Lib.hid (HJ.out _ _ _ HJ4.out (grown_setS _ _ _ _))
        have HT5 := Lib.hid (HT4.out.set HNM.out q)
        clear hj4 hk4
        gi_wp2
        go_roundw
        case rel => exact ⟨pre ++ [((pre.length : Int) + 1, v)], q, by rw [List.length_append, List.length_singleton]; go_num, by rw [List.length_append, List.length_singleton]; omega, hql, by rw [List.length_append, List.length_singleton]; exact HN2, HQ, HJ5, HT5⟩
        case measure => simp [intOf]; omega
      · gi_wp2
        refine bodyPost_ret (results_none rfl _ _ _) rfl ?_
        exact ⟨⟨_, rfl⟩, .inr ⟨_, by rw [HN2.out]; exact List.prefix_append _ _, hj4⟩⟩
end Go.Proofs.YtmplokdbbhlomaaGreatDoor
