/-
  What the method Lacking of oblig.Sheet comes to, over this seat's translation: a contract for callers.
-/
import Derived.Test.YtkjkkcaiddeggaaObSheet6
import Derived.Test.YtkjkkcaiddeggaaShelf
import Derived.Sort.OwnSortedInts
namespace Go.Proofs.Ytkjkkcaiddeggaa
open Go.RowKit Go.Sort

set_option maxHeartbeats 400000 in
theorem nil_lacking (w : World) : Calls Try.prog 22 #[.pointer none] w fun e w' => e = .returned (.slice none 0 0) ∧ Below w.heap.size w w' := by
  go_enter Try.func22, Try.ntmps22
  go_wp2_with fail
  refine (nil_debts _).mono ?_
  rintro e w1 ⟨rfl, hb1⟩
  have HB1 := Lib.hid hb1
  clear hb1
  go_wp2_with fail
  refine wp_loop_rounds 1 ?_
  rw [rounds_succ]
  go_wp2_with fail
  refine (Try.slices_Sort_int_none none 0 _).mono ?_
  rintro e w2 ⟨rfl, rfl⟩
  go_wp2_with fail
  refine (Try.slices_Compact_int_empty none 0 _).mono ?_
  rintro e w3 ⟨rfl, rfl⟩
  go_wp2_with fail
  go_ret
  exact ⟨rfl, HB1.out⟩

/-- A slice of numbers of one's own has come back. -/
def GotInts (w : World) (zs : List Int) (e : Ending) (w' : World) : Prop := ∃ v, e = .returned v ∧ w'.ownsRow w.heap.size 3 1 v zs.length (zs.map (Value.int .i64)) ∧ Below w.heap.size w w'
theorem own_take {w : World} {base g cap n k : Nat} {e : TypeId} {xs : List Value} (h : w.ownsRow base e 1 (.slice (some ⟨g, 0, none⟩) n cap) n xs) (hk : k ≤ n) : w.ownsRow base e 1 (.slice (some ⟨g, 0, none⟩) k cap) k (xs.take k) := by
  have hl : xs.length = n := by simpa using h.1
  rcases h.2 with ⟨h0, _⟩ | ⟨g', cap', cur, hv, hg, hh, hnc, hcm, hcs, htk⟩
  · cases h0
  · injection hv with e1 e2 e3
    injection e1 with e1
    injection e1 with e1 _
    subst e1 e3
    refine ⟨by simp; omega, Or.inr ⟨g, cap, cur, rfl, hg, hh, by omega, hcm, hcs, ?_⟩⟩
    rw [← htk, List.take_take]
    congr 1
    omega
theorem int_info : (Try.prog.info? 3).map (fun i => (i.zero, i.size, i.bytes)) = some (some (.int .i64 0), 1, 8) := by kernel_rfl

def lackB (x : Ob) : Bool := decide (x.done < x.net)
def lackL (L : List Ob) : List Int := Lib.compact ((((L.filter fun x => x.st == 1 && decide (0 < x.net)).filter lackB).map (·.m)).mergeSort fun x y => decide (x ≤ y))
theorem compact_len (zs : List Int) : (Lib.compact zs).length ≤ zs.length := by
  unfold Lib.compact Lib.compactUpTo
  rw [List.length_map]
  have := List.length_filter_le (Lib.keeps zs.toArray) (List.range zs.length)
  simpa using this
theorem compact_nil : Lib.compact ([] : List Int) = [] := rfl

/-- Behind the loop: sorted and each once. -/
theorem sorted_own {w w' : World} {base g cap n : Nat} {os : Array Obj} {zs : List Int} (h : w.ownsRow base 3 1 (.slice (some ⟨g, 0, none⟩) zs.length cap) zs.length (zs.map (Value.int .i64))) {ts : List Int} (hl : ts.length = zs.length) (hw : w' = grow (putRow (Value.int .i64) (Sort.ahead w n) g 0 ts.toArray) os) :
    w'.ownsRow base 3 1 (.slice (some ⟨g, 0, none⟩) zs.length cap) zs.length (ts.map (Value.int .i64)) ∧ w.grownBy w' (some g) := by
  rcases h.2 with ⟨h0, _⟩ | ⟨g', cap', cur, hv, hg, hh, hnc, hcm, hcs, htk⟩
  · cases h0
  · injection hv with e1 e2 e3
    injection e1 with e1
    injection e1 with e1 _
    subst e1 e3 hw
    exact ⟨ownsRow_sortedI hl hg hh hnc hcm hcs, grownBy_sortedI _⟩
theorem own_holds {w : World} {base g cap : Nat} {zs : List Int} (h : w.ownsRow base 3 1 (.slice (some ⟨g, 0, none⟩) zs.length cap) zs.length (zs.map (Value.int .i64))) : Holds (Value.int .i64) w g 0 zs.toArray ∧ g < w.heap.size ∧ zs.length ≤ cap := by
  rcases h.2 with ⟨h0, _⟩ | ⟨g', cap', cur, hv, hg, hh, hnc, hcm, hcs, htk⟩
  · cases h0
  · injection hv with e1 e2 e3
    injection e1 with e1
    injection e1 with e1 _
    subst e1 e3
    exact ⟨holds_of_blockI hh (by simpa using htk), (Array.getElem?_eq_some_iff.1 hh).1, hnc⟩

set_option maxRecDepth 100000 in
set_option maxHeartbeats 1600000 in
theorem lacking_any (L : List Ob) (v : Value) (bs base : Nat) (w : World) (h : ShAt w bs base v L) (hl : L.length ≤ 1000000) :
    Calls Try.prog 22 #[.pointer (some ⟨bs, 0, none⟩)] w (GotInts w (lackL L)) := by
  have HH := Lib.hid h
  obtain ⟨i0, hi0, hz0, hz1', hz2⟩ := info_parts int_info
  have hLL : lackL L = Lib.compact ((((L.filter fun x => x.st == 1 && decide (0 < x.net)).filter lackB).map (·.m)).mergeSort fun x y => decide (x ≤ y)) := rfl
  have HLL := Lib.hid hLL
  clear h hLL
  have hDl : (L.filter fun x => x.st == 1 && decide (0 < x.net)).length ≤ L.length := List.length_filter_le _ _
  go_enter Try.func22, Try.ntmps22
  go_wp2_with fail
  refine (debts_any L v bs base _ HH.out hl).mono ?_
  rintro e w1 ⟨v1, rfl, ho1, hb1⟩
  dsimp only at ho1
  generalize (L.filter fun x => x.st == 1 && decide (0 < x.net)) = D at *
  obtain ⟨A1, c1, rfl⟩ := own_form ho1
  have HS := Lib.hid (Seg.of_own ho1)
  have HB1 := Lib.hid hb1
  have hz1 := hb1.size
  clear ho1 hb1
  go_wp2_with fail
  go_loopw [3, 5, 9] (fun u _ i wr => ∃ k : Nat, k ≤ D.length ∧ i = .int .i64 k ∧ Hid (wr.ownsRow w1.heap.size 3 1 u (((D.take k).filter lackB).map (·.m)).length ((((D.take k).filter lackB).map (·.m)).map (Value.int .i64))) ∧ Hid (Below w1.heap.size w1 wr)) (fun _ _ i _ => D.length - (intOf i).toNat)
  case atStart => exact ⟨0, Nat.zero_le _, rfl, ⟨by simp, Or.inl ⟨rfl, rfl⟩⟩, Below.refl _ _⟩
  case round =>
    obtain ⟨k, hk, rfl, HO, HB⟩ := hrel
    have hsz := HB.out.size
    have hfl := filter_len lackB D k
    by_cases hlt : k < D.length
    · obtain ⟨b, o, rfl, hb, d0, d1, d2, d3, d4, d5⟩ := ob_at (HS.out.below HB.out) hlt
      have HF := Lib.hid (filter_snoc lackB hlt)
      by_cases h1 : D[k].done < D[k].net
      · have hF : ((D.take (k + 1)).filter lackB).map (·.m) = ((D.take k).filter lackB).map (·.m) ++ [D[k].m] := by rw [HF.out, show lackB D[k] = true from by unfold lackB; simpa using h1]; simp
        have HF1 := Lib.hid hF
        have hyl : (((D.take k).filter lackB).map (·.m)).length ≤ k := by simpa using hfl
        clear hF
        generalize ((D.take k).filter lackB).map (·.m) = ys at *
        go_wp2_with (at_builtin; refine wpList_append_own _ rfl _ _ 47 rfl w1.heap.size 3 i0 _ 1 8 Try.underlying47 hi0 hz0 hz1' hz2 rfl (by decide) _ ys.length (ys.map (Value.int .i64)) rfl ((HO.out.alloc _).alloc _) ⟨wr.heap.size + 1, 0, none⟩ 1 1 [.int .i64 D[k].m] rfl rfl ?c1 one_int ?c3 ?c4 ?c5 ?_)
        case c1 => exact new_cells _ _ #[_] (by simp)
        case c3 => simp only [maxLen]; omega
        case c4 => omega
        case c5 => simp; omega
        intro v' w4 hown1 hgrow1 _
        have HO4 : Hid (w4.ownsRow w1.heap.size 3 1 v' (((D.take (k + 1)).filter lackB).map (·.m)).length ((((D.take (k + 1)).filter lackB).map (·.m)).map (Value.int .i64))) := by
          show World.ownsRow _ _ _ _ _ _ _
          rw [HF1.out, List.map_append, List.length_append, List.length_singleton]
          exact hown1
        have HG4 : Hid (Below w1.heap.size w1 w4) := ((HB.out.alloc hsz _).alloc (by simp; omega) _).grown hgrow1 (by simp; omega) (fun j hj => own_base HO.out j hj)
        clear hown1 hgrow1
        go_wp2_with fail
        go_roundw
        case rel => exact ⟨k + 1, by omega, by go_num, HO4, HG4⟩
        case measure => simp [intOf]; omega
      · have hF : (D.take (k + 1)).filter lackB = (D.take k).filter lackB := by rw [HF.out, show lackB D[k] = false from by unfold lackB; simpa using h1]; simp
        have hO2 := HO.out
        rw [← hF] at hO2
        have HO1 := Lib.hid hO2
        clear hO2 hF
        go_wp2_with fail
        go_roundw
        case rel => exact ⟨k + 1, by omega, by go_num, HO1.out.alloc _, HB.out.alloc hsz _⟩
        case measure => simp [intOf]; omega
    · obtain rfl : k = D.length := by omega
      have hO := HO.out
      rw [List.take_length] at hO
      have hyl : ((D.filter lackB).map (·.m)).length ≤ D.length := by rw [List.length_map]; exact List.length_filter_le _ _
      generalize (D.filter lackB).map (·.m) = ys at *
      have HO2 := Lib.hid hO
      have HBW : Hid (Below w.heap.size w wr) := HB1.out.trans (HB.out.mono hz1)
      rcases hO.2 with ⟨rfl, h0⟩ | ⟨g, cap, cur, rfl, hg, hh, hnc, hcm, hcs, htk⟩
      · have hy : ys = [] := List.eq_nil_of_length_eq_zero h0
        subst hy
        clear hO h0
        go_wp2_with fail
        refine (Try.slices_Sort_int_none none 0 _).mono ?_
        rintro e w2 ⟨rfl, rfl⟩
        go_wp2_with fail
        refine (Try.slices_Compact_int_empty none 0 _).mono ?_
        rintro e w3 ⟨rfl, rfl⟩
        go_wp2_with fail
        go_ret
        refine ⟨_, rfl, ?_, HBW.out⟩
        rw [HLL.out]
        exact ⟨by simp [compact_nil], Or.inl ⟨rfl, by simp [compact_nil]⟩⟩
      · clear hO htk hcs hcm hnc hh hg
        obtain ⟨q1, q2, q3⟩ := own_holds HO2.out
        have HQ1 := Lib.hid q1
        have HQ2 := Lib.hid q2
        have HQ3 := Lib.hid q3
        clear q1 q2 q3
        go_wp2_with fail
        refine (Try.slices_Sort_int g 0 cap ys _ HQ1.out HQ2.out (by omega)).mono ?_
        rintro e w2 ⟨rfl, n2, os2, hw2⟩
        obtain ⟨o2, g2⟩ := sorted_own HO2.out (List.length_mergeSort _) hw2
        have hml : (ys.mergeSort fun x y => decide (x ≤ y)).length = ys.length := List.length_mergeSort _
        clear hw2
        generalize (ys.mergeSort fun x y => decide (x ≤ y)) = ms at *
        rw [← hml] at o2
        obtain ⟨q1, q2, q3⟩ := own_holds o2
        have HO3 := Lib.hid o2
        have HG2 := Lib.hid g2
        have HQ1 := Lib.hid q1
        have HQ3 := Lib.hid q3
        have HML := Lib.hid hml
        have hml' : ms.length ≤ 1000000 := by omega
        clear o2 g2 q1 q2 q3
        rw [← hml]
        clear hml
        go_wp2_with fail
        refine (Try.slices_Compact_int g 0 cap ms _ HQ1.out (by omega) HQ3.out).mono ?_
        rintro e w3 ⟨rfl, n3, hw3⟩
        have hcl := compact_len ms
        have hw4 : w3 = grow (putRow (Value.int .i64) (Sort.ahead w2 n3) g 0 (Lib.compact ms ++ List.replicate (ms.length - (Lib.compact ms).length) 0).toArray) #[] := by rw [hw3, grow_empty]
        obtain ⟨o3, g3⟩ := sorted_own HO3.out (by simp; omega) hw4
        clear hw3 hw4
        have HO4 : Hid (w3.ownsRow w1.heap.size 3 1 (.slice (some ⟨g, 0, none⟩) (Lib.compact ms).length cap) (Lib.compact ms).length ((Lib.compact ms).map (Value.int .i64))) := by
          have := own_take o3 hcl
          rw [List.map_append, List.take_left' (by simp)] at this
          exact this
        have HG3 := Lib.hid g3
        clear o3 g3
        go_wp2_with fail
        go_ret
        have hb2 := HBW.out.grown HG2.out (by omega) (fun j hj => by injection hj with hj; subst hj; have := own_base HO2.out g rfl; omega)
        have hb3 := hb2.grown HG3.out (by have := hb2.size; omega) (fun j hj => by injection hj with hj; subst hj; have := own_base HO2.out g rfl; omega)
        refine ⟨_, rfl, ?_, hb3⟩
        rw [HLL.out]
        exact own_mono HO4.out hz1
end Go.Proofs.Ytkjkkcaiddeggaa
