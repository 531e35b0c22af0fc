/-
  Lists of numbers in memory; what package out's once, Has, Join and complineref28's In, Same, Put come to, over this seat's translation: contracts for callers.
-/
import Derived.Test.YtblplkajgbbkdaaMem
import Derived.Test.YtblplkajgbbkdaaSetLaw
import Derived.Test.YtblplkajgbbkdaaShelf
import Derived.Sort.OwnSortedInts
import Derived.Deep.QuietTactic
import Derived.BigQuiet
namespace Go.Proofs.Ytblplkajgbbkdaa
open Go.RowKit Go.Sort

theorem ret_int {k : IntKind} {a b : Int} (h : a = b) : Ending.returned (.int k a) = .returned (.int k b) := by rw [h]
theorem ret_bool {a b : Bool} (h : a = b) : Ending.returned (.bool a) = .returned (.bool b) := by rw [h]
theorem int_at {w : World} {B : Nat} {A : Option Addr} {zs : List Int} (h : Seg w B A (zs.map (Value.int .i64))) {k : Nat} (hk : k < zs.length) : ∃ b o, A = some ⟨b, o, none⟩ ∧ b < B ∧ w.cell? ⟨b, o + k, none⟩ = some (.int .i64 zs[k]) := by
  obtain ⟨b, o, e, hb, hc⟩ := h.at (k := k) (by simpa using hk)
  rw [List.getElem_map] at hc
  exact ⟨b, o, e, hb, hc⟩
theorem seg_cells {w : World} {B b o : Nat} {zs : List Int} (h : Seg w B (some ⟨b, o, none⟩) (zs.map (Value.int .i64))) : ∀ j, j < zs.length → w.cell? ⟨b, o + j, none⟩ = some (.int .i64 (zs.getD j 0)) := fun j hj => by
  obtain ⟨b', o', e, _, hc⟩ := int_at h hj
  injection e with e
  injection e with e1 e2
  subst e1 e2
  rw [hc]
  simp [hj]
theorem int_info : (Try.prog.info? 3).map (fun i => (i.zero, i.size, i.bytes)) = some (some (.int .i64 0), 1, 8) := by kernel_rfl
theorem contains_snoc (m : Int) {l : List Int} {k : Nat} (hk : k < l.length) : (l.take (k + 1)).contains m = ((l.take k).contains m || l[k] == m) := by
  rw [List.take_succ_eq_append_getElem hk]
  rw [Bool.eq_iff_iff]
  simp only [List.contains_iff_mem, List.mem_append, List.mem_singleton, Bool.or_eq_true, beq_iff_eq]
  constructor
  · rintro (h | h)
    · exact .inl h
    · exact .inr h.symm
  · rintro (h | h)
    · exact .inl h
    · exact .inr h.symm
theorem any_snoc {α : Type} (p : α → Bool) {l : List α} {k : Nat} (hk : k < l.length) : (l.take (k + 1)).any p = ((l.take k).any p || p l[k]) := by
  rw [List.take_succ_eq_append_getElem hk, List.any_append]; simp
theorem filter_snoc {α : Type} (p : α → Bool) {l : List α} {k : Nat} (hk : k < l.length) : (l.take (k + 1)).filter p = (l.take k).filter p ++ (if p l[k] then [l[k]] else []) := by
  rw [List.take_succ_eq_append_getElem hk, List.filter_append]
  by_cases h : p l[k] <;> simp [h]
theorem filter_len {α : Type} (p : α → Bool) (l : List α) (k : Nat) : ((l.take k).filter p).length ≤ k := by
  have h1 := List.length_filter_le p (l.take k)
  have h2 := List.length_take_le k l
  omega
/-- Is a number there? -/
def hasB (zs : List Int) (m : Int) : Bool := zs.contains m
/-- A slice of numbers has come back. -/
def GotSeg (w : World) (zs : List Int) (e : Ending) (w' : World) : Prop := ∃ A c, e = .returned (.slice A zs.length c) ∧ Seg w' w'.heap.size A (zs.map (Value.int .i64)) ∧ Below w.heap.size w w'
theorem own_mono {w : World} {base base' : Nat} {e : TypeId} {size n : Nat} {v : Value} {xs : List Value} (h : w.ownsRow base e size v n xs) (hb : base' ≤ base) : w.ownsRow base' e size v n xs := by
  rcases h.2 with ⟨rfl, rfl⟩ | ⟨g, cap, cur, rfl, hg, hh, hnc, hcm, hcs, htk⟩
  · exact ⟨h.1, Or.inl ⟨rfl, rfl⟩⟩
  · exact ⟨h.1, Or.inr ⟨g, cap, cur, rfl, Nat.le_trans hb hg, hh, hnc, hcm, hcs, htk⟩⟩
theorem own_take {w : World} {base g cap n k : Nat} {e : TypeId} {xs : List Value} (h : w.ownsRow base e 1 (.slice (some ⟨g, 0, none⟩) n cap) n xs) (hk : k ≤ n) : w.ownsRow base e 1 (.slice (some ⟨g, 0, none⟩) k cap) k (xs.take k) := by
  have hl : xs.length = n := by simpa using h.1
  rcases h.2 with ⟨h0, _⟩ | ⟨g', cap', cur, hv, hg, hh, hnc, hcm, hcs, htk⟩
  · cases h0
  · injection hv with e1 e2 e3
    injection e1 with e1
    injection e1 with e1 _
    subst e1 e3
    refine ⟨by simp; omega, Or.inr ⟨g, cap, cur, rfl, hg, hh, by omega, hcm, hcs, ?_⟩⟩
    rw [← htk, List.take_take]
    congr 1
    omega
/-- Behind the loop: sorted and each once. -/
theorem sorted_own {w w' : World} {base g cap n : Nat} {os : Array Obj} {zs : List Int} (h : w.ownsRow base 3 1 (.slice (some ⟨g, 0, none⟩) zs.length cap) zs.length (zs.map (Value.int .i64))) {ts : List Int} (hl : ts.length = zs.length) (hw : w' = grow (putRow (Value.int .i64) (Sort.ahead w n) g 0 ts.toArray) os) :
    w'.ownsRow base 3 1 (.slice (some ⟨g, 0, none⟩) zs.length cap) zs.length (ts.map (Value.int .i64)) ∧ w.grownBy w' (some g) := by
  rcases h.2 with ⟨h0, _⟩ | ⟨g', cap', cur, hv, hg, hh, hnc, hcm, hcs, htk⟩
  · cases h0
  · injection hv with e1 e2 e3
    injection e1 with e1
    injection e1 with e1 _
    subst e1 e3 hw
    exact ⟨ownsRow_sortedI hl hg hh hnc hcm hcs, grownBy_sortedI _⟩
theorem own_holds {w : World} {base g cap : Nat} {zs : List Int} (h : w.ownsRow base 3 1 (.slice (some ⟨g, 0, none⟩) zs.length cap) zs.length (zs.map (Value.int .i64))) : Holds (Value.int .i64) w g 0 zs.toArray ∧ g < w.heap.size ∧ zs.length ≤ cap := by
  rcases h.2 with ⟨h0, _⟩ | ⟨g', cap', cur, hv, hg, hh, hnc, hcm, hcs, htk⟩
  · cases h0
  · injection hv with e1 e2 e3
    injection e1 with e1
    injection e1 with e1 _
    subst e1 e3
    exact ⟨holds_of_blockI hh (by simpa using htk), (Array.getElem?_eq_some_iff.1 hh).1, hnc⟩


set_option maxHeartbeats 400000 in
theorem in_any (zs : List Int) (A : Option Addr) (c : Nat) (m : Int) (w : World) (h : Seg w w.heap.size A (zs.map (Value.int .i64))) (hl : zs.length ≤ 1000000) :
    Calls Try.prog 40 #[.slice A zs.length c, .int .i64 m] w fun e w' => e = .returned (.bool (hasB zs m)) ∧ w = w' := by
  have HS := Lib.hid h
  clear h
  go_enter Try.func40, Try.ntmps40
  go_wp2_with fail
  go_loop [5] (fun i => ∃ k : Nat, k ≤ zs.length ∧ i = .int .i64 k ∧ Hid ((zs.take k).contains m = false)) (fun i => zs.length - (intOf i).toNat)
  case atStart => exact ⟨0, Nat.zero_le _, rfl, rfl⟩
  case round =>
    obtain ⟨k, hk, rfl, HN⟩ := hrel
    by_cases hlt : k < zs.length
    · obtain ⟨b, o, rfl, hb, d0⟩ := int_at HS.out hlt
      have HA := Lib.hid (contains_snoc m hlt)
      cases hp : (zs[k] == m)
      · have HX : Hid ((zs.take (k + 1)).contains m = false) := by show _ = _; rw [HA.out, HN.out, hp]; rfl
        go_wp2_with fail
        go_round
        case rel => exact ⟨k + 1, by omega, by go_num, HX⟩
        case measure => simp [intOf]; omega
      · have HF : Hid (true = hasB zs m) := by
          show _ = zs.contains m
          symm
          rw [List.contains_iff_mem]
          have e : zs[k] = m := by simpa using hp
          rw [← e]
          exact List.getElem_mem hlt
        go_wp2_with fail
        go_ret
        exact ⟨ret_bool HF.out, rfl⟩
    · obtain rfl : k = zs.length := by omega
      have hN := HN.out
      rw [List.take_length] at hN
      have HF : Hid (hasB zs m = false) := hN
      clear hN
      go_wp2_with fail
      go_ret
      exact ⟨ret_bool HF.out.symm, rfl⟩

set_option maxHeartbeats 400000 in
theorem isame_any (L : List Int) (A B : Option Addr) (c d : Nat) (w : World) (h1 : Seg w w.heap.size A (L.map (Value.int .i64))) (h2 : Seg w w.heap.size B (L.map (Value.int .i64))) (hl : L.length ≤ 1000000) :
    Calls Try.prog 35 #[.slice A L.length c, .slice B L.length d] w fun e w' => e = .returned (.bool true) ∧ Below w.heap.size w w' := by
  have H1 := Lib.hid h1
  have H2 := Lib.hid h2
  clear h1 h2
  go_enter Try.func35, Try.ntmps35
  go_wp2_with fail
  go_loopw [5] (fun i wr => ∃ k : Nat, k ≤ L.length ∧ i = .int .i64 k ∧ Hid (∃ n, w.drewN n = wr)) (fun i _ => L.length - (intOf i).toNat)
  case atStart => exact ⟨0, Nat.zero_le _, rfl, ⟨0, rfl⟩⟩
  case round =>
    obtain ⟨k, hk, rfl, HW⟩ := hrel
    obtain ⟨n, rfl⟩ := HW.out
    by_cases hlt : k < L.length
    · obtain ⟨b, o, rfl, hb, d0⟩ := int_at H1.out hlt
      obtain ⟨b', o', rfl, hb', e0⟩ := int_at H2.out hlt
      have hkb : (k : Int) < (L.length : Int) := by omega
      have hk0 : (0 : Int) ≤ (k : Int) := by omega
      go_wp2_with fail
      go_quiet (fail)
      go_wp2_with fail
      go_roundw
      case rel => exact ⟨k + 1, by omega, by go_num, ⟨n + nq, rfl⟩⟩
      case measure => simp [intOf]; omega
    · go_wp2_with fail
      go_ret
      exact ⟨rfl, below_drewN (Below.refl _ _) n⟩

theorem seg_own {w : World} {base n : Nat} {v : Value} {zs : List Int} (h : w.ownsRow base 3 1 v zs.length (zs.map (Value.int .i64))) (hn : zs.length = n) : ∃ A c, v = .slice A n c ∧ Seg w w.heap.size A (zs.map (Value.int .i64)) := by
  obtain ⟨A, c, rfl⟩ := own_form h
  subst hn
  exact ⟨A, c, rfl, Seg.of_own h⟩
set_option maxRecDepth 100000 in
set_option maxHeartbeats 800000 in
theorem once_own (ys : List Int) (g cap : Nat) (base : Nat) (w0 w : World) (hb0 : base ≤ g) (h : w.ownsRow base 3 1 (.slice (some ⟨g, 0, none⟩) ys.length cap) ys.length (ys.map (Value.int .i64))) (hl : ys.length ≤ 1000000) (hB : Below base w0 w) (hbz : base ≤ w.heap.size) :
    Calls Try.prog 82 #[.slice (some ⟨g, 0, none⟩) ys.length cap] w fun e w2 => e = .returned (.tuple #[]) ∧ w2.ownsRow base 3 1 (.slice (some ⟨g, 0, none⟩) ys.length cap) ys.length ((ys.mergeSort fun x y => decide (x ≤ y)).map (Value.int .i64)) ∧ Below base w0 w2 := by
  obtain ⟨q1, q2, q3⟩ := own_holds h
  refine (Try.slices_Sort_int g 0 cap ys w q1 q2 (by omega)).mono ?_
  rintro e w2 ⟨rfl, n2, os2, hw2⟩
  obtain ⟨o2, g2⟩ := sorted_own h (List.length_mergeSort _) hw2
  exact ⟨rfl, o2, hB.grown g2 hbz (fun j hj => by injection hj with hj; omega)⟩
theorem compact_own (ms : List Int) (g cap : Nat) (base : Nat) (w0 w : World) (hb0 : base ≤ g) (h : w.ownsRow base 3 1 (.slice (some ⟨g, 0, none⟩) ms.length cap) ms.length (ms.map (Value.int .i64))) (hl : ms.length ≤ 1000000) (hB : Below base w0 w) (hbz : base ≤ w.heap.size) :
    Calls Try.prog 83 #[.slice (some ⟨g, 0, none⟩) ms.length cap] w fun e w3 => e = .returned (.slice (some ⟨g, 0, none⟩) (Lib.compact ms).length cap) ∧ w3.ownsRow base 3 1 (.slice (some ⟨g, 0, none⟩) (Lib.compact ms).length cap) (Lib.compact ms).length ((Lib.compact ms).map (Value.int .i64)) ∧ Below base w0 w3 := by
  obtain ⟨q1, q2, q3⟩ := own_holds h
  refine (Try.slices_Compact_int g 0 cap ms w q1 (by omega) q3).mono ?_
  rintro e w3 ⟨rfl, n3, hw3⟩
  have hcl := compact_len ms
  have hw4 : w3 = grow (putRow (Value.int .i64) (Sort.ahead w n3) g 0 (Lib.compact ms ++ List.replicate (ms.length - (Lib.compact ms).length) 0).toArray) #[] := by rw [hw3, grow_empty]
  obtain ⟨o3, g3⟩ := sorted_own h (by simp; omega) hw4
  refine ⟨rfl, ?_, hB.grown g3 hbz (fun j hj => by injection hj with hj; omega)⟩
  have := own_take o3 hcl
  rw [List.map_append, List.take_left' (by simp)] at this
  exact this
set_option maxRecDepth 100000 in
set_option maxHeartbeats 800000 in
theorem once_any (zs : List Int) (A : Option Addr) (c : Nat) (w : World) (h : Seg w w.heap.size A (zs.map (Value.int .i64))) (hl : zs.length ≤ 1000000) :
    Calls Try.prog 64 #[.slice A zs.length c] w (GotSeg w (onceL zs)) := by
  have HS := Lib.hid h
  have HE := Lib.hid (show onceL zs = Lib.compact (zs.mergeSort fun x y => decide (x ≤ y)) from rfl)
  clear h
  rcases Nat.eq_zero_or_pos zs.length with h0 | h0
  · have hz : zs = [] := List.eq_nil_of_length_eq_zero h0
    subst hz
    clear h0 HE
    cases A with
    | none =>
      go_enter Try.func64, Try.ntmps64
      go_wp2_with fail
      refine (Try.slices_Clone_int_nil 0 c _).mono ?_
      rintro e w1 ⟨rfl, rfl⟩
      go_wp2_with fail
      refine (Try.slices_Sort_int_none none 0 _).mono ?_
      rintro e w2 ⟨rfl, rfl⟩
      go_wp2_with fail
      refine (Try.slices_Compact_int_empty none 0 _).mono ?_
      rintro e w3 ⟨rfl, rfl⟩
      go_wp2_with fail
      go_ret
      exact ⟨none, 0, by rw [once_nil]; rfl, by rw [once_nil]; exact Seg.nil, Below.refl _ _⟩
    | some a =>
      go_enter Try.func64, Try.ntmps64
      go_wp2_with fail
      refine (Try.slices_Clone_int_zero a c _).mono ?_
      rintro e w1 ⟨v1, rfl, ho1, _, hb1⟩
      obtain ⟨A1, c1, rfl⟩ := own_form ho1
      have HB1 := Lib.hid hb1
      clear ho1 hb1
      go_wp2_with fail
      refine (Try.slices_Sort_int_none A1 c1 _).mono ?_
      rintro e w2 ⟨rfl, rfl⟩
      go_wp2_with fail
      refine (Try.slices_Compact_int_empty A1 c1 _).mono ?_
      rintro e w3 ⟨rfl, rfl⟩
      go_wp2_with fail
      go_ret
      exact ⟨A1, c1, by rw [once_nil]; rfl, by rw [once_nil]; exact Seg.nil, HB1.out⟩
  · obtain ⟨b, o, rfl, hb, _⟩ := int_at HS.out h0
    go_enter Try.func64, Try.ntmps64
    go_wp2_with fail
    refine (Try.slices_Clone_int b o zs.length c zs _ (Nat.le_refl _) (by omega) (seg_cells HS.out)).mono ?_
    rintro e w1 ⟨v1, rfl, ho1, _, hb1⟩
    rw [List.take_length] at ho1
    obtain ⟨g, cap, rfl, hg, hlt⟩ := ho1.form h0
    have HO1 := Lib.hid ho1
    have HB1 := Lib.hid hb1
    have hz1 := hb1.size
    clear ho1 hb1
    go_wp2_with fail
    refine (once_own zs g cap w.heap.size w _ hg HO1.out hl HB1.out hz1).mono ?_
    rintro e w2 ⟨rfl, ho2, hb2⟩
    have hml : (zs.mergeSort fun x y => decide (x ≤ y)).length = zs.length := List.length_mergeSort _
    generalize (zs.mergeSort fun x y => decide (x ≤ y)) = ms at *
    rw [← hml] at ho2
    have HO2 := Lib.hid ho2
    have HB2 := Lib.hid hb2
    have hz2 := hb2.size
    have hml' : ms.length ≤ 1000000 := by omega
    clear ho2 hb2
    rw [← hml]
    clear hml
    go_wp2_with fail
    refine (compact_own ms g cap w.heap.size w _ hg HO2.out hml' HB2.out hz2).mono ?_
    rintro e w3 ⟨rfl, ho3, hb3⟩
    have HO3 := Lib.hid ho3
    have HB3 := Lib.hid hb3
    clear ho3 hb3
    go_wp2_with fail
    go_ret
    rw [HE.out]
    exact ⟨_, _, rfl, Seg.of_own HO3.out, HB3.out⟩

set_option maxHeartbeats 400000 in
theorem has_any (zs : List Int) (A : Option Addr) (c : Nat) (m : Int) (w : World) (h : Seg w w.heap.size A (zs.map (Value.int .i64))) (hl : zs.length ≤ 1000000) :
    Calls Try.prog 39 #[.slice A zs.length c, .int .i64 m] w fun e w' => e = .returned (.bool (hasB zs m)) ∧ w = w' := by
  have HS := Lib.hid h
  clear h
  rcases Nat.eq_zero_or_pos zs.length with h0 | h0
  · have hz : zs = [] := List.eq_nil_of_length_eq_zero h0
    subst hz
    clear h0
    go_enter Try.func39, Try.ntmps39
    go_wp2_with fail
    refine (Try.slices_Contains_int_empty A c m _).mono ?_
    rintro e w1 ⟨rfl, rfl⟩
    go_wp2_with fail
    go_ret
    exact ⟨rfl, rfl⟩
  · obtain ⟨b, o, rfl, hb, _⟩ := int_at HS.out h0
    go_enter Try.func39, Try.ntmps39
    go_wp2_with fail
    refine (Try.slices_Contains_int b o zs.length c zs m _ (Nat.le_refl _) (by omega) (seg_cells HS.out)).mono ?_
    rintro e w1 ⟨rfl, rfl⟩
    rw [List.take_length, show zs.contains m = hasB zs m from rfl]
    go_wp2_with fail
    go_ret
    exact ⟨rfl, rfl⟩

/-- How far Put has come. -/
def putTo (m : Int) (t : List Int) : List Int := if t.any (gtB m) then insL m t else t
theorem putTo_len (m : Int) (t : List Int) : (putTo m t).length ≤ t.length + 1 := by
  unfold putTo
  split
  · rw [ins_len]; exact Nat.le_refl _
  · omega
theorem putTo_done {m x : Int} {t : List Int} (h : t.any (gtB m) = true) : putTo m (t ++ [x]) = putTo m t ++ [x] := by
  unfold putTo
  rw [if_pos h, if_pos (by rw [List.any_append, h]; rfl), ins_snoc, if_pos h]
theorem putTo_now {m x : Int} {t : List Int} (h : t.any (gtB m) = false) (hx : m < x) : putTo m (t ++ [x]) = putTo m t ++ [m] ++ [x] := by
  have hg : gtB m x = true := by unfold gtB; simpa using hx
  unfold putTo
  rw [h, List.any_append, h, List.any_cons, hg]
  simp only [Bool.false_or, Bool.true_or, if_true, Bool.false_eq_true, if_false]
  rw [ins_snoc, h]
  simp [hx]
theorem putTo_not {m x : Int} {t : List Int} (h : t.any (gtB m) = false) (hx : ¬ m < x) : putTo m (t ++ [x]) = putTo m t ++ [x] := by
  have hg : gtB m x = false := by unfold gtB; simpa using hx
  unfold putTo
  rw [h, List.any_append, h, List.any_cons, hg]
  simp
set_option maxRecDepth 100000 in
set_option maxHeartbeats 1600000 in
theorem iput_any (zs : List Int) (A : Option Addr) (c : Nat) (m : Int) (w : World) (h : Seg w w.heap.size A (zs.map (Value.int .i64))) (hl : zs.length ≤ 1000000) :
    Calls Try.prog 34 #[.slice A zs.length c, .int .i64 m] w (GotSeg w (putL zs m)) := by
  have HS := Lib.hid h
  have HIN := Lib.hid (in_any zs A c m w h hl)
  obtain ⟨i0, hi0, hz0, hz1, hz2⟩ := info_parts int_info
  have HP := Lib.hid (show putL zs m = if hasB zs m then zs else insL m zs from rfl)
  clear h
  cases hc : hasB zs m
  · have HP1 : Hid (putL zs m = insL m zs) := by show _ = _; rw [HP.out, hc]; rfl
    go_enter Try.func34, Try.ntmps34
    go_wp2_with fail
    refine HIN.out.mono ?_
    rintro e w1 ⟨rfl, rfl⟩
    rw [hc]
    clear hc
    go_wp2_with fail
    go_loopw [5, 6, 7] (fun u d i wr => ∃ k : Nat, k ≤ zs.length ∧ i = .int .i64 k ∧ d = .bool ((zs.take k).any (gtB m)) ∧ Hid (wr.ownsRow w.heap.size 3 1 u (putTo m (zs.take k)).length ((putTo m (zs.take k)).map (Value.int .i64))) ∧ Hid (Below w.heap.size w wr)) (fun _ _ i _ => zs.length - (intOf i).toNat)
    case atStart => exact ⟨0, Nat.zero_le _, rfl, rfl, ⟨by simp [putTo], Or.inl ⟨rfl, rfl⟩⟩, Below.refl _ _⟩
    case round =>
      obtain ⟨k, hk, rfl, rfl, HO, HB⟩ := hrel
      have hsz := HB.out.size
      have hpl := putTo_len m (zs.take k)
      have htl := List.length_take_le k zs
      by_cases hlt : k < zs.length
      · obtain ⟨b, o, rfl, hb, d0⟩ := int_at (HS.out.below HB.out) hlt
        have HAN := Lib.hid (any_snoc (gtB m) hlt)
        have HTK := Lib.hid (List.take_succ_eq_append_getElem hlt)
        cases hd : (zs.take k).any (gtB m)
        · by_cases hx : m < zs[k]
          · have HPT : Hid (putTo m (zs.take (k + 1)) = putTo m (zs.take k) ++ [m] ++ [zs[k]]) := by show _ = _; rw [HTK.out, putTo_now hd hx]
            have HA1 : Hid ((zs.take (k + 1)).any (gtB m) = true) := by show _ = _; rw [HAN.out, hd]; unfold gtB; simpa using hx
            generalize putTo m (zs.take k) = ys at *
            go_wp2_with (at_builtin; refine wpList_append_own _ rfl _ _ 53 rfl w.heap.size 3 i0 _ 1 8 Try.underlying53 hi0 hz0 hz1 hz2 rfl (by decide) _ ys.length (ys.map (Value.int .i64)) rfl (HO.out.alloc _) ⟨wr.heap.size, 0, none⟩ 1 1 [.int .i64 m] rfl rfl (new_cells _ _ #[_] (by simp)) one_int (by simp only [maxLen]; omega) (by omega) (by simp; omega) ?_)
            intro v1 w1 ho1 hg1 _
            have HO1 : Hid (w1.ownsRow w.heap.size 3 1 v1 (ys ++ [m]).length ((ys ++ [m]).map (Value.int .i64))) := by
              show World.ownsRow _ _ _ _ _ _ _
              rw [List.map_append, List.length_append, List.length_singleton]
              exact ho1
            have HB1 : Hid (Below w.heap.size w w1) := (HB.out.alloc hsz _).grown hg1 (by simp; omega) (fun j hj => own_base HO.out j hj)
            have hsz1 := HB1.out.size
            have d1 : w1.cell? ⟨b, o + k, none⟩ = some (.int .i64 zs[k]) := (HB1.out.cell (p := ⟨b, o + k, none⟩) hb).trans ((HB.out.cell (p := ⟨b, o + k, none⟩) hb).symm.trans d0)
            have hyl : (ys ++ [m]).length ≤ ys.length + 1 := by simp
            generalize (ys ++ [m]) = ys1 at *
            clear ho1 hg1 d0
            go_wp2_with (at_builtin; refine wpList_append_own _ rfl _ _ 53 rfl w.heap.size 3 i0 _ 1 8 Try.underlying53 hi0 hz0 hz1 hz2 rfl (by decide) _ ys1.length (ys1.map (Value.int .i64)) rfl (HO1.out.alloc _) ⟨w1.heap.size, 0, none⟩ 1 1 [.int .i64 zs[k]] rfl rfl (new_cells _ _ #[_] (by simp)) one_int (by simp only [maxLen]; omega) (by omega) (by simp; omega) ?_)
            intro v2 w2 ho2 hg2 _
            have HO2 : Hid (w2.ownsRow w.heap.size 3 1 v2 (putTo m (zs.take (k + 1))).length ((putTo m (zs.take (k + 1))).map (Value.int .i64))) := by
              show World.ownsRow _ _ _ _ _ _ _
              rw [HPT.out, List.map_append, List.length_append, List.length_singleton]
              exact ho2
            have HB2 : Hid (Below w.heap.size w w2) := (HB1.out.alloc hsz1 _).grown hg2 (by simp; omega) (fun j hj => own_base HO1.out j hj)
            clear ho2 hg2 d1
            go_wp2_with fail
            go_roundw
            case rel => exact ⟨k + 1, by omega, by go_num, by rw [HA1.out], HO2, HB2⟩
            case measure => simp [intOf]; omega
          · have HPT : Hid (putTo m (zs.take (k + 1)) = putTo m (zs.take k) ++ [zs[k]]) := by show _ = _; rw [HTK.out, putTo_not hd hx]
            have HA1 : Hid ((zs.take (k + 1)).any (gtB m) = false) := by show _ = _; rw [HAN.out, hd]; unfold gtB; simpa using hx
            generalize putTo m (zs.take k) = ys at *
            go_wp2_with (at_builtin; refine wpList_append_own _ rfl _ _ 53 rfl w.heap.size 3 i0 _ 1 8 Try.underlying53 hi0 hz0 hz1 hz2 rfl (by decide) _ ys.length (ys.map (Value.int .i64)) rfl (HO.out.alloc _) ⟨wr.heap.size, 0, none⟩ 1 1 [.int .i64 zs[k]] rfl rfl (new_cells _ _ #[_] (by simp)) one_int (by simp only [maxLen]; omega) (by omega) (by simp; omega) ?_)
            intro v2 w2 ho2 hg2 _
            have HO2 : Hid (w2.ownsRow w.heap.size 3 1 v2 (putTo m (zs.take (k + 1))).length ((putTo m (zs.take (k + 1))).map (Value.int .i64))) := by
              show World.ownsRow _ _ _ _ _ _ _
              rw [HPT.out, List.map_append, List.length_append, List.length_singleton]
              exact ho2
            have HB2 : Hid (Below w.heap.size w w2) := (HB.out.alloc hsz _).grown hg2 (by simp; omega) (fun j hj => own_base HO.out j hj)
            clear ho2 hg2
            go_wp2_with fail
            go_roundw
            case rel => exact ⟨k + 1, by omega, by go_num, by rw [HA1.out], HO2, HB2⟩
            case measure => simp [intOf]; omega
        · have HPT : Hid (putTo m (zs.take (k + 1)) = putTo m (zs.take k) ++ [zs[k]]) := by show _ = _; rw [HTK.out, putTo_done hd]
          have HA1 : Hid ((zs.take (k + 1)).any (gtB m) = true) := by show _ = _; rw [HAN.out, hd]; rfl
          generalize putTo m (zs.take k) = ys at *
          go_wp2_with (at_builtin; refine wpList_append_own _ rfl _ _ 53 rfl w.heap.size 3 i0 _ 1 8 Try.underlying53 hi0 hz0 hz1 hz2 rfl (by decide) _ ys.length (ys.map (Value.int .i64)) rfl (HO.out.alloc _) ⟨wr.heap.size, 0, none⟩ 1 1 [.int .i64 zs[k]] rfl rfl (new_cells _ _ #[_] (by simp)) one_int (by simp only [maxLen]; omega) (by omega) (by simp; omega) ?_)
          intro v2 w2 ho2 hg2 _
          have HO2 : Hid (w2.ownsRow w.heap.size 3 1 v2 (putTo m (zs.take (k + 1))).length ((putTo m (zs.take (k + 1))).map (Value.int .i64))) := by
            show World.ownsRow _ _ _ _ _ _ _
            rw [HPT.out, List.map_append, List.length_append, List.length_singleton]
            exact ho2
          have HB2 : Hid (Below w.heap.size w w2) := (HB.out.alloc hsz _).grown hg2 (by simp; omega) (fun j hj => own_base HO.out j hj)
          clear ho2 hg2
          go_wp2_with fail
          go_roundw
          case rel => exact ⟨k + 1, by omega, by go_num, by rw [HA1.out], HO2, HB2⟩
          case measure => simp [intOf]; omega
      · obtain rfl : k = zs.length := by omega
        have hO := HO.out
        rw [List.take_length] at hO hpl ⊢
        have HO2 := Lib.hid hO
        clear hO
        cases hd : zs.any (gtB m)
        · have HPT : Hid (insL m zs = putTo m zs ++ [m]) := by show _ = _; rw [ins_none m zs hd]; unfold putTo; rw [hd]; rfl
          generalize putTo m zs = ys at *
          go_wp2_with (at_builtin; refine wpList_append_own _ rfl _ _ 53 rfl w.heap.size 3 i0 _ 1 8 Try.underlying53 hi0 hz0 hz1 hz2 rfl (by decide) _ ys.length (ys.map (Value.int .i64)) rfl (HO2.out.alloc _) ⟨wr.heap.size, 0, none⟩ 1 1 [.int .i64 m] rfl rfl (new_cells _ _ #[_] (by simp)) one_int (by simp only [maxLen]; omega) (by omega) (by simp; omega) ?_)
          intro v2 w2 ho2 hg2 _
          have HO3 : Hid (w2.ownsRow w.heap.size 3 1 v2 (insL m zs).length ((insL m zs).map (Value.int .i64))) := by
            show World.ownsRow _ _ _ _ _ _ _
            rw [HPT.out, List.map_append, List.length_append, List.length_singleton]
            exact ho2
          have HB2 : Hid (Below w.heap.size w w2) := (HB.out.alloc hsz _).grown hg2 (by simp; omega) (fun j hj => own_base HO2.out j hj)
          clear ho2 hg2
          go_wp2_with fail
          go_ret
          obtain ⟨A2, c2, rfl, hs2⟩ := seg_own HO3.out rfl
          rw [HP1.out]
          exact ⟨A2, c2, rfl, hs2, HB2.out⟩
        · have HPT : Hid (putTo m zs = insL m zs) := by show _ = _; unfold putTo; rw [hd]; rfl
          go_wp2_with fail
          go_ret
          have hO3 := HO2.out
          rw [HPT.out] at hO3
          obtain ⟨A2, c2, rfl, hs2⟩ := seg_own hO3 rfl
          rw [HP1.out]
          exact ⟨A2, c2, rfl, hs2, HB.out⟩
  · have HP1 : Hid (putL zs m = zs) := by show _ = _; rw [HP.out, hc]; rfl
    go_enter Try.func34, Try.ntmps34
    go_wp2_with fail
    refine HIN.out.mono ?_
    rintro e w1 ⟨rfl, rfl⟩
    rw [hc]
    clear hc
    go_wp2_with fail
    go_ret
    rw [HP1.out]
    exact ⟨A, c, rfl, HS.out, Below.refl _ _⟩
end Go.Proofs.Ytblplkajgbbkdaa
