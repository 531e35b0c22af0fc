/-
  What complineref33.Parse comes to, over this seat's translation: a contract for callers. (Printed by gen_sd8.py.)
-/
import Derived.Test.YtmplokdbbhlomaaGreatDoorSdB
import Derived.Test.YtmplokdbbhlomaaGreatDoorSpl
import Derived.Test.YtmplokdbbhlomaaGreatDoorSrB
import Derived.RegionTactic
import Derived.ChangeAlike
import Derived.Deep.RegionHeld
import Derived.Deep.RegionHeld3
import Derived.Deep.RegionWith
namespace Go.Proofs.YtmplokdbbhlomaaGreatDoor
open Go.RowKit

/-- The step that numbers tell, all read. -/
def midV (w0 : List UInt8) (vs : List Int) : St × Bool :=
  if (w0 = fuseW ∨ w0 = crashW) ∧ vs.length = 1 then
    (if rightS ⟨if w0 = crashW then 3 else 2, zeroC, vs.headD 0⟩ then (⟨if w0 = crashW then 3 else 2, zeroC, vs.headD 0⟩, true) else (zeroS, false))
  else if kindW w0 ≠ 0 ∧ (jsOf (kindW w0 : Int)).length = vs.length then
    (⟨1, (getC (putN (kindW w0 : Int) ++ vs.flatMap putN)).1, 0⟩, (getC (putN (kindW w0 : Int) ++ vs.flatMap putN)).2 == 0)
  else (zeroS, false)
theorem midD_true {w0 : List UInt8} {ns : List (Int × Bool)} (h : ns.all (·.2) = true) : midD w0 ns = midV w0 (ns.map (·.1)) := by
  unfold midD midV
  rw [if_pos h, List.length_map]
theorem midD_bad {w0 : List UInt8} {ss : List (List UInt8)} {k : Nat} (hk : k < ss.length) {n : Int} (h : numD ss[k] = (n, false)) : midD w0 (ss.map numD) = (zeroS, false) := by
  unfold midD
  rw [if_neg]
  intro ha
  rw [List.all_eq_true] at ha
  have := ha _ (List.mem_map.2 ⟨ss[k], List.getElem_mem hk, rfl⟩)
  rw [h] at this
  cases this
theorem allD_take {ss : List (List UInt8)} {k : Nat} (hk : k < ss.length) {n : Int} (h : numD ss[k] = (n, true)) (ha : ((ss.take k).map numD).all (·.2) = true) : ((ss.take (k + 1)).map numD).all (·.2) = true := by
  rw [List.take_succ_eq_append_getElem hk, List.map_append, List.all_append, ha]
  simp [h]
def numsV (ss : List (List UInt8)) : List Value := ss.map fun s => Value.int .i64 (numD s).1
theorem numsV_eq (ss : List (List UInt8)) : numsV ss = ((ss.map numD).map (·.1)).map (Value.int .i64) := by
  unfold numsV
  rw [List.map_map, List.map_map]
  rfl
theorem fstD_take {ss : List (List UInt8)} {k : Nat} (hk : k < ss.length) {n : Int} {t : Bool} (h : numD ss[k] = (n, t)) : numsV (ss.take (k + 1)) = numsV (ss.take k) ++ [.int .i64 n] := by
  unfold numsV
  rw [List.take_succ_eq_append_getElem hk, List.map_append]
  simp [h]
theorem noKind {w0 : List UInt8} {n : Nat} (h : ∀ k, 1 ≤ k → k < 11 → ¬ (wordL k = w0 ∧ (jsOf (k : Int)).length = n)) : ¬ (kindW w0 ≠ 0 ∧ (jsOf (kindW w0 : Int)).length = n) := by
  rintro ⟨h0, h1⟩
  have hw := word_kind h0
  have hl := kind_le w0
  exact h (kindW w0) (by omega) (by omega) ⟨hw.symm, h1⟩
theorem isK_small {q : Nat} (h1 : 1 ≤ q) (h2 : q ≤ 10) : isK (q : Int) = true := by simp [isK]; omega
set_option linter.unusedSimpArgs false in
set_option maxRecDepth 100000 in
set_option maxHeartbeats 25600000 in
theorem rsparse_any (line : List UInt8) (hl : line.length ≤ 10000) (w : World) : Calls Tryz.prog 11 #[.string (bs line)] w fun e w' => e = .returned (.tuple #[stV (parseD line).1, .bool (parseD line).2]) ∧ Below w.heap.size w w' := by
  obtain ⟨i0, hi0, hz0, hz1', hz2'⟩ := info_parts i64_infoS
  have HB0 : Hid (Below w.heap.size w (w.alloc (.cells (stCells zeroS) TSt))) := Lib.hid ((Below.refl _ _).alloc (Nat.le_refl _) _)
  have HZ0 := Lib.hid (CsAt.made w (stCells zeroS) TSt)
  have hcz : stCells zeroS = #[.int .i64 0, .int .i64 0, .int .i64 0, .int .i64 0, .int .i64 0, .int .i64 0, .int .i64 0, .int .i64 0, .int .i64 0] := rfl
  rw [hcz] at HB0 HZ0
  obtain ⟨T, HT⟩ : ∃ T, Hid (T = parseD line) := ⟨_, Lib.hid rfl⟩
  rw [← HT.out]
  obtain ⟨w0, rest, hws⟩ := splitL_cons 32 line
  have HTD : Hid (T = midD w0 (rest.map numD)) := Lib.hid (by rw [HT.out]; unfold parseD; rw [hws]; rfl)
  have hwl := splitL_len 32 line
  have HWP := Lib.hid (splitL_piece 32 line)
  rw [hws] at hwl HWP
  rw [List.length_cons] at hwl
  have HSPL := Lib.hid (words_any line (w.alloc (.cells #[.int .i64 0, .int .i64 0, .int .i64 0, .int .i64 0, .int .i64 0, .int .i64 0, .int .i64 0, .int .i64 0, .int .i64 0] TSt)) (by omega))
  rw [hws] at HSPL
  unfold GotT at HSPL
  rw [List.length_cons] at HSPL
  unfold stV stCells
  clear hcz hws HT
  go_enter Tryz.func11, Tryz.ntmps11
  go_wp2_with (go_at_call 32; refine HSPL.out.mono ?_)
  rintro e w1 ⟨A, c, rfl, hsg, hb1⟩
  have HSEG := Lib.hid hsg
  have HB1 : Hid (Below w.heap.size w w1) := Lib.hid (HB0.out.trans (hb1.mono HB0.out.size))
  have HZ1 := Lib.hid (HZ0.out.below (by simp) hb1)
  have hz1 : w.heap.size < w1.heap.size := by have := hb1.size; simp at this; omega
  clear hb1 hsg HSPL HB0 HZ0
  obtain ⟨b, o, rfl, hbb, hcb⟩ := HSEG.out.at (k := 0) (by rw [strs_len]; simp)
  have HSW : Hid (∀ W, Below w1.heap.size w1 W → ∀ k (hk : k < (w0 :: rest).length), W.cell? ⟨b, o + k, none⟩ = some (.string (bs ((w0 :: rest)[k])))) := Lib.hid (by
    intro W hW k hk
    obtain ⟨b2, o2, e, hb, hc⟩ := (HSEG.out.below hW).at (k := k) (by rw [strs_len]; exact hk)
    injection e with e
    injection e with e1 e2
    subst e1 e2
    unfold strs at hc
    rw [List.getElem_map] at hc
    exact hc)
  clear hcb HSEG
  go_wp2_with fail
  go_loopw [5, 6] (fun u i wr => ∃ (k j : Nat), j ≤ k + 1 ∧ k + 1 ≤ j ∧ k ≤ rest.length ∧ i = .int .i64 (j : Int) ∧ Hid (((rest.take k).map numD).all (·.2) = true) ∧ Hid (wr.ownsRow w1.heap.size 2 1 u k (numsV (rest.take k))) ∧ Hid (Below w1.heap.size w1 wr)) (fun _ i _ => rest.length + 1 - (intOf i).toNat)
  case atStart => exact ⟨0, 1, by omega, by omega, Nat.zero_le _, rfl, Lib.hid (by simp), Lib.hid (World.ownsRow_nil _ _ _ _), Lib.hid (Below.refl _ _)⟩
  case round =>
    obtain ⟨k, j, hj1, hj2, hk, rfl, HAL, HO, HBW⟩ := hrel
    have hbsz := HBW.out.size
    have HBWW : Hid (Below w.heap.size w wr) := Lib.hid (HB1.out.trans (HBW.out.mono HB1.out.size))
    have HZW : Hid (CsAt wr w.heap.size (stCells zeroS)) := Lib.hid (HZ1.out.kept (row := none) ⟨HBW.out.os, HBW.out.tape, HBW.out.output, HBW.out.size, fun k hk _ => HBW.out.block k hk⟩ (by omega) (fun e => by cases e))
    by_cases hlt : k < rest.length
    · have hlj : (j : Int) < (rest.length : Int) + 1 := by omega
      have hlj2 : j < rest.length + 1 := by omega
      have hcw : wr.cell? ⟨b, o + j, none⟩ = some (.string (bs rest[k])) := by
        have h := HSW.out wr HBW.out (k + 1) (by simp; omega)
        obtain rfl : j = k + 1 := by omega
        exact h
      have HNX := Lib.hid (fun W => rnumber_any rest[k] W (by have := HWP.out rest[k] (List.mem_cons_of_mem _ (List.getElem_mem hlt)); omega))
      obtain ⟨p, hp⟩ : ∃ p, p = numD rest[k] := ⟨_, rfl⟩
      rw [← hp] at HNX
      obtain ⟨n, t⟩ := p
      simp only at HNX
      cases t with
      | false =>
        have HT2 : Hid (T = (zeroS, false)) := Lib.hid (by rw [HTD.out]; exact midD_bad hlt hp.symm)
        clear hp HAL HO
        generalize rest[k] = sk at *
        go_wp2_with (go_at_call 33; refine (HNX.out _).mono ?_; rintro e w9 ⟨rfl, hb9⟩; have HZ9 := Lib.hid (HZW.out.below (by omega) hb9); have HB9 : Hid (Below w.heap.size w w9) := Lib.hid (HBWW.out.trans (hb9.mono HBWW.out.size)); clear hb9; have z0 : w9.cell? ⟨w.heap.size, 0, none⟩ = some (.int .i64 0) := HZ9.out.cell 0; have z1 : w9.cell? ⟨w.heap.size, 1, none⟩ = some (.int .i64 0) := HZ9.out.cell 1; have z2 : w9.cell? ⟨w.heap.size, 2, none⟩ = some (.int .i64 0) := HZ9.out.cell 2; have z3 : w9.cell? ⟨w.heap.size, 3, none⟩ = some (.int .i64 0) := HZ9.out.cell 3; have z4 : w9.cell? ⟨w.heap.size, 4, none⟩ = some (.int .i64 0) := HZ9.out.cell 4; have z5 : w9.cell? ⟨w.heap.size, 5, none⟩ = some (.int .i64 0) := HZ9.out.cell 5; have z6 : w9.cell? ⟨w.heap.size, 6, none⟩ = some (.int .i64 0) := HZ9.out.cell 6; have z7 : w9.cell? ⟨w.heap.size, 7, none⟩ = some (.int .i64 0) := HZ9.out.cell 7; have z8 : w9.cell? ⟨w.heap.size, 8, none⟩ = some (.int .i64 0) := HZ9.out.cell 8; have zf := HZ9.out.fz)
        obtain ⟨hov, hgv⟩ := HZ9.out.over zeroS
        obtain ⟨W5, hW5⟩ : ∃ W5, W5 = (World.setCell (World.setCell (World.setCell (World.setCell (World.setCell (World.setCell (World.setCell (World.setCell (World.setCell w9 ⟨w.heap.size, 0, none⟩ (.int .i64 0)) ⟨w.heap.size, 1, none⟩ (.int .i64 0)) ⟨w.heap.size, 2, none⟩ (.int .i64 0)) ⟨w.heap.size, 3, none⟩ (.int .i64 0)) ⟨w.heap.size, 4, none⟩ (.int .i64 0)) ⟨w.heap.size, 5, none⟩ (.int .i64 0)) ⟨w.heap.size, 6, none⟩ (.int .i64 0)) ⟨w.heap.size, 7, none⟩ (.int .i64 0)) ⟨w.heap.size, 8, none⟩ (.int .i64 0)) := ⟨_, rfl⟩
        have HOV : Hid (CsAt W5 w.heap.size (stCells zeroS)) := Lib.hid (by rw [hW5]; exact hov)
        have HGV : Hid (w9.grownBy W5 (some w.heap.size)) := Lib.hid (by rw [hW5]; exact hgv)
        rw [← hW5]
        clear hov hgv hW5
        have y0 : W5.cell? ⟨w.heap.size, 0, none⟩ = some (.int .i64 0) := HOV.out.cell 0
        have y1 : W5.cell? ⟨w.heap.size, 1, none⟩ = some (.int .i64 0) := HOV.out.cell 1
        have y2 : W5.cell? ⟨w.heap.size, 2, none⟩ = some (.int .i64 0) := HOV.out.cell 2
        have y3 : W5.cell? ⟨w.heap.size, 3, none⟩ = some (.int .i64 0) := HOV.out.cell 3
        have y4 : W5.cell? ⟨w.heap.size, 4, none⟩ = some (.int .i64 0) := HOV.out.cell 4
        have y5 : W5.cell? ⟨w.heap.size, 5, none⟩ = some (.int .i64 0) := HOV.out.cell 5
        have y6 : W5.cell? ⟨w.heap.size, 6, none⟩ = some (.int .i64 0) := HOV.out.cell 6
        have y7 : W5.cell? ⟨w.heap.size, 7, none⟩ = some (.int .i64 0) := HOV.out.cell 7
        have y8 : W5.cell? ⟨w.heap.size, 8, none⟩ = some (.int .i64 0) := HOV.out.cell 8
        refine bodyPost_ret (v := .tuple #[.agg #[.int .i64 0, .int .i64 0, .int .i64 0, .int .i64 0, .int .i64 0, .int .i64 0, .int .i64 0, .int .i64 0, .int .i64 0], .bool false]) (by simp [results, Tryz.results11, go_sem, y0, y1, y2, y3, y4, y5, y6, y7, y8]) rfl ?_
        rw [HT2.out]
        exact ⟨rfl, below_byS HB9.out HGV.out⟩
      | true =>
        have HA2 := Lib.hid (allD_take hlt hp.symm HAL.out)
        have HF2 := Lib.hid (fstD_take hlt hp.symm)
        clear hp HAL HZW HBWW
        generalize rest[k] = sk at *
        go_wp2_with (first | (go_at_call 33; refine (HNX.out _).mono ?_; rintro e w4 ⟨rfl, hb4⟩; have HB4 : Hid (Below w1.heap.size w1 w4) := Lib.hid (HBW.out.trans (hb4.mono HBW.out.size)); have HO4 := Lib.hid (own_keepS HO.out hb4); have hs4 : w1.heap.size ≤ w4.heap.size := HB4.out.size; clear hb4 HO HBW hbsz) | (at_builtin; refine wpList_append_own _ rfl _ _ 46 rfl w1.heap.size 2 i0 _ 1 8 Tryz.underlying46 hi0 hz0 hz1' hz2' rfl (by decide) _ k _ rfl (HO4.out.alloc _) ⟨w4.heap.size, 0, none⟩ 1 1 [.int .i64 n] rfl rfl (new_cells _ _ #[_] rfl) (by intro u hu; simp at hu; rw [hu]; rfl) (by simp only [maxLen]; omega) (by omega) (by simp; omega) ?_))
        intro v' w5 hown5 hgr5 _
        have HO5 : Hid (w5.ownsRow w1.heap.size 2 1 v' (k + 1) (numsV (rest.take (k + 1)))) := Lib.hid (by rw [HF2.out]; exact hown5)
        have HB5 : Hid (Below w1.heap.size w1 w5) := Lib.hid ((HB4.out.alloc hs4 _).grown hgr5 (by simp; omega) (fun j hj => own_base HO4.out j hj))
        clear hown5 hgr5 HO4 HB4
        go_wp2_with fail
        go_roundw
        case rel => exact ⟨k + 1, j + 1, by omega, by omega, by omega, by go_num, HA2, HO5, HB5⟩
        case measure => simp [intOf]; omega
    · obtain rfl : k = rest.length := by omega
      have hta : rest.take rest.length = rest := List.take_of_length_le (by omega)
      rw [hta] at HAL HO
      have HTV : Hid (T = midV w0 ((rest.map numD).map (·.1))) := Lib.hid (by rw [HTD.out]; exact midD_true HAL.out)
      have hvl : ((rest.map numD).map (·.1)).length = rest.length := by simp
      have hin : ∀ n ∈ (rest.map numD).map (·.1), I64 n := (all_fst HAL.out).2
      obtain ⟨Au, cu, hu⟩ := own_form HO.out
      subst hu
      have HSU : Hid (Seg wr wr.heap.size Au (((rest.map numD).map (·.1)).map (Value.int .i64))) := Lib.hid (by rw [← numsV_eq]; exact Seg.of_own HO.out)
      have hlj : ¬ (j : Int) < (rest.length : Int) + 1 := by omega
      have hlj2 : ¬ j < rest.length + 1 := by omega
      have c0 : wr.cell? ⟨b, o, none⟩ = some (.string (bs w0)) := HSW.out wr HBW.out 0 (by simp)
      clear hta HO HAL HTD HWP hlt hk
      generalize (rest.map numD).map (·.1) = vs at *
      have HIN := Lib.hid hin
      have HVL := Lib.hid hvl
      clear hin hvl
      generalize rest.length = N at *
      have hNb : N ≤ 10000 := by omega
      by_cases hfx : (w0 = fuseW ∨ w0 = crashW) ∧ N = 1
      · obtain ⟨hw, rfl⟩ := hfx
        obtain ⟨v, rfl⟩ := List.length_eq_one_iff.1 HVL.out
        obtain ⟨bn, on, rfl, hbn, hcn⟩ := HSU.out.at (k := 0) (by simp)
        have hcn2 : wr.cell? ⟨bn, on, none⟩ = some (.int .i64 v) := hcn
        clear hcn HVL HSU HIN hNb
        by_cases hc : w0 = crashW
        · have HX : Hid (T = if rightS ⟨3, zeroC, v⟩ = true then (⟨3, zeroC, v⟩, true) else (zeroS, false)) := Lib.hid (by rw [HTV.out]; unfold midV; rw [if_pos ⟨hw, rfl⟩, if_pos hc]; rfl)
          have hf1 : (w0 == [102, 117, 115, 101]) = false := beq_eq_false_iff_ne.2 (fun e => by rw [e] at hc; revert hc; decide)
          have hc1 : (w0 == [99, 114, 97, 115, 104]) = true := beq_iff_eq.2 hc
          clear hw hc HTV
          have HRI := Lib.hid (fun W => srright_any ⟨3, zeroC, v⟩ W)
          unfold stV stCells at HRI
          simp only [zeroC] at HRI
          cases hr : rightS ⟨3, zeroC, v⟩ with
          | false =>
            have HT2 : Hid (T = (zeroS, false)) := Lib.hid (by rw [HX.out, hr]; rfl)
            rw [show rightS ⟨3, ⟨0, 0, 0, 0, 0, 0, 0⟩, v⟩ = false from hr] at HRI
            clear hr HX
            have HX8 : Hid (CsAt (wr.alloc (.cells #[.int .i64 3, .int .i64 0, .int .i64 0, .int .i64 0, .int .i64 0, .int .i64 0, .int .i64 0, .int .i64 0, .int .i64 v] TSt)) wr.heap.size (stCells ⟨3, zeroC, v⟩)) := Lib.hid (CsAt.made _ _ _)
            have HB8 : Hid (Below w.heap.size w (wr.alloc (.cells #[.int .i64 3, .int .i64 0, .int .i64 0, .int .i64 0, .int .i64 0, .int .i64 0, .int .i64 0, .int .i64 0, .int .i64 v] TSt))) := Lib.hid (HBWW.out.alloc HBWW.out.size _)
            have HZ8 := Lib.hid (HZW.out.below (by omega) ((Below.refl _ _).alloc (Nat.le_refl _) (.cells #[.int .i64 3, .int .i64 0, .int .i64 0, .int .i64 0, .int .i64 0, .int .i64 0, .int .i64 0, .int .i64 0, .int .i64 v] TSt)))
            have c1 : (wr.alloc (.cells #[.int .i64 2, .int .i64 0, .int .i64 0, .int .i64 0, .int .i64 0, .int .i64 0, .int .i64 0, .int .i64 0, .int .i64 v] TSt)).cell? ⟨b, o, none⟩ = some (.string (bs w0)) := by
              rw [cell_old _ _ o (by omega)]
              exact c0
            go_upto_region 14 with fail
            clear c0 c1 hcn2
            have hl8 : wr.heap.size < (World.heap (wr.alloc (.cells #[.int .i64 3, .int .i64 0, .int .i64 0, .int .i64 0, .int .i64 0, .int .i64 0, .int .i64 0, .int .i64 0, .int .i64 v] TSt))).size := by simp
            have hl9 : w.heap.size < (World.heap (wr.alloc (.cells #[.int .i64 3, .int .i64 0, .int .i64 0, .int .i64 0, .int .i64 0, .int .i64 0, .int .i64 0, .int .i64 0, .int .i64 v] TSt))).size := by omega
            generalize (wr.alloc (.cells #[.int .i64 3, .int .i64 0, .int .i64 0, .int .i64 0, .int .i64 0, .int .i64 0, .int .i64 0, .int .i64 0, .int .i64 v] TSt)) = w8 at *
            have x0 : w8.cell? ⟨wr.heap.size, 0, none⟩ = some (.int .i64 3) := HX8.out.cell 0
            have x1 : w8.cell? ⟨wr.heap.size, 1, none⟩ = some (.int .i64 0) := HX8.out.cell 1
            have x2 : w8.cell? ⟨wr.heap.size, 2, none⟩ = some (.int .i64 0) := HX8.out.cell 2
            have x3 : w8.cell? ⟨wr.heap.size, 3, none⟩ = some (.int .i64 0) := HX8.out.cell 3
            have x4 : w8.cell? ⟨wr.heap.size, 4, none⟩ = some (.int .i64 0) := HX8.out.cell 4
            have x5 : w8.cell? ⟨wr.heap.size, 5, none⟩ = some (.int .i64 0) := HX8.out.cell 5
            have x6 : w8.cell? ⟨wr.heap.size, 6, none⟩ = some (.int .i64 0) := HX8.out.cell 6
            have x7 : w8.cell? ⟨wr.heap.size, 7, none⟩ = some (.int .i64 0) := HX8.out.cell 7
            have x8 : w8.cell? ⟨wr.heap.size, 8, none⟩ = some (.int .i64 v) := HX8.out.cell 8
            go_wp2_with (go_at_call 7; refine (HRI.out _).mono ?_; rintro e w9 ⟨rfl, hb9⟩; have HZ9 := Lib.hid (HZ8.out.below hl9 hb9); have HX9 := Lib.hid (HX8.out.below hl8 hb9); have HB9 : Hid (Below w.heap.size w w9) := Lib.hid (HB8.out.trans (hb9.mono HB8.out.size)); clear hb9 x0 x1 x2 x3 x4 x5 x6 x7 x8; have z0 : w9.cell? ⟨w.heap.size, 0, none⟩ = some (.int .i64 0) := HZ9.out.cell 0; have z1 : w9.cell? ⟨w.heap.size, 1, none⟩ = some (.int .i64 0) := HZ9.out.cell 1; have z2 : w9.cell? ⟨w.heap.size, 2, none⟩ = some (.int .i64 0) := HZ9.out.cell 2; have z3 : w9.cell? ⟨w.heap.size, 3, none⟩ = some (.int .i64 0) := HZ9.out.cell 3; have z4 : w9.cell? ⟨w.heap.size, 4, none⟩ = some (.int .i64 0) := HZ9.out.cell 4; have z5 : w9.cell? ⟨w.heap.size, 5, none⟩ = some (.int .i64 0) := HZ9.out.cell 5; have z6 : w9.cell? ⟨w.heap.size, 6, none⟩ = some (.int .i64 0) := HZ9.out.cell 6; have z7 : w9.cell? ⟨w.heap.size, 7, none⟩ = some (.int .i64 0) := HZ9.out.cell 7; have z8 : w9.cell? ⟨w.heap.size, 8, none⟩ = some (.int .i64 0) := HZ9.out.cell 8; have zf := HZ9.out.fz; have x0 : w9.cell? ⟨wr.heap.size, 0, none⟩ = some (.int .i64 3) := HX9.out.cell 0; have x1 : w9.cell? ⟨wr.heap.size, 1, none⟩ = some (.int .i64 0) := HX9.out.cell 1; have x2 : w9.cell? ⟨wr.heap.size, 2, none⟩ = some (.int .i64 0) := HX9.out.cell 2; have x3 : w9.cell? ⟨wr.heap.size, 3, none⟩ = some (.int .i64 0) := HX9.out.cell 3; have x4 : w9.cell? ⟨wr.heap.size, 4, none⟩ = some (.int .i64 0) := HX9.out.cell 4; have x5 : w9.cell? ⟨wr.heap.size, 5, none⟩ = some (.int .i64 0) := HX9.out.cell 5; have x6 : w9.cell? ⟨wr.heap.size, 6, none⟩ = some (.int .i64 0) := HX9.out.cell 6; have x7 : w9.cell? ⟨wr.heap.size, 7, none⟩ = some (.int .i64 0) := HX9.out.cell 7; have x8 : w9.cell? ⟨wr.heap.size, 8, none⟩ = some (.int .i64 v) := HX9.out.cell 8)
            obtain ⟨hov, hgv⟩ := HZ9.out.over zeroS
            obtain ⟨W5, hW5⟩ : ∃ W5, W5 = (World.setCell (World.setCell (World.setCell (World.setCell (World.setCell (World.setCell (World.setCell (World.setCell (World.setCell w9 ⟨w.heap.size, 0, none⟩ (.int .i64 0)) ⟨w.heap.size, 1, none⟩ (.int .i64 0)) ⟨w.heap.size, 2, none⟩ (.int .i64 0)) ⟨w.heap.size, 3, none⟩ (.int .i64 0)) ⟨w.heap.size, 4, none⟩ (.int .i64 0)) ⟨w.heap.size, 5, none⟩ (.int .i64 0)) ⟨w.heap.size, 6, none⟩ (.int .i64 0)) ⟨w.heap.size, 7, none⟩ (.int .i64 0)) ⟨w.heap.size, 8, none⟩ (.int .i64 0)) := ⟨_, rfl⟩
            have HOV : Hid (CsAt W5 w.heap.size (stCells zeroS)) := Lib.hid (by rw [hW5]; exact hov)
            have HGV : Hid (w9.grownBy W5 (some w.heap.size)) := Lib.hid (by rw [hW5]; exact hgv)
            rw [← hW5]
            clear hov hgv hW5
            have y0 : W5.cell? ⟨w.heap.size, 0, none⟩ = some (.int .i64 0) := HOV.out.cell 0
            have y1 : W5.cell? ⟨w.heap.size, 1, none⟩ = some (.int .i64 0) := HOV.out.cell 1
            have y2 : W5.cell? ⟨w.heap.size, 2, none⟩ = some (.int .i64 0) := HOV.out.cell 2
            have y3 : W5.cell? ⟨w.heap.size, 3, none⟩ = some (.int .i64 0) := HOV.out.cell 3
            have y4 : W5.cell? ⟨w.heap.size, 4, none⟩ = some (.int .i64 0) := HOV.out.cell 4
            have y5 : W5.cell? ⟨w.heap.size, 5, none⟩ = some (.int .i64 0) := HOV.out.cell 5
            have y6 : W5.cell? ⟨w.heap.size, 6, none⟩ = some (.int .i64 0) := HOV.out.cell 6
            have y7 : W5.cell? ⟨w.heap.size, 7, none⟩ = some (.int .i64 0) := HOV.out.cell 7
            have y8 : W5.cell? ⟨w.heap.size, 8, none⟩ = some (.int .i64 0) := HOV.out.cell 8
            refine bodyPost_ret (v := .tuple #[.agg #[.int .i64 0, .int .i64 0, .int .i64 0, .int .i64 0, .int .i64 0, .int .i64 0, .int .i64 0, .int .i64 0, .int .i64 0], .bool false]) (by simp [results, Tryz.results11, go_sem, y0, y1, y2, y3, y4, y5, y6, y7, y8]) rfl ?_
            rw [HT2.out]
            exact ⟨rfl, below_byS HB9.out HGV.out⟩
          | true =>
            have HT2 : Hid (T = (⟨3, zeroC, v⟩, true)) := Lib.hid (by rw [HX.out, hr]; rfl)
            rw [show rightS ⟨3, ⟨0, 0, 0, 0, 0, 0, 0⟩, v⟩ = true from hr] at HRI
            clear hr HX
            have HX8 : Hid (CsAt (wr.alloc (.cells #[.int .i64 3, .int .i64 0, .int .i64 0, .int .i64 0, .int .i64 0, .int .i64 0, .int .i64 0, .int .i64 0, .int .i64 v] TSt)) wr.heap.size (stCells ⟨3, zeroC, v⟩)) := Lib.hid (CsAt.made _ _ _)
            have HB8 : Hid (Below w.heap.size w (wr.alloc (.cells #[.int .i64 3, .int .i64 0, .int .i64 0, .int .i64 0, .int .i64 0, .int .i64 0, .int .i64 0, .int .i64 0, .int .i64 v] TSt))) := Lib.hid (HBWW.out.alloc HBWW.out.size _)
            have HZ8 := Lib.hid (HZW.out.below (by omega) ((Below.refl _ _).alloc (Nat.le_refl _) (.cells #[.int .i64 3, .int .i64 0, .int .i64 0, .int .i64 0, .int .i64 0, .int .i64 0, .int .i64 0, .int .i64 0, .int .i64 v] TSt)))
            have c1 : (wr.alloc (.cells #[.int .i64 2, .int .i64 0, .int .i64 0, .int .i64 0, .int .i64 0, .int .i64 0, .int .i64 0, .int .i64 0, .int .i64 v] TSt)).cell? ⟨b, o, none⟩ = some (.string (bs w0)) := by
              rw [cell_old _ _ o (by omega)]
              exact c0
            go_upto_region 14 with fail
            clear c0 c1 hcn2
            have hl8 : wr.heap.size < (World.heap (wr.alloc (.cells #[.int .i64 3, .int .i64 0, .int .i64 0, .int .i64 0, .int .i64 0, .int .i64 0, .int .i64 0, .int .i64 0, .int .i64 v] TSt))).size := by simp
            have hl9 : w.heap.size < (World.heap (wr.alloc (.cells #[.int .i64 3, .int .i64 0, .int .i64 0, .int .i64 0, .int .i64 0, .int .i64 0, .int .i64 0, .int .i64 0, .int .i64 v] TSt))).size := by omega
            generalize (wr.alloc (.cells #[.int .i64 3, .int .i64 0, .int .i64 0, .int .i64 0, .int .i64 0, .int .i64 0, .int .i64 0, .int .i64 0, .int .i64 v] TSt)) = w8 at *
            have x0 : w8.cell? ⟨wr.heap.size, 0, none⟩ = some (.int .i64 3) := HX8.out.cell 0
            have x1 : w8.cell? ⟨wr.heap.size, 1, none⟩ = some (.int .i64 0) := HX8.out.cell 1
            have x2 : w8.cell? ⟨wr.heap.size, 2, none⟩ = some (.int .i64 0) := HX8.out.cell 2
            have x3 : w8.cell? ⟨wr.heap.size, 3, none⟩ = some (.int .i64 0) := HX8.out.cell 3
            have x4 : w8.cell? ⟨wr.heap.size, 4, none⟩ = some (.int .i64 0) := HX8.out.cell 4
            have x5 : w8.cell? ⟨wr.heap.size, 5, none⟩ = some (.int .i64 0) := HX8.out.cell 5
            have x6 : w8.cell? ⟨wr.heap.size, 6, none⟩ = some (.int .i64 0) := HX8.out.cell 6
            have x7 : w8.cell? ⟨wr.heap.size, 7, none⟩ = some (.int .i64 0) := HX8.out.cell 7
            have x8 : w8.cell? ⟨wr.heap.size, 8, none⟩ = some (.int .i64 v) := HX8.out.cell 8
            go_wp2_with (go_at_call 7; refine (HRI.out _).mono ?_; rintro e w9 ⟨rfl, hb9⟩; have HZ9 := Lib.hid (HZ8.out.below hl9 hb9); have HX9 := Lib.hid (HX8.out.below hl8 hb9); have HB9 : Hid (Below w.heap.size w w9) := Lib.hid (HB8.out.trans (hb9.mono HB8.out.size)); clear hb9 x0 x1 x2 x3 x4 x5 x6 x7 x8; have z0 : w9.cell? ⟨w.heap.size, 0, none⟩ = some (.int .i64 0) := HZ9.out.cell 0; have z1 : w9.cell? ⟨w.heap.size, 1, none⟩ = some (.int .i64 0) := HZ9.out.cell 1; have z2 : w9.cell? ⟨w.heap.size, 2, none⟩ = some (.int .i64 0) := HZ9.out.cell 2; have z3 : w9.cell? ⟨w.heap.size, 3, none⟩ = some (.int .i64 0) := HZ9.out.cell 3; have z4 : w9.cell? ⟨w.heap.size, 4, none⟩ = some (.int .i64 0) := HZ9.out.cell 4; have z5 : w9.cell? ⟨w.heap.size, 5, none⟩ = some (.int .i64 0) := HZ9.out.cell 5; have z6 : w9.cell? ⟨w.heap.size, 6, none⟩ = some (.int .i64 0) := HZ9.out.cell 6; have z7 : w9.cell? ⟨w.heap.size, 7, none⟩ = some (.int .i64 0) := HZ9.out.cell 7; have z8 : w9.cell? ⟨w.heap.size, 8, none⟩ = some (.int .i64 0) := HZ9.out.cell 8; have zf := HZ9.out.fz; have x0 : w9.cell? ⟨wr.heap.size, 0, none⟩ = some (.int .i64 3) := HX9.out.cell 0; have x1 : w9.cell? ⟨wr.heap.size, 1, none⟩ = some (.int .i64 0) := HX9.out.cell 1; have x2 : w9.cell? ⟨wr.heap.size, 2, none⟩ = some (.int .i64 0) := HX9.out.cell 2; have x3 : w9.cell? ⟨wr.heap.size, 3, none⟩ = some (.int .i64 0) := HX9.out.cell 3; have x4 : w9.cell? ⟨wr.heap.size, 4, none⟩ = some (.int .i64 0) := HX9.out.cell 4; have x5 : w9.cell? ⟨wr.heap.size, 5, none⟩ = some (.int .i64 0) := HX9.out.cell 5; have x6 : w9.cell? ⟨wr.heap.size, 6, none⟩ = some (.int .i64 0) := HX9.out.cell 6; have x7 : w9.cell? ⟨wr.heap.size, 7, none⟩ = some (.int .i64 0) := HX9.out.cell 7; have x8 : w9.cell? ⟨wr.heap.size, 8, none⟩ = some (.int .i64 v) := HX9.out.cell 8)
            obtain ⟨hov, hgv⟩ := HZ9.out.over ⟨3, zeroC, v⟩
            obtain ⟨W5, hW5⟩ : ∃ W5, W5 = (World.setCell (World.setCell (World.setCell (World.setCell (World.setCell (World.setCell (World.setCell (World.setCell (World.setCell w9 ⟨w.heap.size, 0, none⟩ (.int .i64 3)) ⟨w.heap.size, 1, none⟩ (.int .i64 0)) ⟨w.heap.size, 2, none⟩ (.int .i64 0)) ⟨w.heap.size, 3, none⟩ (.int .i64 0)) ⟨w.heap.size, 4, none⟩ (.int .i64 0)) ⟨w.heap.size, 5, none⟩ (.int .i64 0)) ⟨w.heap.size, 6, none⟩ (.int .i64 0)) ⟨w.heap.size, 7, none⟩ (.int .i64 0)) ⟨w.heap.size, 8, none⟩ (.int .i64 v)) := ⟨_, rfl⟩
            have HOV : Hid (CsAt W5 w.heap.size (stCells ⟨3, zeroC, v⟩)) := Lib.hid (by rw [hW5]; exact hov)
            have HGV : Hid (w9.grownBy W5 (some w.heap.size)) := Lib.hid (by rw [hW5]; exact hgv)
            rw [← hW5]
            clear hov hgv hW5
            have y0 : W5.cell? ⟨w.heap.size, 0, none⟩ = some (.int .i64 3) := HOV.out.cell 0
            have y1 : W5.cell? ⟨w.heap.size, 1, none⟩ = some (.int .i64 0) := HOV.out.cell 1
            have y2 : W5.cell? ⟨w.heap.size, 2, none⟩ = some (.int .i64 0) := HOV.out.cell 2
            have y3 : W5.cell? ⟨w.heap.size, 3, none⟩ = some (.int .i64 0) := HOV.out.cell 3
            have y4 : W5.cell? ⟨w.heap.size, 4, none⟩ = some (.int .i64 0) := HOV.out.cell 4
            have y5 : W5.cell? ⟨w.heap.size, 5, none⟩ = some (.int .i64 0) := HOV.out.cell 5
            have y6 : W5.cell? ⟨w.heap.size, 6, none⟩ = some (.int .i64 0) := HOV.out.cell 6
            have y7 : W5.cell? ⟨w.heap.size, 7, none⟩ = some (.int .i64 0) := HOV.out.cell 7
            have y8 : W5.cell? ⟨w.heap.size, 8, none⟩ = some (.int .i64 v) := HOV.out.cell 8
            refine bodyPost_ret (v := .tuple #[.agg #[.int .i64 3, .int .i64 0, .int .i64 0, .int .i64 0, .int .i64 0, .int .i64 0, .int .i64 0, .int .i64 0, .int .i64 v], .bool true]) (by simp [results, Tryz.results11, go_sem, y0, y1, y2, y3, y4, y5, y6, y7, y8]) rfl ?_
            rw [HT2.out]
            exact ⟨rfl, below_byS HB9.out HGV.out⟩
        · have hf : w0 = fuseW := hw.resolve_right hc
          have HX : Hid (T = if rightS ⟨2, zeroC, v⟩ = true then (⟨2, zeroC, v⟩, true) else (zeroS, false)) := Lib.hid (by rw [HTV.out]; unfold midV; rw [if_pos ⟨hw, rfl⟩, if_neg hc]; rfl)
          have hf1 : (w0 == [102, 117, 115, 101]) = true := beq_iff_eq.2 hf
          have hc1 : (w0 == [99, 114, 97, 115, 104]) = false := beq_eq_false_iff_ne.2 hc
          clear hw hc hf HTV
          have HRI := Lib.hid (fun W => srright_any ⟨2, zeroC, v⟩ W)
          unfold stV stCells at HRI
          simp only [zeroC] at HRI
          cases hr : rightS ⟨2, zeroC, v⟩ with
          | false =>
            have HT2 : Hid (T = (zeroS, false)) := Lib.hid (by rw [HX.out, hr]; rfl)
            rw [show rightS ⟨2, ⟨0, 0, 0, 0, 0, 0, 0⟩, v⟩ = false from hr] at HRI
            clear hr HX
            have HX8 : Hid (CsAt (wr.alloc (.cells #[.int .i64 2, .int .i64 0, .int .i64 0, .int .i64 0, .int .i64 0, .int .i64 0, .int .i64 0, .int .i64 0, .int .i64 v] TSt)) wr.heap.size (stCells ⟨2, zeroC, v⟩)) := Lib.hid (CsAt.made _ _ _)
            have HB8 : Hid (Below w.heap.size w (wr.alloc (.cells #[.int .i64 2, .int .i64 0, .int .i64 0, .int .i64 0, .int .i64 0, .int .i64 0, .int .i64 0, .int .i64 0, .int .i64 v] TSt))) := Lib.hid (HBWW.out.alloc HBWW.out.size _)
            have HZ8 := Lib.hid (HZW.out.below (by omega) ((Below.refl _ _).alloc (Nat.le_refl _) (.cells #[.int .i64 2, .int .i64 0, .int .i64 0, .int .i64 0, .int .i64 0, .int .i64 0, .int .i64 0, .int .i64 0, .int .i64 v] TSt)))
            have c1 : (wr.alloc (.cells #[.int .i64 2, .int .i64 0, .int .i64 0, .int .i64 0, .int .i64 0, .int .i64 0, .int .i64 0, .int .i64 0, .int .i64 v] TSt)).cell? ⟨b, o, none⟩ = some (.string (bs w0)) := by
              rw [cell_old _ _ o (by omega)]
              exact c0
            go_upto_region 14 with fail
            clear c0 c1 hcn2
            have hl8 : wr.heap.size < (World.heap (wr.alloc (.cells #[.int .i64 2, .int .i64 0, .int .i64 0, .int .i64 0, .int .i64 0, .int .i64 0, .int .i64 0, .int .i64 0, .int .i64 v] TSt))).size := by simp
            have hl9 : w.heap.size < (World.heap (wr.alloc (.cells #[.int .i64 2, .int .i64 0, .int .i64 0, .int .i64 0, .int .i64 0, .int .i64 0, .int .i64 0, .int .i64 0, .int .i64 v] TSt))).size := by omega
            generalize (wr.alloc (.cells #[.int .i64 2, .int .i64 0, .int .i64 0, .int .i64 0, .int .i64 0, .int .i64 0, .int .i64 0, .int .i64 0, .int .i64 v] TSt)) = w8 at *
            have x0 : w8.cell? ⟨wr.heap.size, 0, none⟩ = some (.int .i64 2) := HX8.out.cell 0
            have x1 : w8.cell? ⟨wr.heap.size, 1, none⟩ = some (.int .i64 0) := HX8.out.cell 1
            have x2 : w8.cell? ⟨wr.heap.size, 2, none⟩ = some (.int .i64 0) := HX8.out.cell 2
            have x3 : w8.cell? ⟨wr.heap.size, 3, none⟩ = some (.int .i64 0) := HX8.out.cell 3
            have x4 : w8.cell? ⟨wr.heap.size, 4, none⟩ = some (.int .i64 0) := HX8.out.cell 4
            have x5 : w8.cell? ⟨wr.heap.size, 5, none⟩ = some (.int .i64 0) := HX8.out.cell 5
            have x6 : w8.cell? ⟨wr.heap.size, 6, none⟩ = some (.int .i64 0) := HX8.out.cell 6
            have x7 : w8.cell? ⟨wr.heap.size, 7, none⟩ = some (.int .i64 0) := HX8.out.cell 7
            have x8 : w8.cell? ⟨wr.heap.size, 8, none⟩ = some (.int .i64 v) := HX8.out.cell 8
            go_wp2_with (go_at_call 7; refine (HRI.out _).mono ?_; rintro e w9 ⟨rfl, hb9⟩; have HZ9 := Lib.hid (HZ8.out.below hl9 hb9); have HX9 := Lib.hid (HX8.out.below hl8 hb9); have HB9 : Hid (Below w.heap.size w w9) := Lib.hid (HB8.out.trans (hb9.mono HB8.out.size)); clear hb9 x0 x1 x2 x3 x4 x5 x6 x7 x8; have z0 : w9.cell? ⟨w.heap.size, 0, none⟩ = some (.int .i64 0) := HZ9.out.cell 0; have z1 : w9.cell? ⟨w.heap.size, 1, none⟩ = some (.int .i64 0) := HZ9.out.cell 1; have z2 : w9.cell? ⟨w.heap.size, 2, none⟩ = some (.int .i64 0) := HZ9.out.cell 2; have z3 : w9.cell? ⟨w.heap.size, 3, none⟩ = some (.int .i64 0) := HZ9.out.cell 3; have z4 : w9.cell? ⟨w.heap.size, 4, none⟩ = some (.int .i64 0) := HZ9.out.cell 4; have z5 : w9.cell? ⟨w.heap.size, 5, none⟩ = some (.int .i64 0) := HZ9.out.cell 5; have z6 : w9.cell? ⟨w.heap.size, 6, none⟩ = some (.int .i64 0) := HZ9.out.cell 6; have z7 : w9.cell? ⟨w.heap.size, 7, none⟩ = some (.int .i64 0) := HZ9.out.cell 7; have z8 : w9.cell? ⟨w.heap.size, 8, none⟩ = some (.int .i64 0) := HZ9.out.cell 8; have zf := HZ9.out.fz; have x0 : w9.cell? ⟨wr.heap.size, 0, none⟩ = some (.int .i64 2) := HX9.out.cell 0; have x1 : w9.cell? ⟨wr.heap.size, 1, none⟩ = some (.int .i64 0) := HX9.out.cell 1; have x2 : w9.cell? ⟨wr.heap.size, 2, none⟩ = some (.int .i64 0) := HX9.out.cell 2; have x3 : w9.cell? ⟨wr.heap.size, 3, none⟩ = some (.int .i64 0) := HX9.out.cell 3; have x4 : w9.cell? ⟨wr.heap.size, 4, none⟩ = some (.int .i64 0) := HX9.out.cell 4; have x5 : w9.cell? ⟨wr.heap.size, 5, none⟩ = some (.int .i64 0) := HX9.out.cell 5; have x6 : w9.cell? ⟨wr.heap.size, 6, none⟩ = some (.int .i64 0) := HX9.out.cell 6; have x7 : w9.cell? ⟨wr.heap.size, 7, none⟩ = some (.int .i64 0) := HX9.out.cell 7; have x8 : w9.cell? ⟨wr.heap.size, 8, none⟩ = some (.int .i64 v) := HX9.out.cell 8)
            obtain ⟨hov, hgv⟩ := HZ9.out.over zeroS
            obtain ⟨W5, hW5⟩ : ∃ W5, W5 = (World.setCell (World.setCell (World.setCell (World.setCell (World.setCell (World.setCell (World.setCell (World.setCell (World.setCell w9 ⟨w.heap.size, 0, none⟩ (.int .i64 0)) ⟨w.heap.size, 1, none⟩ (.int .i64 0)) ⟨w.heap.size, 2, none⟩ (.int .i64 0)) ⟨w.heap.size, 3, none⟩ (.int .i64 0)) ⟨w.heap.size, 4, none⟩ (.int .i64 0)) ⟨w.heap.size, 5, none⟩ (.int .i64 0)) ⟨w.heap.size, 6, none⟩ (.int .i64 0)) ⟨w.heap.size, 7, none⟩ (.int .i64 0)) ⟨w.heap.size, 8, none⟩ (.int .i64 0)) := ⟨_, rfl⟩
            have HOV : Hid (CsAt W5 w.heap.size (stCells zeroS)) := Lib.hid (by rw [hW5]; exact hov)
            have HGV : Hid (w9.grownBy W5 (some w.heap.size)) := Lib.hid (by rw [hW5]; exact hgv)
            rw [← hW5]
            clear hov hgv hW5
            have y0 : W5.cell? ⟨w.heap.size, 0, none⟩ = some (.int .i64 0) := HOV.out.cell 0
            have y1 : W5.cell? ⟨w.heap.size, 1, none⟩ = some (.int .i64 0) := HOV.out.cell 1
            have y2 : W5.cell? ⟨w.heap.size, 2, none⟩ = some (.int .i64 0) := HOV.out.cell 2
            have y3 : W5.cell? ⟨w.heap.size, 3, none⟩ = some (.int .i64 0) := HOV.out.cell 3
            have y4 : W5.cell? ⟨w.heap.size, 4, none⟩ = some (.int .i64 0) := HOV.out.cell 4
            have y5 : W5.cell? ⟨w.heap.size, 5, none⟩ = some (.int .i64 0) := HOV.out.cell 5
            have y6 : W5.cell? ⟨w.heap.size, 6, none⟩ = some (.int .i64 0) := HOV.out.cell 6
            have y7 : W5.cell? ⟨w.heap.size, 7, none⟩ = some (.int .i64 0) := HOV.out.cell 7
            have y8 : W5.cell? ⟨w.heap.size, 8, none⟩ = some (.int .i64 0) := HOV.out.cell 8
            refine bodyPost_ret (v := .tuple #[.agg #[.int .i64 0, .int .i64 0, .int .i64 0, .int .i64 0, .int .i64 0, .int .i64 0, .int .i64 0, .int .i64 0, .int .i64 0], .bool false]) (by simp [results, Tryz.results11, go_sem, y0, y1, y2, y3, y4, y5, y6, y7, y8]) rfl ?_
            rw [HT2.out]
            exact ⟨rfl, below_byS HB9.out HGV.out⟩
          | true =>
            have HT2 : Hid (T = (⟨2, zeroC, v⟩, true)) := Lib.hid (by rw [HX.out, hr]; rfl)
            rw [show rightS ⟨2, ⟨0, 0, 0, 0, 0, 0, 0⟩, v⟩ = true from hr] at HRI
            clear hr HX
            have HX8 : Hid (CsAt (wr.alloc (.cells #[.int .i64 2, .int .i64 0, .int .i64 0, .int .i64 0, .int .i64 0, .int .i64 0, .int .i64 0, .int .i64 0, .int .i64 v] TSt)) wr.heap.size (stCells ⟨2, zeroC, v⟩)) := Lib.hid (CsAt.made _ _ _)
            have HB8 : Hid (Below w.heap.size w (wr.alloc (.cells #[.int .i64 2, .int .i64 0, .int .i64 0, .int .i64 0, .int .i64 0, .int .i64 0, .int .i64 0, .int .i64 0, .int .i64 v] TSt))) := Lib.hid (HBWW.out.alloc HBWW.out.size _)
            have HZ8 := Lib.hid (HZW.out.below (by omega) ((Below.refl _ _).alloc (Nat.le_refl _) (.cells #[.int .i64 2, .int .i64 0, .int .i64 0, .int .i64 0, .int .i64 0, .int .i64 0, .int .i64 0, .int .i64 0, .int .i64 v] TSt)))
            have c1 : (wr.alloc (.cells #[.int .i64 2, .int .i64 0, .int .i64 0, .int .i64 0, .int .i64 0, .int .i64 0, .int .i64 0, .int .i64 0, .int .i64 v] TSt)).cell? ⟨b, o, none⟩ = some (.string (bs w0)) := by
              rw [cell_old _ _ o (by omega)]
              exact c0
            go_upto_region 14 with fail
            clear c0 c1 hcn2
            have hl8 : wr.heap.size < (World.heap (wr.alloc (.cells #[.int .i64 2, .int .i64 0, .int .i64 0, .int .i64 0, .int .i64 0, .int .i64 0, .int .i64 0, .int .i64 0, .int .i64 v] TSt))).size := by simp
            have hl9 : w.heap.size < (World.heap (wr.alloc (.cells #[.int .i64 2, .int .i64 0, .int .i64 0, .int .i64 0, .int .i64 0, .int .i64 0, .int .i64 0, .int .i64 0, .int .i64 v] TSt))).size := by omega
            generalize (wr.alloc (.cells #[.int .i64 2, .int .i64 0, .int .i64 0, .int .i64 0, .int .i64 0, .int .i64 0, .int .i64 0, .int .i64 0, .int .i64 v] TSt)) = w8 at *
            have x0 : w8.cell? ⟨wr.heap.size, 0, none⟩ = some (.int .i64 2) := HX8.out.cell 0
            have x1 : w8.cell? ⟨wr.heap.size, 1, none⟩ = some (.int .i64 0) := HX8.out.cell 1
            have x2 : w8.cell? ⟨wr.heap.size, 2, none⟩ = some (.int .i64 0) := HX8.out.cell 2
            have x3 : w8.cell? ⟨wr.heap.size, 3, none⟩ = some (.int .i64 0) := HX8.out.cell 3
            have x4 : w8.cell? ⟨wr.heap.size, 4, none⟩ = some (.int .i64 0) := HX8.out.cell 4
            have x5 : w8.cell? ⟨wr.heap.size, 5, none⟩ = some (.int .i64 0) := HX8.out.cell 5
            have x6 : w8.cell? ⟨wr.heap.size, 6, none⟩ = some (.int .i64 0) := HX8.out.cell 6
            have x7 : w8.cell? ⟨wr.heap.size, 7, none⟩ = some (.int .i64 0) := HX8.out.cell 7
            have x8 : w8.cell? ⟨wr.heap.size, 8, none⟩ = some (.int .i64 v) := HX8.out.cell 8
            go_wp2_with (go_at_call 7; refine (HRI.out _).mono ?_; rintro e w9 ⟨rfl, hb9⟩; have HZ9 := Lib.hid (HZ8.out.below hl9 hb9); have HX9 := Lib.hid (HX8.out.below hl8 hb9); have HB9 : Hid (Below w.heap.size w w9) := Lib.hid (HB8.out.trans (hb9.mono HB8.out.size)); clear hb9 x0 x1 x2 x3 x4 x5 x6 x7 x8; have z0 : w9.cell? ⟨w.heap.size, 0, none⟩ = some (.int .i64 0) := HZ9.out.cell 0; have z1 : w9.cell? ⟨w.heap.size, 1, none⟩ = some (.int .i64 0) := HZ9.out.cell 1; have z2 : w9.cell? ⟨w.heap.size, 2, none⟩ = some (.int .i64 0) := HZ9.out.cell 2; have z3 : w9.cell? ⟨w.heap.size, 3, none⟩ = some (.int .i64 0) := HZ9.out.cell 3; have z4 : w9.cell? ⟨w.heap.size, 4, none⟩ = some (.int .i64 0) := HZ9.out.cell 4; have z5 : w9.cell? ⟨w.heap.size, 5, none⟩ = some (.int .i64 0) := HZ9.out.cell 5; have z6 : w9.cell? ⟨w.heap.size, 6, none⟩ = some (.int .i64 0) := HZ9.out.cell 6; have z7 : w9.cell? ⟨w.heap.size, 7, none⟩ = some (.int .i64 0) := HZ9.out.cell 7; have z8 : w9.cell? ⟨w.heap.size, 8, none⟩ = some (.int .i64 0) := HZ9.out.cell 8; have zf := HZ9.out.fz; have x0 : w9.cell? ⟨wr.heap.size, 0, none⟩ = some (.int .i64 2) := HX9.out.cell 0; have x1 : w9.cell? ⟨wr.heap.size, 1, none⟩ = some (.int .i64 0) := HX9.out.cell 1; have x2 : w9.cell? ⟨wr.heap.size, 2, none⟩ = some (.int .i64 0) := HX9.out.cell 2; have x3 : w9.cell? ⟨wr.heap.size, 3, none⟩ = some (.int .i64 0) := HX9.out.cell 3; have x4 : w9.cell? ⟨wr.heap.size, 4, none⟩ = some (.int .i64 0) := HX9.out.cell 4; have x5 : w9.cell? ⟨wr.heap.size, 5, none⟩ = some (.int .i64 0) := HX9.out.cell 5; have x6 : w9.cell? ⟨wr.heap.size, 6, none⟩ = some (.int .i64 0) := HX9.out.cell 6; have x7 : w9.cell? ⟨wr.heap.size, 7, none⟩ = some (.int .i64 0) := HX9.out.cell 7; have x8 : w9.cell? ⟨wr.heap.size, 8, none⟩ = some (.int .i64 v) := HX9.out.cell 8)
            obtain ⟨hov, hgv⟩ := HZ9.out.over ⟨2, zeroC, v⟩
            obtain ⟨W5, hW5⟩ : ∃ W5, W5 = (World.setCell (World.setCell (World.setCell (World.setCell (World.setCell (World.setCell (World.setCell (World.setCell (World.setCell w9 ⟨w.heap.size, 0, none⟩ (.int .i64 2)) ⟨w.heap.size, 1, none⟩ (.int .i64 0)) ⟨w.heap.size, 2, none⟩ (.int .i64 0)) ⟨w.heap.size, 3, none⟩ (.int .i64 0)) ⟨w.heap.size, 4, none⟩ (.int .i64 0)) ⟨w.heap.size, 5, none⟩ (.int .i64 0)) ⟨w.heap.size, 6, none⟩ (.int .i64 0)) ⟨w.heap.size, 7, none⟩ (.int .i64 0)) ⟨w.heap.size, 8, none⟩ (.int .i64 v)) := ⟨_, rfl⟩
            have HOV : Hid (CsAt W5 w.heap.size (stCells ⟨2, zeroC, v⟩)) := Lib.hid (by rw [hW5]; exact hov)
            have HGV : Hid (w9.grownBy W5 (some w.heap.size)) := Lib.hid (by rw [hW5]; exact hgv)
            rw [← hW5]
            clear hov hgv hW5
            have y0 : W5.cell? ⟨w.heap.size, 0, none⟩ = some (.int .i64 2) := HOV.out.cell 0
            have y1 : W5.cell? ⟨w.heap.size, 1, none⟩ = some (.int .i64 0) := HOV.out.cell 1
            have y2 : W5.cell? ⟨w.heap.size, 2, none⟩ = some (.int .i64 0) := HOV.out.cell 2
            have y3 : W5.cell? ⟨w.heap.size, 3, none⟩ = some (.int .i64 0) := HOV.out.cell 3
            have y4 : W5.cell? ⟨w.heap.size, 4, none⟩ = some (.int .i64 0) := HOV.out.cell 4
            have y5 : W5.cell? ⟨w.heap.size, 5, none⟩ = some (.int .i64 0) := HOV.out.cell 5
            have y6 : W5.cell? ⟨w.heap.size, 6, none⟩ = some (.int .i64 0) := HOV.out.cell 6
            have y7 : W5.cell? ⟨w.heap.size, 7, none⟩ = some (.int .i64 0) := HOV.out.cell 7
            have y8 : W5.cell? ⟨w.heap.size, 8, none⟩ = some (.int .i64 v) := HOV.out.cell 8
            refine bodyPost_ret (v := .tuple #[.agg #[.int .i64 2, .int .i64 0, .int .i64 0, .int .i64 0, .int .i64 0, .int .i64 0, .int .i64 0, .int .i64 0, .int .i64 v], .bool true]) (by simp [results, Tryz.results11, go_sem, y0, y1, y2, y3, y4, y5, y6, y7, y8]) rfl ?_
            rw [HT2.out]
            exact ⟨rfl, below_byS HB9.out HGV.out⟩
      · have HT3 : Hid (T = if kindW w0 ≠ 0 ∧ (jsOf (kindW w0 : Int)).length = N then ((⟨1, (getC (putN (kindW w0 : Int) ++ vs.flatMap putN)).1, 0⟩ : St), (getC (putN (kindW w0 : Int) ++ vs.flatMap putN)).2 == 0) else (zeroS, false)) := Lib.hid (by rw [HTV.out]; unfold midV; rw [HVL.out, if_neg hfx])
        have hfl := flat_len _ HIN.out
        clear HTV
        rw [HVL.out] at hfl
        have HAL0 : Hid (∀ W, Below wr.heap.size wr W → Calls Tryz.prog 36 #[.slice Au N cu] W fun e w' => e = .returned (.string (bs (vs.flatMap putN))) ∧ Below W.heap.size W w') := Lib.hid fun W hW => by
          have h := rall_any vs Au cu W ((HSU.out.below hW).mono hW.size) HIN.out (by rw [HVL.out]; omega)
          rw [HVL.out] at h
          exact h
        clear HIN HSU HVL
        generalize wr = wa at *
        have HS0 : Hid (∀ W, Below wa.heap.size wa W → W.cell? ⟨b, o, none⟩ = some (.string (bs w0))) := Lib.hid (fun W hW => (hW.cell (p := ⟨b, o, none⟩) (by show b < _; omega)).trans c0)
        by_cases hf : w0 = fuseW
        · have hf1 : (w0 == [102, 117, 115, 101]) = true := beq_iff_eq.2 hf
          have hn1 : ((N : Int) == 1) = false := by simpa using (show (N : Int) ≠ 1 from fun e => hfx ⟨.inl hf, by omega⟩)
          clear hfx hf
          go_wp2_with fail
          go_loopw [10] (fun i wr => ∃ q : Nat, 1 ≤ q ∧ q ≤ 11 ∧ i = .int .i64 (q : Int) ∧ Hid (∀ k, 1 ≤ k → k < q → ¬ (wordL k = w0 ∧ (jsOf (k : Int)).length = N)) ∧ Hid (Below wa.heap.size wa wr)) (fun i _ => 11 - (intOf i).toNat)
          case atStart => exact ⟨1, Nat.le_refl _, by omega, rfl, Lib.hid (fun k h1 h2 => by omega), Lib.hid (Below.refl _ _)⟩
          case round =>
            clear c0
            obtain ⟨q, hq1, hq11, rfl, HNO, HBQ⟩ := hrel
            by_cases hq : q ≤ 10
            · have hlq : (q : Int) ≤ 10 := by omega
              have hik := isK_small hq1 hq
              have HLN := Lib.hid (fun W => srline_any ⟨1, ⟨q, 0, 0, 0, 0, 0, 0⟩, 0⟩ (by unfold StOk CmOk I64; simp; omega) (.inr (.inr ⟨rfl, hik⟩)) W)
              unfold stV stCells at HLN
              simp only at HLN
              obtain ⟨ln, hln⟩ : ∃ ln, ln = lineS ⟨1, ⟨q, 0, 0, 0, 0, 0, 0⟩, 0⟩ := ⟨_, rfl⟩
              have hsl := split_line ⟨1, ⟨q, 0, 0, 0, 0, 0, 0⟩, 0⟩
              have hll : (lineS ⟨1, ⟨q, 0, 0, 0, 0, 0, 0⟩, 0⟩).length ≤ 133 := lineS_len (by unfold StOk CmOk I64; simp; omega)
              rw [← hln] at HLN hsl hll
              have hwq : wordS ⟨1, ⟨q, 0, 0, 0, 0, 0, 0⟩, 0⟩ = wordL q := rfl
              rw [hwq] at hsl
              have HWDS := Lib.hid (fun W => words_any ln W (by omega))
              unfold GotT at HWDS
              rw [hsl, List.length_cons] at HWDS
              generalize (numsS ⟨1, ⟨q, 0, 0, 0, 0, 0, 0⟩, 0⟩).map Lib.itoa = ts at *
              clear hsl hll hwq hln
              have HHA := Lib.hid (fun W => rhas_any (q : Int) W)
              have hsj := letters_len hik
              generalize lettersOf (q : Int) = L at *
              have hsL := bs_size L
              clear hik
              obtain ⟨X, hX⟩ : ∃ X, X = wordL q := ⟨_, rfl⟩
              rw [← hX] at HWDS
              have hlb : b < wa.heap.size := by omega
              have hbq := HBQ.out.size
              have c6 : wr.cell? ⟨b, o, none⟩ = some (.string (bs w0)) := HS0.out wr HBQ.out
              have hbd : Below wr.heap.size wr wr.drew := (Below.refl _ _).drew
              have HSK : Hid (∀ W, Below wr.heap.size wr W → W.cell? ⟨b, o, none⟩ = some (.string (bs w0))) := Lib.hid (fun W hW => HS0.out W (HBQ.out.trans (hW.mono hbq)))
              by_cases hw : wordL q = w0
              · have hwb : (X == w0) = true := by rw [hX]; simpa using hw
                by_cases hn : (jsOf (q : Int)).length = N
                · have hnb : ((L.length : Int) == (N : Int)) = true := by rw [hsj, hn]; simp
                  clear hX
                  have hK : kindW w0 = q := kindW_at hq1 (by omega) hw
                  have HT4 : Hid (T = ((⟨1, (getC (putN (q : Int) ++ vs.flatMap putN)).1, 0⟩ : St), (getC (putN (q : Int) ++ vs.flatMap putN)).2 == 0)) := Lib.hid (by rw [HT3.out, hK, if_pos ⟨by omega, hn⟩])
                  have hqi : I64 (q : Int) := by unfold I64; omega
                  have HPU := Lib.hid (fun W => rput_any (q : Int) W hqi)
                  have hpl := putN_len hqi
                  have HGE := Lib.hid (fun W => rget11_any (putN (q : Int) ++ vs.flatMap putN) W (by rw [List.length_append]; omega))
                  unfold cmV at HGE
                  generalize getC (putN (q : Int) ++ vs.flatMap putN) = GC at *
                  obtain ⟨cc, ec⟩ := GC
                  simp only at HT4 HGE
                  have HT2 := HT4
                  clear HT3 HT4 hqi hK
                  generalize vs.flatMap putN = pf at *
                  generalize putN (q : Int) = pk at *
                  have hs1 := bs_size pk
                  have hs2 := bs_size pf
                  have hap := bs_append pk pf
                  have hbig : ¬ 9223372036854775807 < pk.length + pf.length := by omega
                  clear hpl hfl HNO hw hn hsj
                  go_upto_region 20 with fail
                  refine wp_region_held_drew (S := fun W => W.cell? ⟨b, o, none⟩ = some (.string (bs w0))) (by kernel_rfl) (HSK.out _ hbd) (fun hHeld => ?_)
                  refine wpAnyH_take (i := 0) (v := .int .i64 (q : Int)) rfl (by kernel_rfl) (by kernel_rfl) (by kernel_rfl) (fun _ _ _ h => h) (Or.inl ⟨by rfl, fun w' hSw => by dsimp only at hSw; go_simp⟩) hHeld ?_
                  (try simp only [Act.put, List.getElem_toArray, List.getElem_cons_zero, List.getElem_cons_succ, List.setIfInBounds_toArray, List.set_cons_zero, List.set_cons_succ])
                  refine wpAnyH_take (i := 1) (v := .agg #[.int .i64 (q : Int), .int .i64 0, .int .i64 0, .int .i64 0, .int .i64 0, .int .i64 0, .int .i64 0]) rfl (by kernel_rfl) (by kernel_rfl) (by kernel_rfl) (fun _ _ _ h => h) (Or.inl ⟨by rfl, fun w' hSw => by dsimp only at hSw; go_simp⟩) hHeld ?_
                  (try simp only [Act.put, List.getElem_toArray, List.getElem_cons_zero, List.getElem_cons_succ, List.setIfInBounds_toArray, List.set_cons_zero, List.set_cons_succ])
                  refine wpAnyH_take (i := 2) (v := .agg #[.int .i64 1, .int .i64 (q : Int), .int .i64 0, .int .i64 0, .int .i64 0, .int .i64 0, .int .i64 0, .int .i64 0, .int .i64 0]) rfl (by kernel_rfl) (by kernel_rfl) (by kernel_rfl) (fun _ _ _ h => h) (Or.inl ⟨by rfl, fun w' hSw => by dsimp only at hSw; go_simp⟩) hHeld ?_
                  (try simp only [Act.put, List.getElem_toArray, List.getElem_cons_zero, List.getElem_cons_succ, List.setIfInBounds_toArray, List.set_cons_zero, List.set_cons_succ])
                  refine wpAnyH_take (i := 7) (v := .slice (some ⟨b, o, none⟩) (N + 1) c) rfl (by kernel_rfl) (by kernel_rfl) (by kernel_rfl) (fun _ _ _ h => h) (Or.inl ⟨by rfl, fun w' hSw => by dsimp only at hSw; go_simp⟩) hHeld ?_
                  (try simp only [Act.put, List.getElem_toArray, List.getElem_cons_zero, List.getElem_cons_succ, List.setIfInBounds_toArray, List.set_cons_zero, List.set_cons_succ])
                  refine wpAnyH_take (i := 8) (v := .pointer (some ⟨b, o, none⟩)) rfl (by kernel_rfl) (by kernel_rfl) (by kernel_rfl) (fun _ _ _ h => h) (Or.inl ⟨by rfl, fun w' hSw => by dsimp only at hSw; go_simp⟩) hHeld ?_
                  (try simp only [Act.put, List.getElem_toArray, List.getElem_cons_zero, List.getElem_cons_succ, List.setIfInBounds_toArray, List.set_cons_zero, List.set_cons_succ])
                  refine wpAnyH_take (i := 9) (v := .string (bs w0)) rfl (by kernel_rfl) (by kernel_rfl) (by kernel_rfl) (fun _ _ _ h => h) (Or.inl ⟨by rfl, fun w' hSw => by dsimp only at hSw; go_simp⟩) hHeld ?_
                  (try simp only [Act.put, List.getElem_toArray, List.getElem_cons_zero, List.getElem_cons_succ, List.setIfInBounds_toArray, List.set_cons_zero, List.set_cons_succ])
                  refine wpAnyH_ready (rs := [3]) (by kernel_rfl) (by simp) ?_
                  refine AllReadyH.cons rfl (fun K hK => ?_) AllReadyH.nil
                  (try simp only [List.getElem_toArray, List.getElem_cons_zero, List.getElem_cons_succ])
                  go_simp
                  go_at_call 10
                  refine (HLN.out _).mono ?_
                  rintro e w7 ⟨rfl, hb⟩
                  have hb7 : Below wr.heap.size wr w7 := hbd.trans (hb.mono hbd.size)
                  clear hb
                  refine hK.out _ _ (HSK.out _ hb7) (fun hHeld => ?_)
                  clear hK K
                  (try simp only [Act.put, List.getElem_toArray, List.getElem_cons_zero, List.getElem_cons_succ, List.setIfInBounds_toArray, List.set_cons_zero, List.set_cons_succ])
                  refine wpAnyH_ready (rs := [4]) (by kernel_rfl) (by simp) ?_
                  refine AllReadyH.cons rfl (fun K hK => ?_) AllReadyH.nil
                  (try simp only [List.getElem_toArray, List.getElem_cons_zero, List.getElem_cons_succ])
                  go_simp
                  go_at_call 32
                  refine (HWDS.out _).mono ?_
                  rintro e w8 ⟨A8, c8, rfl, hsg, hb⟩
                  have hb8 : Below wr.heap.size wr w8 := hb7.trans (hb.mono hb7.size)
                  clear hb
                  obtain ⟨b8, o8, rfl, _, hc8⟩ := hsg.at (k := 0) (by rw [strs_len]; simp)
                  have hc9 : w8.cell? ⟨b8, o8, none⟩ = some (.string (bs X)) := hc8
                  clear hsg hc8
                  refine hK.out _ _ (HSK.out _ hb8) (fun hHeld => ?_)
                  clear hK K
                  (try simp only [Act.put, List.getElem_toArray, List.getElem_cons_zero, List.getElem_cons_succ, List.setIfInBounds_toArray, List.set_cons_zero, List.set_cons_succ])
                  refine wpAnyH_take (i := 5) (v := .pointer (some ⟨b8, o8, none⟩)) rfl (by kernel_rfl) (by kernel_rfl) (by kernel_rfl) (fun _ _ _ h => h) (Or.inl ⟨by rfl, fun w' hSw => by dsimp only at hSw; go_simp⟩) hHeld ?_
                  (try simp only [Act.put, List.getElem_toArray, List.getElem_cons_zero, List.getElem_cons_succ, List.setIfInBounds_toArray, List.set_cons_zero, List.set_cons_succ])
                  refine wpAnyH_ready (rs := [6]) (by kernel_rfl) (by simp) ?_
                  refine AllReadyH.cons rfl (fun K hK => ?_) AllReadyH.nil
                  (try simp only [List.getElem_toArray, List.getElem_cons_zero, List.getElem_cons_succ])
                  go_simp
                  refine hK.out _ _ (HSK.out _ hb8) (fun hHeld => ?_)
                  clear hK K
                  (try simp only [Act.put, List.getElem_toArray, List.getElem_cons_zero, List.getElem_cons_succ, List.setIfInBounds_toArray, List.set_cons_zero, List.set_cons_succ])
                  refine wpAnyH_take (i := 10) (v := .bool true) rfl (by kernel_rfl) (by kernel_rfl) (by kernel_rfl) (fun _ _ _ h => h) (Or.inl ⟨by rfl, fun w' hSw => by dsimp only at hSw; go_simp⟩) hHeld ?_
                  (try simp only [Act.put, List.getElem_toArray, List.getElem_cons_zero, List.getElem_cons_succ, List.setIfInBounds_toArray, List.set_cons_zero, List.set_cons_succ])
                  refine wpAnyH_take (i := 11) (v := .bool true) rfl (by kernel_rfl) (by kernel_rfl) (by kernel_rfl) (fun _ _ _ h => h) (Or.inl ⟨by rfl, fun w' hSw => by dsimp only at hSw; go_simp⟩) hHeld ?_
                  (try simp only [Act.put, List.getElem_toArray, List.getElem_cons_zero, List.getElem_cons_succ, List.setIfInBounds_toArray, List.set_cons_zero, List.set_cons_succ])
                  refine wpAnyH_take (i := 12) (v := .int .i64 (q : Int)) rfl (by kernel_rfl) (by kernel_rfl) (by kernel_rfl) (fun _ _ _ h => h) (Or.inl ⟨by rfl, fun w' hSw => by dsimp only at hSw; go_simp⟩) hHeld ?_
                  (try simp only [Act.put, List.getElem_toArray, List.getElem_cons_zero, List.getElem_cons_succ, List.setIfInBounds_toArray, List.set_cons_zero, List.set_cons_succ])
                  refine wpAnyH_take (i := 15) (v := .slice Au N cu) rfl (by kernel_rfl) (by kernel_rfl) (by kernel_rfl) (fun _ _ _ h => h) (Or.inl ⟨by rfl, fun w' hSw => by dsimp only at hSw; go_simp⟩) hHeld ?_
                  (try simp only [Act.put, List.getElem_toArray, List.getElem_cons_zero, List.getElem_cons_succ, List.setIfInBounds_toArray, List.set_cons_zero, List.set_cons_succ])
                  refine wpAnyH_take (i := 16) (v := .int .i64 (N : Int)) rfl (by kernel_rfl) (by kernel_rfl) (by kernel_rfl) (fun _ _ _ h => h) (Or.inl ⟨by rfl, fun w' hSw => by dsimp only at hSw; go_simp⟩) hHeld ?_
                  (try simp only [Act.put, List.getElem_toArray, List.getElem_cons_zero, List.getElem_cons_succ, List.setIfInBounds_toArray, List.set_cons_zero, List.set_cons_succ])
                  refine wpAnyH_ready (rs := [13]) (by kernel_rfl) (by simp) ?_
                  refine AllReadyH.cons rfl (fun K hK => ?_) AllReadyH.nil
                  (try simp only [List.getElem_toArray, List.getElem_cons_zero, List.getElem_cons_succ])
                  go_simp
                  go_at_call 31
                  refine (HHA.out _).mono ?_
                  rintro e w9 ⟨rfl, hb⟩
                  have hb9 : Below wr.heap.size wr w9 := hb8.trans (hb.mono hb8.size)
                  clear hb
                  refine hK.out _ _ (HSK.out _ hb9) (fun hHeld => ?_)
                  clear hK K
                  (try simp only [Act.put, List.getElem_toArray, List.getElem_cons_zero, List.getElem_cons_succ, List.setIfInBounds_toArray, List.set_cons_zero, List.set_cons_succ])
                  refine wpAnyH_take (i := 14) (v := .int .i64 (L.length : Int)) rfl (by kernel_rfl) (by kernel_rfl) (by kernel_rfl) (fun _ _ _ h => h) (Or.inl ⟨by rfl, fun w' hSw => by dsimp only at hSw; go_simp⟩) hHeld ?_
                  (try simp only [Act.put, List.getElem_toArray, List.getElem_cons_zero, List.getElem_cons_succ, List.setIfInBounds_toArray, List.set_cons_zero, List.set_cons_succ])
                  refine wpAnyH_take (i := 17) (v := .bool true) rfl (by kernel_rfl) (by kernel_rfl) (by kernel_rfl) (fun _ _ _ h => h) (Or.inl ⟨by rfl, fun w' hSw => by dsimp only at hSw; go_simp⟩) hHeld ?_
                  (try simp only [Act.put, List.getElem_toArray, List.getElem_cons_zero, List.getElem_cons_succ, List.setIfInBounds_toArray, List.set_cons_zero, List.set_cons_succ])
                  refine wpAnyH_take (i := 18) (v := .bool true) rfl (by kernel_rfl) (by kernel_rfl) (by kernel_rfl) (fun _ _ _ h => h) (Or.inl ⟨by rfl, fun w' hSw => by dsimp only at hSw; go_simp⟩) hHeld ?_
                  (try simp only [Act.put, List.getElem_toArray, List.getElem_cons_zero, List.getElem_cons_succ, List.setIfInBounds_toArray, List.set_cons_zero, List.set_cons_succ])
                  refine wpAnyH_done (by kernel_rfl) ?_ _
                  have HB9 : Hid (Below wa.heap.size wa w9) := Lib.hid (HBQ.out.trans (hb9.mono HBQ.out.size))
                  clear hc9 hb7 hb8 hb9 HSK hbd c6 HLN HWDS HHA
                  go_upto_region 22 with (first | (go_at_call 35; refine (HPU.out _).mono ?_; rintro e w10 ⟨rfl, hb⟩; have HB10 : Hid (Below wa.heap.size wa w10) := Lib.hid (HB9.out.trans (hb.mono HB9.out.size)); clear hb) | (go_at_call 36; refine (HAL0.out _ HB10.out).mono ?_; rintro e w11 ⟨rfl, hb⟩; have HB11 : Hid (Below wa.heap.size wa w11) := Lib.hid (HB10.out.trans (hb.mono HB10.out.size)); clear hb) | (go_at_call 34; refine (HGE.out _).mono ?_; rintro e w12 ⟨rfl, hb⟩; have HB12 : Hid (Below wa.heap.size wa w12) := Lib.hid (HB11.out.trans (hb.mono HB11.out.size)); clear hb))
                  have HC13 := Lib.hid (CmAt.made w12 cc)
                  have HB13 : Hid (Below wa.heap.size wa (w12.alloc (.cells #[.int .i64 cc.k, .int .i64 cc.i, .int .i64 cc.m, .int .i64 cc.o, .int .i64 cc.s, .int .i64 cc.q, .int .i64 cc.p] TC))) := Lib.hid (HB12.out.alloc HB12.out.size _)
                  unfold cmCells at HC13
                  generalize w12.alloc (.cells #[.int .i64 cc.k, .int .i64 cc.i, .int .i64 cc.m, .int .i64 cc.o, .int .i64 cc.s, .int .i64 cc.q, .int .i64 cc.p] TC) = w13 at *
                  generalize w12.heap.size = b13 at *
                  have HZ13 : Hid (CsAt w13 w.heap.size (stCells zeroS)) := Lib.hid (HZW.out.below (by omega) HB13.out)
                  have HBW13 : Hid (Below w.heap.size w w13) := Lib.hid (HBWW.out.trans (HB13.out.mono HBWW.out.size))
                  have z0 : w13.cell? ⟨w.heap.size, 0, none⟩ = some (.int .i64 0) := HZ13.out.cell 0
                  have z1 : w13.cell? ⟨w.heap.size, 1, none⟩ = some (.int .i64 0) := HZ13.out.cell 1
                  have z2 : w13.cell? ⟨w.heap.size, 2, none⟩ = some (.int .i64 0) := HZ13.out.cell 2
                  have z3 : w13.cell? ⟨w.heap.size, 3, none⟩ = some (.int .i64 0) := HZ13.out.cell 3
                  have z4 : w13.cell? ⟨w.heap.size, 4, none⟩ = some (.int .i64 0) := HZ13.out.cell 4
                  have z5 : w13.cell? ⟨w.heap.size, 5, none⟩ = some (.int .i64 0) := HZ13.out.cell 5
                  have z6 : w13.cell? ⟨w.heap.size, 6, none⟩ = some (.int .i64 0) := HZ13.out.cell 6
                  have z7 : w13.cell? ⟨w.heap.size, 7, none⟩ = some (.int .i64 0) := HZ13.out.cell 7
                  have z8 : w13.cell? ⟨w.heap.size, 8, none⟩ = some (.int .i64 0) := HZ13.out.cell 8
                  have zf := HZ13.out.fz
                  have x0 : w13.cell? ⟨b13, 0, none⟩ = some (.int .i64 cc.k) := HC13.out.cell 0
                  have x1 : w13.cell? ⟨b13, 1, none⟩ = some (.int .i64 cc.i) := HC13.out.cell 1
                  have x2 : w13.cell? ⟨b13, 2, none⟩ = some (.int .i64 cc.m) := HC13.out.cell 2
                  have x3 : w13.cell? ⟨b13, 3, none⟩ = some (.int .i64 cc.o) := HC13.out.cell 3
                  have x4 : w13.cell? ⟨b13, 4, none⟩ = some (.int .i64 cc.s) := HC13.out.cell 4
                  have x5 : w13.cell? ⟨b13, 5, none⟩ = some (.int .i64 cc.q) := HC13.out.cell 5
                  have x6 : w13.cell? ⟨b13, 6, none⟩ = some (.int .i64 cc.p) := HC13.out.cell 6
                  go_wp2_with fail
                  obtain ⟨hov, hgv⟩ := HZ13.out.over ⟨1, cc, 0⟩
                  obtain ⟨W5, hW5⟩ : ∃ W5, W5 = (World.setCell (World.setCell (World.setCell (World.setCell (World.setCell (World.setCell (World.setCell (World.setCell (World.setCell w13 ⟨w.heap.size, 0, none⟩ (.int .i64 1)) ⟨w.heap.size, 1, none⟩ (.int .i64 cc.k)) ⟨w.heap.size, 2, none⟩ (.int .i64 cc.i)) ⟨w.heap.size, 3, none⟩ (.int .i64 cc.m)) ⟨w.heap.size, 4, none⟩ (.int .i64 cc.o)) ⟨w.heap.size, 5, none⟩ (.int .i64 cc.s)) ⟨w.heap.size, 6, none⟩ (.int .i64 cc.q)) ⟨w.heap.size, 7, none⟩ (.int .i64 cc.p)) ⟨w.heap.size, 8, none⟩ (.int .i64 0)) := ⟨_, rfl⟩
                  have HOV : Hid (CsAt W5 w.heap.size (stCells ⟨1, cc, 0⟩)) := Lib.hid (by rw [hW5]; exact hov)
                  have HGV : Hid (w13.grownBy W5 (some w.heap.size)) := Lib.hid (by rw [hW5]; exact hgv)
                  rw [← hW5]
                  clear hov hgv hW5
                  have y0 : W5.cell? ⟨w.heap.size, 0, none⟩ = some (.int .i64 1) := HOV.out.cell 0
                  have y1 : W5.cell? ⟨w.heap.size, 1, none⟩ = some (.int .i64 cc.k) := HOV.out.cell 1
                  have y2 : W5.cell? ⟨w.heap.size, 2, none⟩ = some (.int .i64 cc.i) := HOV.out.cell 2
                  have y3 : W5.cell? ⟨w.heap.size, 3, none⟩ = some (.int .i64 cc.m) := HOV.out.cell 3
                  have y4 : W5.cell? ⟨w.heap.size, 4, none⟩ = some (.int .i64 cc.o) := HOV.out.cell 4
                  have y5 : W5.cell? ⟨w.heap.size, 5, none⟩ = some (.int .i64 cc.s) := HOV.out.cell 5
                  have y6 : W5.cell? ⟨w.heap.size, 6, none⟩ = some (.int .i64 cc.q) := HOV.out.cell 6
                  have y7 : W5.cell? ⟨w.heap.size, 7, none⟩ = some (.int .i64 cc.p) := HOV.out.cell 7
                  have y8 : W5.cell? ⟨w.heap.size, 8, none⟩ = some (.int .i64 0) := HOV.out.cell 8
                  refine bodyPost_ret (v := .tuple #[.agg #[.int .i64 1, .int .i64 cc.k, .int .i64 cc.i, .int .i64 cc.m, .int .i64 cc.o, .int .i64 cc.s, .int .i64 cc.q, .int .i64 cc.p, .int .i64 0], .bool (ec == 0)]) (by simp [results, Tryz.results11, go_sem, y0, y1, y2, y3, y4, y5, y6, y7, y8]) rfl ?_
                  rw [HT2.out]
                  exact ⟨rfl, below_byS HBW13.out HGV.out⟩
                · have hnb : ((L.length : Int) == (N : Int)) = false := by rw [hsj]; exact beq_eq_false_iff_ne.2 (fun e => hn (by omega))
                  clear hX hsj
                  go_upto_region 20 with fail
                  refine wp_region_held_drew (S := fun W => W.cell? ⟨b, o, none⟩ = some (.string (bs w0))) (by kernel_rfl) (HSK.out _ hbd) (fun hHeld => ?_)
                  refine wpAnyH_take (i := 0) (v := .int .i64 (q : Int)) rfl (by kernel_rfl) (by kernel_rfl) (by kernel_rfl) (fun _ _ _ h => h) (Or.inl ⟨by rfl, fun w' hSw => by dsimp only at hSw; go_simp⟩) hHeld ?_
                  (try simp only [Act.put, List.getElem_toArray, List.getElem_cons_zero, List.getElem_cons_succ, List.setIfInBounds_toArray, List.set_cons_zero, List.set_cons_succ])
                  refine wpAnyH_take (i := 1) (v := .agg #[.int .i64 (q : Int), .int .i64 0, .int .i64 0, .int .i64 0, .int .i64 0, .int .i64 0, .int .i64 0]) rfl (by kernel_rfl) (by kernel_rfl) (by kernel_rfl) (fun _ _ _ h => h) (Or.inl ⟨by rfl, fun w' hSw => by dsimp only at hSw; go_simp⟩) hHeld ?_
                  (try simp only [Act.put, List.getElem_toArray, List.getElem_cons_zero, List.getElem_cons_succ, List.setIfInBounds_toArray, List.set_cons_zero, List.set_cons_succ])
                  refine wpAnyH_take (i := 2) (v := .agg #[.int .i64 1, .int .i64 (q : Int), .int .i64 0, .int .i64 0, .int .i64 0, .int .i64 0, .int .i64 0, .int .i64 0, .int .i64 0]) rfl (by kernel_rfl) (by kernel_rfl) (by kernel_rfl) (fun _ _ _ h => h) (Or.inl ⟨by rfl, fun w' hSw => by dsimp only at hSw; go_simp⟩) hHeld ?_
                  (try simp only [Act.put, List.getElem_toArray, List.getElem_cons_zero, List.getElem_cons_succ, List.setIfInBounds_toArray, List.set_cons_zero, List.set_cons_succ])
                  refine wpAnyH_take (i := 7) (v := .slice (some ⟨b, o, none⟩) (N + 1) c) rfl (by kernel_rfl) (by kernel_rfl) (by kernel_rfl) (fun _ _ _ h => h) (Or.inl ⟨by rfl, fun w' hSw => by dsimp only at hSw; go_simp⟩) hHeld ?_
                  (try simp only [Act.put, List.getElem_toArray, List.getElem_cons_zero, List.getElem_cons_succ, List.setIfInBounds_toArray, List.set_cons_zero, List.set_cons_succ])
                  refine wpAnyH_take (i := 8) (v := .pointer (some ⟨b, o, none⟩)) rfl (by kernel_rfl) (by kernel_rfl) (by kernel_rfl) (fun _ _ _ h => h) (Or.inl ⟨by rfl, fun w' hSw => by dsimp only at hSw; go_simp⟩) hHeld ?_
                  (try simp only [Act.put, List.getElem_toArray, List.getElem_cons_zero, List.getElem_cons_succ, List.setIfInBounds_toArray, List.set_cons_zero, List.set_cons_succ])
                  refine wpAnyH_take (i := 9) (v := .string (bs w0)) rfl (by kernel_rfl) (by kernel_rfl) (by kernel_rfl) (fun _ _ _ h => h) (Or.inl ⟨by rfl, fun w' hSw => by dsimp only at hSw; go_simp⟩) hHeld ?_
                  (try simp only [Act.put, List.getElem_toArray, List.getElem_cons_zero, List.getElem_cons_succ, List.setIfInBounds_toArray, List.set_cons_zero, List.set_cons_succ])
                  refine wpAnyH_ready (rs := [3]) (by kernel_rfl) (by simp) ?_
                  refine AllReadyH.cons rfl (fun K hK => ?_) AllReadyH.nil
                  (try simp only [List.getElem_toArray, List.getElem_cons_zero, List.getElem_cons_succ])
                  go_simp
                  go_at_call 10
                  refine (HLN.out _).mono ?_
                  rintro e w7 ⟨rfl, hb⟩
                  have hb7 : Below wr.heap.size wr w7 := hbd.trans (hb.mono hbd.size)
                  clear hb
                  refine hK.out _ _ (HSK.out _ hb7) (fun hHeld => ?_)
                  clear hK K
                  (try simp only [Act.put, List.getElem_toArray, List.getElem_cons_zero, List.getElem_cons_succ, List.setIfInBounds_toArray, List.set_cons_zero, List.set_cons_succ])
                  refine wpAnyH_ready (rs := [4]) (by kernel_rfl) (by simp) ?_
                  refine AllReadyH.cons rfl (fun K hK => ?_) AllReadyH.nil
                  (try simp only [List.getElem_toArray, List.getElem_cons_zero, List.getElem_cons_succ])
                  go_simp
                  go_at_call 32
                  refine (HWDS.out _).mono ?_
                  rintro e w8 ⟨A8, c8, rfl, hsg, hb⟩
                  have hb8 : Below wr.heap.size wr w8 := hb7.trans (hb.mono hb7.size)
                  clear hb
                  obtain ⟨b8, o8, rfl, _, hc8⟩ := hsg.at (k := 0) (by rw [strs_len]; simp)
                  have hc9 : w8.cell? ⟨b8, o8, none⟩ = some (.string (bs X)) := hc8
                  clear hsg hc8
                  refine hK.out _ _ (HSK.out _ hb8) (fun hHeld => ?_)
                  clear hK K
                  (try simp only [Act.put, List.getElem_toArray, List.getElem_cons_zero, List.getElem_cons_succ, List.setIfInBounds_toArray, List.set_cons_zero, List.set_cons_succ])
                  refine wpAnyH_take (i := 5) (v := .pointer (some ⟨b8, o8, none⟩)) rfl (by kernel_rfl) (by kernel_rfl) (by kernel_rfl) (fun _ _ _ h => h) (Or.inl ⟨by rfl, fun w' hSw => by dsimp only at hSw; go_simp⟩) hHeld ?_
                  (try simp only [Act.put, List.getElem_toArray, List.getElem_cons_zero, List.getElem_cons_succ, List.setIfInBounds_toArray, List.set_cons_zero, List.set_cons_succ])
                  refine wpAnyH_ready (rs := [6]) (by kernel_rfl) (by simp) ?_
                  refine AllReadyH.cons rfl (fun K hK => ?_) AllReadyH.nil
                  (try simp only [List.getElem_toArray, List.getElem_cons_zero, List.getElem_cons_succ])
                  go_simp
                  refine hK.out _ _ (HSK.out _ hb8) (fun hHeld => ?_)
                  clear hK K
                  (try simp only [Act.put, List.getElem_toArray, List.getElem_cons_zero, List.getElem_cons_succ, List.setIfInBounds_toArray, List.set_cons_zero, List.set_cons_succ])
                  refine wpAnyH_take (i := 10) (v := .bool true) rfl (by kernel_rfl) (by kernel_rfl) (by kernel_rfl) (fun _ _ _ h => h) (Or.inl ⟨by rfl, fun w' hSw => by dsimp only at hSw; go_simp⟩) hHeld ?_
                  (try simp only [Act.put, List.getElem_toArray, List.getElem_cons_zero, List.getElem_cons_succ, List.setIfInBounds_toArray, List.set_cons_zero, List.set_cons_succ])
                  refine wpAnyH_take (i := 11) (v := .bool true) rfl (by kernel_rfl) (by kernel_rfl) (by kernel_rfl) (fun _ _ _ h => h) (Or.inl ⟨by rfl, fun w' hSw => by dsimp only at hSw; go_simp⟩) hHeld ?_
                  (try simp only [Act.put, List.getElem_toArray, List.getElem_cons_zero, List.getElem_cons_succ, List.setIfInBounds_toArray, List.set_cons_zero, List.set_cons_succ])
                  refine wpAnyH_take (i := 12) (v := .int .i64 (q : Int)) rfl (by kernel_rfl) (by kernel_rfl) (by kernel_rfl) (fun _ _ _ h => h) (Or.inl ⟨by rfl, fun w' hSw => by dsimp only at hSw; go_simp⟩) hHeld ?_
                  (try simp only [Act.put, List.getElem_toArray, List.getElem_cons_zero, List.getElem_cons_succ, List.setIfInBounds_toArray, List.set_cons_zero, List.set_cons_succ])
                  refine wpAnyH_take (i := 15) (v := .slice Au N cu) rfl (by kernel_rfl) (by kernel_rfl) (by kernel_rfl) (fun _ _ _ h => h) (Or.inl ⟨by rfl, fun w' hSw => by dsimp only at hSw; go_simp⟩) hHeld ?_
                  (try simp only [Act.put, List.getElem_toArray, List.getElem_cons_zero, List.getElem_cons_succ, List.setIfInBounds_toArray, List.set_cons_zero, List.set_cons_succ])
                  refine wpAnyH_take (i := 16) (v := .int .i64 (N : Int)) rfl (by kernel_rfl) (by kernel_rfl) (by kernel_rfl) (fun _ _ _ h => h) (Or.inl ⟨by rfl, fun w' hSw => by dsimp only at hSw; go_simp⟩) hHeld ?_
                  (try simp only [Act.put, List.getElem_toArray, List.getElem_cons_zero, List.getElem_cons_succ, List.setIfInBounds_toArray, List.set_cons_zero, List.set_cons_succ])
                  refine wpAnyH_ready (rs := [13]) (by kernel_rfl) (by simp) ?_
                  refine AllReadyH.cons rfl (fun K hK => ?_) AllReadyH.nil
                  (try simp only [List.getElem_toArray, List.getElem_cons_zero, List.getElem_cons_succ])
                  go_simp
                  go_at_call 31
                  refine (HHA.out _).mono ?_
                  rintro e w9 ⟨rfl, hb⟩
                  have hb9 : Below wr.heap.size wr w9 := hb8.trans (hb.mono hb8.size)
                  clear hb
                  refine hK.out _ _ (HSK.out _ hb9) (fun hHeld => ?_)
                  clear hK K
                  (try simp only [Act.put, List.getElem_toArray, List.getElem_cons_zero, List.getElem_cons_succ, List.setIfInBounds_toArray, List.set_cons_zero, List.set_cons_succ])
                  refine wpAnyH_take (i := 14) (v := .int .i64 (L.length : Int)) rfl (by kernel_rfl) (by kernel_rfl) (by kernel_rfl) (fun _ _ _ h => h) (Or.inl ⟨by rfl, fun w' hSw => by dsimp only at hSw; go_simp⟩) hHeld ?_
                  (try simp only [Act.put, List.getElem_toArray, List.getElem_cons_zero, List.getElem_cons_succ, List.setIfInBounds_toArray, List.set_cons_zero, List.set_cons_succ])
                  refine wpAnyH_take (i := 17) (v := .bool false) rfl (by kernel_rfl) (by kernel_rfl) (by kernel_rfl) (fun _ _ _ h => h) (Or.inl ⟨by rfl, fun w' hSw => by dsimp only at hSw; go_simp⟩) hHeld ?_
                  (try simp only [Act.put, List.getElem_toArray, List.getElem_cons_zero, List.getElem_cons_succ, List.setIfInBounds_toArray, List.set_cons_zero, List.set_cons_succ])
                  refine wpAnyH_take (i := 18) (v := .bool false) rfl (by kernel_rfl) (by kernel_rfl) (by kernel_rfl) (fun _ _ _ h => h) (Or.inl ⟨by rfl, fun w' hSw => by dsimp only at hSw; go_simp⟩) hHeld ?_
                  (try simp only [Act.put, List.getElem_toArray, List.getElem_cons_zero, List.getElem_cons_succ, List.setIfInBounds_toArray, List.set_cons_zero, List.set_cons_succ])
                  refine wpAnyH_done (by kernel_rfl) ?_ _
                  have HB9 : Hid (Below wa.heap.size wa w9) := Lib.hid (HBQ.out.trans (hb9.mono HBQ.out.size))
                  have HNO2 : Hid (∀ k, 1 ≤ k → k < q + 1 → ¬ (wordL k = w0 ∧ (jsOf (k : Int)).length = N)) := Lib.hid (fun k h1 h2 => by
                    by_cases hkq : k = q
                    · subst hkq
                      exact fun h => hn h.2
                    · exact HNO.out k h1 (by omega))
                  go_wp2_with fail
                  go_roundw
                  case rel => exact ⟨q + 1, by omega, by omega, by go_num, HNO2, HB9⟩
                  case measure => simp [intOf]; omega
              · have hwb : (X == w0) = false := by rw [hX]; simpa using hw
                clear hX hsj
                go_upto_region 20 with fail
                refine wp_region_held_drew (S := fun W => W.cell? ⟨b, o, none⟩ = some (.string (bs w0))) (by kernel_rfl) (HSK.out _ hbd) (fun hHeld => ?_)
                refine wpAnyH_take (i := 0) (v := .int .i64 (q : Int)) rfl (by kernel_rfl) (by kernel_rfl) (by kernel_rfl) (fun _ _ _ h => h) (Or.inl ⟨by rfl, fun w' hSw => by dsimp only at hSw; go_simp⟩) hHeld ?_
                (try simp only [Act.put, List.getElem_toArray, List.getElem_cons_zero, List.getElem_cons_succ, List.setIfInBounds_toArray, List.set_cons_zero, List.set_cons_succ])
                refine wpAnyH_take (i := 1) (v := .agg #[.int .i64 (q : Int), .int .i64 0, .int .i64 0, .int .i64 0, .int .i64 0, .int .i64 0, .int .i64 0]) rfl (by kernel_rfl) (by kernel_rfl) (by kernel_rfl) (fun _ _ _ h => h) (Or.inl ⟨by rfl, fun w' hSw => by dsimp only at hSw; go_simp⟩) hHeld ?_
                (try simp only [Act.put, List.getElem_toArray, List.getElem_cons_zero, List.getElem_cons_succ, List.setIfInBounds_toArray, List.set_cons_zero, List.set_cons_succ])
                refine wpAnyH_take (i := 2) (v := .agg #[.int .i64 1, .int .i64 (q : Int), .int .i64 0, .int .i64 0, .int .i64 0, .int .i64 0, .int .i64 0, .int .i64 0, .int .i64 0]) rfl (by kernel_rfl) (by kernel_rfl) (by kernel_rfl) (fun _ _ _ h => h) (Or.inl ⟨by rfl, fun w' hSw => by dsimp only at hSw; go_simp⟩) hHeld ?_
                (try simp only [Act.put, List.getElem_toArray, List.getElem_cons_zero, List.getElem_cons_succ, List.setIfInBounds_toArray, List.set_cons_zero, List.set_cons_succ])
                refine wpAnyH_take (i := 7) (v := .slice (some ⟨b, o, none⟩) (N + 1) c) rfl (by kernel_rfl) (by kernel_rfl) (by kernel_rfl) (fun _ _ _ h => h) (Or.inl ⟨by rfl, fun w' hSw => by dsimp only at hSw; go_simp⟩) hHeld ?_
                (try simp only [Act.put, List.getElem_toArray, List.getElem_cons_zero, List.getElem_cons_succ, List.setIfInBounds_toArray, List.set_cons_zero, List.set_cons_succ])
                refine wpAnyH_take (i := 8) (v := .pointer (some ⟨b, o, none⟩)) rfl (by kernel_rfl) (by kernel_rfl) (by kernel_rfl) (fun _ _ _ h => h) (Or.inl ⟨by rfl, fun w' hSw => by dsimp only at hSw; go_simp⟩) hHeld ?_
                (try simp only [Act.put, List.getElem_toArray, List.getElem_cons_zero, List.getElem_cons_succ, List.setIfInBounds_toArray, List.set_cons_zero, List.set_cons_succ])
                refine wpAnyH_take (i := 9) (v := .string (bs w0)) rfl (by kernel_rfl) (by kernel_rfl) (by kernel_rfl) (fun _ _ _ h => h) (Or.inl ⟨by rfl, fun w' hSw => by dsimp only at hSw; go_simp⟩) hHeld ?_
                (try simp only [Act.put, List.getElem_toArray, List.getElem_cons_zero, List.getElem_cons_succ, List.setIfInBounds_toArray, List.set_cons_zero, List.set_cons_succ])
                refine wpAnyH_ready (rs := [3]) (by kernel_rfl) (by simp) ?_
                refine AllReadyH.cons rfl (fun K hK => ?_) AllReadyH.nil
                (try simp only [List.getElem_toArray, List.getElem_cons_zero, List.getElem_cons_succ])
                go_simp
                go_at_call 10
                refine (HLN.out _).mono ?_
                rintro e w7 ⟨rfl, hb⟩
                have hb7 : Below wr.heap.size wr w7 := hbd.trans (hb.mono hbd.size)
                clear hb
                refine hK.out _ _ (HSK.out _ hb7) (fun hHeld => ?_)
                clear hK K
                (try simp only [Act.put, List.getElem_toArray, List.getElem_cons_zero, List.getElem_cons_succ, List.setIfInBounds_toArray, List.set_cons_zero, List.set_cons_succ])
                refine wpAnyH_ready (rs := [4]) (by kernel_rfl) (by simp) ?_
                refine AllReadyH.cons rfl (fun K hK => ?_) AllReadyH.nil
                (try simp only [List.getElem_toArray, List.getElem_cons_zero, List.getElem_cons_succ])
                go_simp
                go_at_call 32
                refine (HWDS.out _).mono ?_
                rintro e w8 ⟨A8, c8, rfl, hsg, hb⟩
                have hb8 : Below wr.heap.size wr w8 := hb7.trans (hb.mono hb7.size)
                clear hb
                obtain ⟨b8, o8, rfl, _, hc8⟩ := hsg.at (k := 0) (by rw [strs_len]; simp)
                have hc9 : w8.cell? ⟨b8, o8, none⟩ = some (.string (bs X)) := hc8
                clear hsg hc8
                refine hK.out _ _ (HSK.out _ hb8) (fun hHeld => ?_)
                clear hK K
                (try simp only [Act.put, List.getElem_toArray, List.getElem_cons_zero, List.getElem_cons_succ, List.setIfInBounds_toArray, List.set_cons_zero, List.set_cons_succ])
                refine wpAnyH_take (i := 5) (v := .pointer (some ⟨b8, o8, none⟩)) rfl (by kernel_rfl) (by kernel_rfl) (by kernel_rfl) (fun _ _ _ h => h) (Or.inl ⟨by rfl, fun w' hSw => by dsimp only at hSw; go_simp⟩) hHeld ?_
                (try simp only [Act.put, List.getElem_toArray, List.getElem_cons_zero, List.getElem_cons_succ, List.setIfInBounds_toArray, List.set_cons_zero, List.set_cons_succ])
                refine wpAnyH_ready (rs := [6]) (by kernel_rfl) (by simp) ?_
                refine AllReadyH.cons rfl (fun K hK => ?_) AllReadyH.nil
                (try simp only [List.getElem_toArray, List.getElem_cons_zero, List.getElem_cons_succ])
                go_simp
                refine hK.out _ _ (HSK.out _ hb8) (fun hHeld => ?_)
                clear hK K
                (try simp only [Act.put, List.getElem_toArray, List.getElem_cons_zero, List.getElem_cons_succ, List.setIfInBounds_toArray, List.set_cons_zero, List.set_cons_succ])
                refine wpAnyH_take (i := 10) (v := .bool false) rfl (by kernel_rfl) (by kernel_rfl) (by kernel_rfl) (fun _ _ _ h => h) (Or.inl ⟨by rfl, fun w' hSw => by dsimp only at hSw; go_simp⟩) hHeld ?_
                (try simp only [Act.put, List.getElem_toArray, List.getElem_cons_zero, List.getElem_cons_succ, List.setIfInBounds_toArray, List.set_cons_zero, List.set_cons_succ])
                refine wpAnyH_take (i := 11) (v := .bool false) rfl (by kernel_rfl) (by kernel_rfl) (by kernel_rfl) (fun _ _ _ h => h) (Or.inl ⟨by rfl, fun w' hSw => by dsimp only at hSw; go_simp⟩) hHeld ?_
                (try simp only [Act.put, List.getElem_toArray, List.getElem_cons_zero, List.getElem_cons_succ, List.setIfInBounds_toArray, List.set_cons_zero, List.set_cons_succ])
                refine wpAnyH_take (i := 12) (v := undef) rfl (by kernel_rfl) (by kernel_rfl) (by kernel_rfl) (fun _ _ _ h => h) (Or.inr ⟨by rfl, rfl⟩) hHeld ?_
                (try simp only [Act.put, List.getElem_toArray, List.getElem_cons_zero, List.getElem_cons_succ, List.setIfInBounds_toArray, List.set_cons_zero, List.set_cons_succ])
                refine wpAnyH_take (i := 13) (v := undef) rfl (by kernel_rfl) (by kernel_rfl) (by kernel_rfl) (fun _ _ _ h => h) (Or.inr ⟨by rfl, rfl⟩) hHeld ?_
                (try simp only [Act.put, List.getElem_toArray, List.getElem_cons_zero, List.getElem_cons_succ, List.setIfInBounds_toArray, List.set_cons_zero, List.set_cons_succ])
                refine wpAnyH_take (i := 14) (v := undef) rfl (by kernel_rfl) (by kernel_rfl) (by kernel_rfl) (fun _ _ _ h => h) (Or.inr ⟨by rfl, rfl⟩) hHeld ?_
                (try simp only [Act.put, List.getElem_toArray, List.getElem_cons_zero, List.getElem_cons_succ, List.setIfInBounds_toArray, List.set_cons_zero, List.set_cons_succ])
                refine wpAnyH_take (i := 15) (v := undef) rfl (by kernel_rfl) (by kernel_rfl) (by kernel_rfl) (fun _ _ _ h => h) (Or.inr ⟨by rfl, rfl⟩) hHeld ?_
                (try simp only [Act.put, List.getElem_toArray, List.getElem_cons_zero, List.getElem_cons_succ, List.setIfInBounds_toArray, List.set_cons_zero, List.set_cons_succ])
                refine wpAnyH_take (i := 16) (v := undef) rfl (by kernel_rfl) (by kernel_rfl) (by kernel_rfl) (fun _ _ _ h => h) (Or.inr ⟨by rfl, rfl⟩) hHeld ?_
                (try simp only [Act.put, List.getElem_toArray, List.getElem_cons_zero, List.getElem_cons_succ, List.setIfInBounds_toArray, List.set_cons_zero, List.set_cons_succ])
                refine wpAnyH_take (i := 17) (v := undef) rfl (by kernel_rfl) (by kernel_rfl) (by kernel_rfl) (fun _ _ _ h => h) (Or.inr ⟨by rfl, rfl⟩) hHeld ?_
                (try simp only [Act.put, List.getElem_toArray, List.getElem_cons_zero, List.getElem_cons_succ, List.setIfInBounds_toArray, List.set_cons_zero, List.set_cons_succ])
                refine wpAnyH_take (i := 18) (v := .bool false) rfl (by kernel_rfl) (by kernel_rfl) (by kernel_rfl) (fun _ _ _ h => h) (Or.inl ⟨by rfl, fun w' hSw => by dsimp only at hSw; go_simp⟩) hHeld ?_
                (try simp only [Act.put, List.getElem_toArray, List.getElem_cons_zero, List.getElem_cons_succ, List.setIfInBounds_toArray, List.set_cons_zero, List.set_cons_succ])
                refine wpAnyH_done (by kernel_rfl) ?_ _
                have HB9 : Hid (Below wa.heap.size wa w8) := Lib.hid (HBQ.out.trans (hb8.mono HBQ.out.size))
                have HNO2 : Hid (∀ k, 1 ≤ k → k < q + 1 → ¬ (wordL k = w0 ∧ (jsOf (k : Int)).length = N)) := Lib.hid (fun k h1 h2 => by
                  by_cases hkq : k = q
                  · subst hkq
                    exact fun h => hw h.1
                  · exact HNO.out k h1 (by omega))
                go_wp2_with fail
                go_roundw
                case rel => exact ⟨q + 1, by omega, by omega, by go_num, HNO2, HB9⟩
                case measure => simp [intOf]; omega
            · obtain rfl : q = 11 := by omega
              have HT2 : Hid (T = (zeroS, false)) := Lib.hid (by rw [HT3.out, if_neg (noKind HNO.out)])
              have HZ9 : Hid (CsAt wr w.heap.size (stCells zeroS)) := Lib.hid (HZW.out.below (by omega) HBQ.out)
              have HB9 : Hid (Below w.heap.size w wr) := Lib.hid (HBWW.out.trans (HBQ.out.mono HBWW.out.size))
              have z0 : wr.cell? ⟨w.heap.size, 0, none⟩ = some (.int .i64 0) := HZ9.out.cell 0
              have z1 : wr.cell? ⟨w.heap.size, 1, none⟩ = some (.int .i64 0) := HZ9.out.cell 1
              have z2 : wr.cell? ⟨w.heap.size, 2, none⟩ = some (.int .i64 0) := HZ9.out.cell 2
              have z3 : wr.cell? ⟨w.heap.size, 3, none⟩ = some (.int .i64 0) := HZ9.out.cell 3
              have z4 : wr.cell? ⟨w.heap.size, 4, none⟩ = some (.int .i64 0) := HZ9.out.cell 4
              have z5 : wr.cell? ⟨w.heap.size, 5, none⟩ = some (.int .i64 0) := HZ9.out.cell 5
              have z6 : wr.cell? ⟨w.heap.size, 6, none⟩ = some (.int .i64 0) := HZ9.out.cell 6
              have z7 : wr.cell? ⟨w.heap.size, 7, none⟩ = some (.int .i64 0) := HZ9.out.cell 7
              have z8 : wr.cell? ⟨w.heap.size, 8, none⟩ = some (.int .i64 0) := HZ9.out.cell 8
              have zf := HZ9.out.fz
              go_wp2_with fail
              obtain ⟨hov, hgv⟩ := HZ9.out.over zeroS
              obtain ⟨W5, hW5⟩ : ∃ W5, W5 = (World.setCell (World.setCell (World.setCell (World.setCell (World.setCell (World.setCell (World.setCell (World.setCell (World.setCell wr ⟨w.heap.size, 0, none⟩ (.int .i64 0)) ⟨w.heap.size, 1, none⟩ (.int .i64 0)) ⟨w.heap.size, 2, none⟩ (.int .i64 0)) ⟨w.heap.size, 3, none⟩ (.int .i64 0)) ⟨w.heap.size, 4, none⟩ (.int .i64 0)) ⟨w.heap.size, 5, none⟩ (.int .i64 0)) ⟨w.heap.size, 6, none⟩ (.int .i64 0)) ⟨w.heap.size, 7, none⟩ (.int .i64 0)) ⟨w.heap.size, 8, none⟩ (.int .i64 0)) := ⟨_, rfl⟩
              have HOV : Hid (CsAt W5 w.heap.size (stCells zeroS)) := Lib.hid (by rw [hW5]; exact hov)
              have HGV : Hid (wr.grownBy W5 (some w.heap.size)) := Lib.hid (by rw [hW5]; exact hgv)
              rw [← hW5]
              clear hov hgv hW5
              have y0 : W5.cell? ⟨w.heap.size, 0, none⟩ = some (.int .i64 0) := HOV.out.cell 0
              have y1 : W5.cell? ⟨w.heap.size, 1, none⟩ = some (.int .i64 0) := HOV.out.cell 1
              have y2 : W5.cell? ⟨w.heap.size, 2, none⟩ = some (.int .i64 0) := HOV.out.cell 2
              have y3 : W5.cell? ⟨w.heap.size, 3, none⟩ = some (.int .i64 0) := HOV.out.cell 3
              have y4 : W5.cell? ⟨w.heap.size, 4, none⟩ = some (.int .i64 0) := HOV.out.cell 4
              have y5 : W5.cell? ⟨w.heap.size, 5, none⟩ = some (.int .i64 0) := HOV.out.cell 5
              have y6 : W5.cell? ⟨w.heap.size, 6, none⟩ = some (.int .i64 0) := HOV.out.cell 6
              have y7 : W5.cell? ⟨w.heap.size, 7, none⟩ = some (.int .i64 0) := HOV.out.cell 7
              have y8 : W5.cell? ⟨w.heap.size, 8, none⟩ = some (.int .i64 0) := HOV.out.cell 8
              refine bodyPost_ret (v := .tuple #[.agg #[.int .i64 0, .int .i64 0, .int .i64 0, .int .i64 0, .int .i64 0, .int .i64 0, .int .i64 0, .int .i64 0, .int .i64 0], .bool false]) (by simp [results, Tryz.results11, go_sem, y0, y1, y2, y3, y4, y5, y6, y7, y8]) rfl ?_
              rw [HT2.out]
              exact ⟨rfl, below_byS HB9.out HGV.out⟩
        · skip
          by_cases hc : w0 = crashW
          · have hf1 : (w0 == [102, 117, 115, 101]) = false := beq_eq_false_iff_ne.2 hf
            have hc1 : (w0 == [99, 114, 97, 115, 104]) = true := beq_iff_eq.2 hc
            have hn1 : ((N : Int) == 1) = false := by simpa using (show (N : Int) ≠ 1 from fun e => hfx ⟨.inr hc, by omega⟩)
            clear hfx hf hc
            go_wp2_with fail
            go_loopw [10] (fun i wr => ∃ q : Nat, 1 ≤ q ∧ q ≤ 11 ∧ i = .int .i64 (q : Int) ∧ Hid (∀ k, 1 ≤ k → k < q → ¬ (wordL k = w0 ∧ (jsOf (k : Int)).length = N)) ∧ Hid (Below wa.heap.size wa wr)) (fun i _ => 11 - (intOf i).toNat)
            case atStart => exact ⟨1, Nat.le_refl _, by omega, rfl, Lib.hid (fun k h1 h2 => by omega), Lib.hid (Below.refl _ _)⟩
            case round =>
              clear c0
              obtain ⟨q, hq1, hq11, rfl, HNO, HBQ⟩ := hrel
              by_cases hq : q ≤ 10
              · have hlq : (q : Int) ≤ 10 := by omega
                have hik := isK_small hq1 hq
                have HLN := Lib.hid (fun W => srline_any ⟨1, ⟨q, 0, 0, 0, 0, 0, 0⟩, 0⟩ (by unfold StOk CmOk I64; simp; omega) (.inr (.inr ⟨rfl, hik⟩)) W)
                unfold stV stCells at HLN
                simp only at HLN
                obtain ⟨ln, hln⟩ : ∃ ln, ln = lineS ⟨1, ⟨q, 0, 0, 0, 0, 0, 0⟩, 0⟩ := ⟨_, rfl⟩
                have hsl := split_line ⟨1, ⟨q, 0, 0, 0, 0, 0, 0⟩, 0⟩
                have hll : (lineS ⟨1, ⟨q, 0, 0, 0, 0, 0, 0⟩, 0⟩).length ≤ 133 := lineS_len (by unfold StOk CmOk I64; simp; omega)
                rw [← hln] at HLN hsl hll
                have hwq : wordS ⟨1, ⟨q, 0, 0, 0, 0, 0, 0⟩, 0⟩ = wordL q := rfl
                rw [hwq] at hsl
                have HWDS := Lib.hid (fun W => words_any ln W (by omega))
                unfold GotT at HWDS
                rw [hsl, List.length_cons] at HWDS
                generalize (numsS ⟨1, ⟨q, 0, 0, 0, 0, 0, 0⟩, 0⟩).map Lib.itoa = ts at *
                clear hsl hll hwq hln
                have HHA := Lib.hid (fun W => rhas_any (q : Int) W)
                have hsj := letters_len hik
                generalize lettersOf (q : Int) = L at *
                have hsL := bs_size L
                clear hik
                obtain ⟨X, hX⟩ : ∃ X, X = wordL q := ⟨_, rfl⟩
                rw [← hX] at HWDS
                have hlb : b < wa.heap.size := by omega
                have hbq := HBQ.out.size
                have c6 : wr.cell? ⟨b, o, none⟩ = some (.string (bs w0)) := HS0.out wr HBQ.out
                have hbd : Below wr.heap.size wr wr.drew := (Below.refl _ _).drew
                have HSK : Hid (∀ W, Below wr.heap.size wr W → W.cell? ⟨b, o, none⟩ = some (.string (bs w0))) := Lib.hid (fun W hW => HS0.out W (HBQ.out.trans (hW.mono hbq)))
                by_cases hw : wordL q = w0
                · have hwb : (X == w0) = true := by rw [hX]; simpa using hw
                  by_cases hn : (jsOf (q : Int)).length = N
                  · have hnb : ((L.length : Int) == (N : Int)) = true := by rw [hsj, hn]; simp
                    clear hX
                    have hK : kindW w0 = q := kindW_at hq1 (by omega) hw
                    have HT4 : Hid (T = ((⟨1, (getC (putN (q : Int) ++ vs.flatMap putN)).1, 0⟩ : St), (getC (putN (q : Int) ++ vs.flatMap putN)).2 == 0)) := Lib.hid (by rw [HT3.out, hK, if_pos ⟨by omega, hn⟩])
                    have hqi : I64 (q : Int) := by unfold I64; omega
                    have HPU := Lib.hid (fun W => rput_any (q : Int) W hqi)
                    have hpl := putN_len hqi
                    have HGE := Lib.hid (fun W => rget11_any (putN (q : Int) ++ vs.flatMap putN) W (by rw [List.length_append]; omega))
                    unfold cmV at HGE
                    generalize getC (putN (q : Int) ++ vs.flatMap putN) = GC at *
                    obtain ⟨cc, ec⟩ := GC
                    simp only at HT4 HGE
                    have HT2 := HT4
                    clear HT3 HT4 hqi hK
                    generalize vs.flatMap putN = pf at *
                    generalize putN (q : Int) = pk at *
                    have hs1 := bs_size pk
                    have hs2 := bs_size pf
                    have hap := bs_append pk pf
                    have hbig : ¬ 9223372036854775807 < pk.length + pf.length := by omega
                    clear hpl hfl HNO hw hn hsj
                    go_upto_region 20 with fail
                    refine wp_region_held_drew (S := fun W => W.cell? ⟨b, o, none⟩ = some (.string (bs w0))) (by kernel_rfl) (HSK.out _ hbd) (fun hHeld => ?_)
                    refine wpAnyH_take (i := 0) (v := .int .i64 (q : Int)) rfl (by kernel_rfl) (by kernel_rfl) (by kernel_rfl) (fun _ _ _ h => h) (Or.inl ⟨by rfl, fun w' hSw => by dsimp only at hSw; go_simp⟩) hHeld ?_
                    (try simp only [Act.put, List.getElem_toArray, List.getElem_cons_zero, List.getElem_cons_succ, List.setIfInBounds_toArray, List.set_cons_zero, List.set_cons_succ])
                    refine wpAnyH_take (i := 1) (v := .agg #[.int .i64 (q : Int), .int .i64 0, .int .i64 0, .int .i64 0, .int .i64 0, .int .i64 0, .int .i64 0]) rfl (by kernel_rfl) (by kernel_rfl) (by kernel_rfl) (fun _ _ _ h => h) (Or.inl ⟨by rfl, fun w' hSw => by dsimp only at hSw; go_simp⟩) hHeld ?_
                    (try simp only [Act.put, List.getElem_toArray, List.getElem_cons_zero, List.getElem_cons_succ, List.setIfInBounds_toArray, List.set_cons_zero, List.set_cons_succ])
                    refine wpAnyH_take (i := 2) (v := .agg #[.int .i64 1, .int .i64 (q : Int), .int .i64 0, .int .i64 0, .int .i64 0, .int .i64 0, .int .i64 0, .int .i64 0, .int .i64 0]) rfl (by kernel_rfl) (by kernel_rfl) (by kernel_rfl) (fun _ _ _ h => h) (Or.inl ⟨by rfl, fun w' hSw => by dsimp only at hSw; go_simp⟩) hHeld ?_
                    (try simp only [Act.put, List.getElem_toArray, List.getElem_cons_zero, List.getElem_cons_succ, List.setIfInBounds_toArray, List.set_cons_zero, List.set_cons_succ])
                    refine wpAnyH_take (i := 7) (v := .slice (some ⟨b, o, none⟩) (N + 1) c) rfl (by kernel_rfl) (by kernel_rfl) (by kernel_rfl) (fun _ _ _ h => h) (Or.inl ⟨by rfl, fun w' hSw => by dsimp only at hSw; go_simp⟩) hHeld ?_
                    (try simp only [Act.put, List.getElem_toArray, List.getElem_cons_zero, List.getElem_cons_succ, List.setIfInBounds_toArray, List.set_cons_zero, List.set_cons_succ])
                    refine wpAnyH_take (i := 8) (v := .pointer (some ⟨b, o, none⟩)) rfl (by kernel_rfl) (by kernel_rfl) (by kernel_rfl) (fun _ _ _ h => h) (Or.inl ⟨by rfl, fun w' hSw => by dsimp only at hSw; go_simp⟩) hHeld ?_
                    (try simp only [Act.put, List.getElem_toArray, List.getElem_cons_zero, List.getElem_cons_succ, List.setIfInBounds_toArray, List.set_cons_zero, List.set_cons_succ])
                    refine wpAnyH_take (i := 9) (v := .string (bs w0)) rfl (by kernel_rfl) (by kernel_rfl) (by kernel_rfl) (fun _ _ _ h => h) (Or.inl ⟨by rfl, fun w' hSw => by dsimp only at hSw; go_simp⟩) hHeld ?_
                    (try simp only [Act.put, List.getElem_toArray, List.getElem_cons_zero, List.getElem_cons_succ, List.setIfInBounds_toArray, List.set_cons_zero, List.set_cons_succ])
                    refine wpAnyH_ready (rs := [3]) (by kernel_rfl) (by simp) ?_
                    refine AllReadyH.cons rfl (fun K hK => ?_) AllReadyH.nil
                    (try simp only [List.getElem_toArray, List.getElem_cons_zero, List.getElem_cons_succ])
                    go_simp
                    go_at_call 10
                    refine (HLN.out _).mono ?_
                    rintro e w7 ⟨rfl, hb⟩
                    have hb7 : Below wr.heap.size wr w7 := hbd.trans (hb.mono hbd.size)
                    clear hb
                    refine hK.out _ _ (HSK.out _ hb7) (fun hHeld => ?_)
                    clear hK K
                    (try simp only [Act.put, List.getElem_toArray, List.getElem_cons_zero, List.getElem_cons_succ, List.setIfInBounds_toArray, List.set_cons_zero, List.set_cons_succ])
                    refine wpAnyH_ready (rs := [4]) (by kernel_rfl) (by simp) ?_
                    refine AllReadyH.cons rfl (fun K hK => ?_) AllReadyH.nil
                    (try simp only [List.getElem_toArray, List.getElem_cons_zero, List.getElem_cons_succ])
                    go_simp
                    go_at_call 32
                    refine (HWDS.out _).mono ?_
                    rintro e w8 ⟨A8, c8, rfl, hsg, hb⟩
                    have hb8 : Below wr.heap.size wr w8 := hb7.trans (hb.mono hb7.size)
                    clear hb
                    obtain ⟨b8, o8, rfl, _, hc8⟩ := hsg.at (k := 0) (by rw [strs_len]; simp)
                    have hc9 : w8.cell? ⟨b8, o8, none⟩ = some (.string (bs X)) := hc8
                    clear hsg hc8
                    refine hK.out _ _ (HSK.out _ hb8) (fun hHeld => ?_)
                    clear hK K
                    (try simp only [Act.put, List.getElem_toArray, List.getElem_cons_zero, List.getElem_cons_succ, List.setIfInBounds_toArray, List.set_cons_zero, List.set_cons_succ])
                    refine wpAnyH_take (i := 5) (v := .pointer (some ⟨b8, o8, none⟩)) rfl (by kernel_rfl) (by kernel_rfl) (by kernel_rfl) (fun _ _ _ h => h) (Or.inl ⟨by rfl, fun w' hSw => by dsimp only at hSw; go_simp⟩) hHeld ?_
                    (try simp only [Act.put, List.getElem_toArray, List.getElem_cons_zero, List.getElem_cons_succ, List.setIfInBounds_toArray, List.set_cons_zero, List.set_cons_succ])
                    refine wpAnyH_ready (rs := [6]) (by kernel_rfl) (by simp) ?_
                    refine AllReadyH.cons rfl (fun K hK => ?_) AllReadyH.nil
                    (try simp only [List.getElem_toArray, List.getElem_cons_zero, List.getElem_cons_succ])
                    go_simp
                    refine hK.out _ _ (HSK.out _ hb8) (fun hHeld => ?_)
                    clear hK K
                    (try simp only [Act.put, List.getElem_toArray, List.getElem_cons_zero, List.getElem_cons_succ, List.setIfInBounds_toArray, List.set_cons_zero, List.set_cons_succ])
                    refine wpAnyH_take (i := 10) (v := .bool true) rfl (by kernel_rfl) (by kernel_rfl) (by kernel_rfl) (fun _ _ _ h => h) (Or.inl ⟨by rfl, fun w' hSw => by dsimp only at hSw; go_simp⟩) hHeld ?_
                    (try simp only [Act.put, List.getElem_toArray, List.getElem_cons_zero, List.getElem_cons_succ, List.setIfInBounds_toArray, List.set_cons_zero, List.set_cons_succ])
                    refine wpAnyH_take (i := 11) (v := .bool true) rfl (by kernel_rfl) (by kernel_rfl) (by kernel_rfl) (fun _ _ _ h => h) (Or.inl ⟨by rfl, fun w' hSw => by dsimp only at hSw; go_simp⟩) hHeld ?_
                    (try simp only [Act.put, List.getElem_toArray, List.getElem_cons_zero, List.getElem_cons_succ, List.setIfInBounds_toArray, List.set_cons_zero, List.set_cons_succ])
                    refine wpAnyH_take (i := 12) (v := .int .i64 (q : Int)) rfl (by kernel_rfl) (by kernel_rfl) (by kernel_rfl) (fun _ _ _ h => h) (Or.inl ⟨by rfl, fun w' hSw => by dsimp only at hSw; go_simp⟩) hHeld ?_
                    (try simp only [Act.put, List.getElem_toArray, List.getElem_cons_zero, List.getElem_cons_succ, List.setIfInBounds_toArray, List.set_cons_zero, List.set_cons_succ])
                    refine wpAnyH_take (i := 15) (v := .slice Au N cu) rfl (by kernel_rfl) (by kernel_rfl) (by kernel_rfl) (fun _ _ _ h => h) (Or.inl ⟨by rfl, fun w' hSw => by dsimp only at hSw; go_simp⟩) hHeld ?_
                    (try simp only [Act.put, List.getElem_toArray, List.getElem_cons_zero, List.getElem_cons_succ, List.setIfInBounds_toArray, List.set_cons_zero, List.set_cons_succ])
                    refine wpAnyH_take (i := 16) (v := .int .i64 (N : Int)) rfl (by kernel_rfl) (by kernel_rfl) (by kernel_rfl) (fun _ _ _ h => h) (Or.inl ⟨by rfl, fun w' hSw => by dsimp only at hSw; go_simp⟩) hHeld ?_
                    (try simp only [Act.put, List.getElem_toArray, List.getElem_cons_zero, List.getElem_cons_succ, List.setIfInBounds_toArray, List.set_cons_zero, List.set_cons_succ])
                    refine wpAnyH_ready (rs := [13]) (by kernel_rfl) (by simp) ?_
                    refine AllReadyH.cons rfl (fun K hK => ?_) AllReadyH.nil
                    (try simp only [List.getElem_toArray, List.getElem_cons_zero, List.getElem_cons_succ])
                    go_simp
                    go_at_call 31
                    refine (HHA.out _).mono ?_
                    rintro e w9 ⟨rfl, hb⟩
                    have hb9 : Below wr.heap.size wr w9 := hb8.trans (hb.mono hb8.size)
                    clear hb
                    refine hK.out _ _ (HSK.out _ hb9) (fun hHeld => ?_)
                    clear hK K
                    (try simp only [Act.put, List.getElem_toArray, List.getElem_cons_zero, List.getElem_cons_succ, List.setIfInBounds_toArray, List.set_cons_zero, List.set_cons_succ])
                    refine wpAnyH_take (i := 14) (v := .int .i64 (L.length : Int)) rfl (by kernel_rfl) (by kernel_rfl) (by kernel_rfl) (fun _ _ _ h => h) (Or.inl ⟨by rfl, fun w' hSw => by dsimp only at hSw; go_simp⟩) hHeld ?_
                    (try simp only [Act.put, List.getElem_toArray, List.getElem_cons_zero, List.getElem_cons_succ, List.setIfInBounds_toArray, List.set_cons_zero, List.set_cons_succ])
                    refine wpAnyH_take (i := 17) (v := .bool true) rfl (by kernel_rfl) (by kernel_rfl) (by kernel_rfl) (fun _ _ _ h => h) (Or.inl ⟨by rfl, fun w' hSw => by dsimp only at hSw; go_simp⟩) hHeld ?_
                    (try simp only [Act.put, List.getElem_toArray, List.getElem_cons_zero, List.getElem_cons_succ, List.setIfInBounds_toArray, List.set_cons_zero, List.set_cons_succ])
                    refine wpAnyH_take (i := 18) (v := .bool true) rfl (by kernel_rfl) (by kernel_rfl) (by kernel_rfl) (fun _ _ _ h => h) (Or.inl ⟨by rfl, fun w' hSw => by dsimp only at hSw; go_simp⟩) hHeld ?_
                    (try simp only [Act.put, List.getElem_toArray, List.getElem_cons_zero, List.getElem_cons_succ, List.setIfInBounds_toArray, List.set_cons_zero, List.set_cons_succ])
                    refine wpAnyH_done (by kernel_rfl) ?_ _
                    have HB9 : Hid (Below wa.heap.size wa w9) := Lib.hid (HBQ.out.trans (hb9.mono HBQ.out.size))
                    clear hc9 hb7 hb8 hb9 HSK hbd c6 HLN HWDS HHA
                    go_upto_region 22 with (first | (go_at_call 35; refine (HPU.out _).mono ?_; rintro e w10 ⟨rfl, hb⟩; have HB10 : Hid (Below wa.heap.size wa w10) := Lib.hid (HB9.out.trans (hb.mono HB9.out.size)); clear hb) | (go_at_call 36; refine (HAL0.out _ HB10.out).mono ?_; rintro e w11 ⟨rfl, hb⟩; have HB11 : Hid (Below wa.heap.size wa w11) := Lib.hid (HB10.out.trans (hb.mono HB10.out.size)); clear hb) | (go_at_call 34; refine (HGE.out _).mono ?_; rintro e w12 ⟨rfl, hb⟩; have HB12 : Hid (Below wa.heap.size wa w12) := Lib.hid (HB11.out.trans (hb.mono HB11.out.size)); clear hb))
                    have HC13 := Lib.hid (CmAt.made w12 cc)
                    have HB13 : Hid (Below wa.heap.size wa (w12.alloc (.cells #[.int .i64 cc.k, .int .i64 cc.i, .int .i64 cc.m, .int .i64 cc.o, .int .i64 cc.s, .int .i64 cc.q, .int .i64 cc.p] TC))) := Lib.hid (HB12.out.alloc HB12.out.size _)
                    unfold cmCells at HC13
                    generalize w12.alloc (.cells #[.int .i64 cc.k, .int .i64 cc.i, .int .i64 cc.m, .int .i64 cc.o, .int .i64 cc.s, .int .i64 cc.q, .int .i64 cc.p] TC) = w13 at *
                    generalize w12.heap.size = b13 at *
                    have HZ13 : Hid (CsAt w13 w.heap.size (stCells zeroS)) := Lib.hid (HZW.out.below (by omega) HB13.out)
                    have HBW13 : Hid (Below w.heap.size w w13) := Lib.hid (HBWW.out.trans (HB13.out.mono HBWW.out.size))
                    have z0 : w13.cell? ⟨w.heap.size, 0, none⟩ = some (.int .i64 0) := HZ13.out.cell 0
                    have z1 : w13.cell? ⟨w.heap.size, 1, none⟩ = some (.int .i64 0) := HZ13.out.cell 1
                    have z2 : w13.cell? ⟨w.heap.size, 2, none⟩ = some (.int .i64 0) := HZ13.out.cell 2
                    have z3 : w13.cell? ⟨w.heap.size, 3, none⟩ = some (.int .i64 0) := HZ13.out.cell 3
                    have z4 : w13.cell? ⟨w.heap.size, 4, none⟩ = some (.int .i64 0) := HZ13.out.cell 4
                    have z5 : w13.cell? ⟨w.heap.size, 5, none⟩ = some (.int .i64 0) := HZ13.out.cell 5
                    have z6 : w13.cell? ⟨w.heap.size, 6, none⟩ = some (.int .i64 0) := HZ13.out.cell 6
                    have z7 : w13.cell? ⟨w.heap.size, 7, none⟩ = some (.int .i64 0) := HZ13.out.cell 7
                    have z8 : w13.cell? ⟨w.heap.size, 8, none⟩ = some (.int .i64 0) := HZ13.out.cell 8
                    have zf := HZ13.out.fz
                    have x0 : w13.cell? ⟨b13, 0, none⟩ = some (.int .i64 cc.k) := HC13.out.cell 0
                    have x1 : w13.cell? ⟨b13, 1, none⟩ = some (.int .i64 cc.i) := HC13.out.cell 1
                    have x2 : w13.cell? ⟨b13, 2, none⟩ = some (.int .i64 cc.m) := HC13.out.cell 2
                    have x3 : w13.cell? ⟨b13, 3, none⟩ = some (.int .i64 cc.o) := HC13.out.cell 3
                    have x4 : w13.cell? ⟨b13, 4, none⟩ = some (.int .i64 cc.s) := HC13.out.cell 4
                    have x5 : w13.cell? ⟨b13, 5, none⟩ = some (.int .i64 cc.q) := HC13.out.cell 5
                    have x6 : w13.cell? ⟨b13, 6, none⟩ = some (.int .i64 cc.p) := HC13.out.cell 6
                    go_wp2_with fail
                    obtain ⟨hov, hgv⟩ := HZ13.out.over ⟨1, cc, 0⟩
                    obtain ⟨W5, hW5⟩ : ∃ W5, W5 = (World.setCell (World.setCell (World.setCell (World.setCell (World.setCell (World.setCell (World.setCell (World.setCell (World.setCell w13 ⟨w.heap.size, 0, none⟩ (.int .i64 1)) ⟨w.heap.size, 1, none⟩ (.int .i64 cc.k)) ⟨w.heap.size, 2, none⟩ (.int .i64 cc.i)) ⟨w.heap.size, 3, none⟩ (.int .i64 cc.m)) ⟨w.heap.size, 4, none⟩ (.int .i64 cc.o)) ⟨w.heap.size, 5, none⟩ (.int .i64 cc.s)) ⟨w.heap.size, 6, none⟩ (.int .i64 cc.q)) ⟨w.heap.size, 7, none⟩ (.int .i64 cc.p)) ⟨w.heap.size, 8, none⟩ (.int .i64 0)) := ⟨_, rfl⟩
                    have HOV : Hid (CsAt W5 w.heap.size (stCells ⟨1, cc, 0⟩)) := Lib.hid (by rw [hW5]; exact hov)
                    have HGV : Hid (w13.grownBy W5 (some w.heap.size)) := Lib.hid (by rw [hW5]; exact hgv)
                    rw [← hW5]
                    clear hov hgv hW5
                    have y0 : W5.cell? ⟨w.heap.size, 0, none⟩ = some (.int .i64 1) := HOV.out.cell 0
                    have y1 : W5.cell? ⟨w.heap.size, 1, none⟩ = some (.int .i64 cc.k) := HOV.out.cell 1
                    have y2 : W5.cell? ⟨w.heap.size, 2, none⟩ = some (.int .i64 cc.i) := HOV.out.cell 2
                    have y3 : W5.cell? ⟨w.heap.size, 3, none⟩ = some (.int .i64 cc.m) := HOV.out.cell 3
                    have y4 : W5.cell? ⟨w.heap.size, 4, none⟩ = some (.int .i64 cc.o) := HOV.out.cell 4
                    have y5 : W5.cell? ⟨w.heap.size, 5, none⟩ = some (.int .i64 cc.s) := HOV.out.cell 5
                    have y6 : W5.cell? ⟨w.heap.size, 6, none⟩ = some (.int .i64 cc.q) := HOV.out.cell 6
                    have y7 : W5.cell? ⟨w.heap.size, 7, none⟩ = some (.int .i64 cc.p) := HOV.out.cell 7
                    have y8 : W5.cell? ⟨w.heap.size, 8, none⟩ = some (.int .i64 0) := HOV.out.cell 8
                    refine bodyPost_ret (v := .tuple #[.agg #[.int .i64 1, .int .i64 cc.k, .int .i64 cc.i, .int .i64 cc.m, .int .i64 cc.o, .int .i64 cc.s, .int .i64 cc.q, .int .i64 cc.p, .int .i64 0], .bool (ec == 0)]) (by simp [results, Tryz.results11, go_sem, y0, y1, y2, y3, y4, y5, y6, y7, y8]) rfl ?_
                    rw [HT2.out]
                    exact ⟨rfl, below_byS HBW13.out HGV.out⟩
                  · have hnb : ((L.length : Int) == (N : Int)) = false := by rw [hsj]; exact beq_eq_false_iff_ne.2 (fun e => hn (by omega))
                    clear hX hsj
                    go_upto_region 20 with fail
                    refine wp_region_held_drew (S := fun W => W.cell? ⟨b, o, none⟩ = some (.string (bs w0))) (by kernel_rfl) (HSK.out _ hbd) (fun hHeld => ?_)
                    refine wpAnyH_take (i := 0) (v := .int .i64 (q : Int)) rfl (by kernel_rfl) (by kernel_rfl) (by kernel_rfl) (fun _ _ _ h => h) (Or.inl ⟨by rfl, fun w' hSw => by dsimp only at hSw; go_simp⟩) hHeld ?_
                    (try simp only [Act.put, List.getElem_toArray, List.getElem_cons_zero, List.getElem_cons_succ, List.setIfInBounds_toArray, List.set_cons_zero, List.set_cons_succ])
                    refine wpAnyH_take (i := 1) (v := .agg #[.int .i64 (q : Int), .int .i64 0, .int .i64 0, .int .i64 0, .int .i64 0, .int .i64 0, .int .i64 0]) rfl (by kernel_rfl) (by kernel_rfl) (by kernel_rfl) (fun _ _ _ h => h) (Or.inl ⟨by rfl, fun w' hSw => by dsimp only at hSw; go_simp⟩) hHeld ?_
                    (try simp only [Act.put, List.getElem_toArray, List.getElem_cons_zero, List.getElem_cons_succ, List.setIfInBounds_toArray, List.set_cons_zero, List.set_cons_succ])
                    refine wpAnyH_take (i := 2) (v := .agg #[.int .i64 1, .int .i64 (q : Int), .int .i64 0, .int .i64 0, .int .i64 0, .int .i64 0, .int .i64 0, .int .i64 0, .int .i64 0]) rfl (by kernel_rfl) (by kernel_rfl) (by kernel_rfl) (fun _ _ _ h => h) (Or.inl ⟨by rfl, fun w' hSw => by dsimp only at hSw; go_simp⟩) hHeld ?_
                    (try simp only [Act.put, List.getElem_toArray, List.getElem_cons_zero, List.getElem_cons_succ, List.setIfInBounds_toArray, List.set_cons_zero, List.set_cons_succ])
                    refine wpAnyH_take (i := 7) (v := .slice (some ⟨b, o, none⟩) (N + 1) c) rfl (by kernel_rfl) (by kernel_rfl) (by kernel_rfl) (fun _ _ _ h => h) (Or.inl ⟨by rfl, fun w' hSw => by dsimp only at hSw; go_simp⟩) hHeld ?_
                    (try simp only [Act.put, List.getElem_toArray, List.getElem_cons_zero, List.getElem_cons_succ, List.setIfInBounds_toArray, List.set_cons_zero, List.set_cons_succ])
                    refine wpAnyH_take (i := 8) (v := .pointer (some ⟨b, o, none⟩)) rfl (by kernel_rfl) (by kernel_rfl) (by kernel_rfl) (fun _ _ _ h => h) (Or.inl ⟨by rfl, fun w' hSw => by dsimp only at hSw; go_simp⟩) hHeld ?_
                    (try simp only [Act.put, List.getElem_toArray, List.getElem_cons_zero, List.getElem_cons_succ, List.setIfInBounds_toArray, List.set_cons_zero, List.set_cons_succ])
                    refine wpAnyH_take (i := 9) (v := .string (bs w0)) rfl (by kernel_rfl) (by kernel_rfl) (by kernel_rfl) (fun _ _ _ h => h) (Or.inl ⟨by rfl, fun w' hSw => by dsimp only at hSw; go_simp⟩) hHeld ?_
                    (try simp only [Act.put, List.getElem_toArray, List.getElem_cons_zero, List.getElem_cons_succ, List.setIfInBounds_toArray, List.set_cons_zero, List.set_cons_succ])
                    refine wpAnyH_ready (rs := [3]) (by kernel_rfl) (by simp) ?_
                    refine AllReadyH.cons rfl (fun K hK => ?_) AllReadyH.nil
                    (try simp only [List.getElem_toArray, List.getElem_cons_zero, List.getElem_cons_succ])
                    go_simp
                    go_at_call 10
                    refine (HLN.out _).mono ?_
                    rintro e w7 ⟨rfl, hb⟩
                    have hb7 : Below wr.heap.size wr w7 := hbd.trans (hb.mono hbd.size)
                    clear hb
                    refine hK.out _ _ (HSK.out _ hb7) (fun hHeld => ?_)
                    clear hK K
                    (try simp only [Act.put, List.getElem_toArray, List.getElem_cons_zero, List.getElem_cons_succ, List.setIfInBounds_toArray, List.set_cons_zero, List.set_cons_succ])
                    refine wpAnyH_ready (rs := [4]) (by kernel_rfl) (by simp) ?_
                    refine AllReadyH.cons rfl (fun K hK => ?_) AllReadyH.nil
                    (try simp only [List.getElem_toArray, List.getElem_cons_zero, List.getElem_cons_succ])
                    go_simp
                    go_at_call 32
                    refine (HWDS.out _).mono ?_
                    rintro e w8 ⟨A8, c8, rfl, hsg, hb⟩
                    have hb8 : Below wr.heap.size wr w8 := hb7.trans (hb.mono hb7.size)
                    clear hb
                    obtain ⟨b8, o8, rfl, _, hc8⟩ := hsg.at (k := 0) (by rw [strs_len]; simp)
                    have hc9 : w8.cell? ⟨b8, o8, none⟩ = some (.string (bs X)) := hc8
                    clear hsg hc8
                    refine hK.out _ _ (HSK.out _ hb8) (fun hHeld => ?_)
                    clear hK K
                    (try simp only [Act.put, List.getElem_toArray, List.getElem_cons_zero, List.getElem_cons_succ, List.setIfInBounds_toArray, List.set_cons_zero, List.set_cons_succ])
                    refine wpAnyH_take (i := 5) (v := .pointer (some ⟨b8, o8, none⟩)) rfl (by kernel_rfl) (by kernel_rfl) (by kernel_rfl) (fun _ _ _ h => h) (Or.inl ⟨by rfl, fun w' hSw => by dsimp only at hSw; go_simp⟩) hHeld ?_
                    (try simp only [Act.put, List.getElem_toArray, List.getElem_cons_zero, List.getElem_cons_succ, List.setIfInBounds_toArray, List.set_cons_zero, List.set_cons_succ])
                    refine wpAnyH_ready (rs := [6]) (by kernel_rfl) (by simp) ?_
                    refine AllReadyH.cons rfl (fun K hK => ?_) AllReadyH.nil
                    (try simp only [List.getElem_toArray, List.getElem_cons_zero, List.getElem_cons_succ])
                    go_simp
                    refine hK.out _ _ (HSK.out _ hb8) (fun hHeld => ?_)
                    clear hK K
                    (try simp only [Act.put, List.getElem_toArray, List.getElem_cons_zero, List.getElem_cons_succ, List.setIfInBounds_toArray, List.set_cons_zero, List.set_cons_succ])
                    refine wpAnyH_take (i := 10) (v := .bool true) rfl (by kernel_rfl) (by kernel_rfl) (by kernel_rfl) (fun _ _ _ h => h) (Or.inl ⟨by rfl, fun w' hSw => by dsimp only at hSw; go_simp⟩) hHeld ?_
                    (try simp only [Act.put, List.getElem_toArray, List.getElem_cons_zero, List.getElem_cons_succ, List.setIfInBounds_toArray, List.set_cons_zero, List.set_cons_succ])
                    refine wpAnyH_take (i := 11) (v := .bool true) rfl (by kernel_rfl) (by kernel_rfl) (by kernel_rfl) (fun _ _ _ h => h) (Or.inl ⟨by rfl, fun w' hSw => by dsimp only at hSw; go_simp⟩) hHeld ?_
                    (try simp only [Act.put, List.getElem_toArray, List.getElem_cons_zero, List.getElem_cons_succ, List.setIfInBounds_toArray, List.set_cons_zero, List.set_cons_succ])
                    refine wpAnyH_take (i := 12) (v := .int .i64 (q : Int)) rfl (by kernel_rfl) (by kernel_rfl) (by kernel_rfl) (fun _ _ _ h => h) (Or.inl ⟨by rfl, fun w' hSw => by dsimp only at hSw; go_simp⟩) hHeld ?_
                    (try simp only [Act.put, List.getElem_toArray, List.getElem_cons_zero, List.getElem_cons_succ, List.setIfInBounds_toArray, List.set_cons_zero, List.set_cons_succ])
                    refine wpAnyH_take (i := 15) (v := .slice Au N cu) rfl (by kernel_rfl) (by kernel_rfl) (by kernel_rfl) (fun _ _ _ h => h) (Or.inl ⟨by rfl, fun w' hSw => by dsimp only at hSw; go_simp⟩) hHeld ?_
                    (try simp only [Act.put, List.getElem_toArray, List.getElem_cons_zero, List.getElem_cons_succ, List.setIfInBounds_toArray, List.set_cons_zero, List.set_cons_succ])
                    refine wpAnyH_take (i := 16) (v := .int .i64 (N : Int)) rfl (by kernel_rfl) (by kernel_rfl) (by kernel_rfl) (fun _ _ _ h => h) (Or.inl ⟨by rfl, fun w' hSw => by dsimp only at hSw; go_simp⟩) hHeld ?_
                    (try simp only [Act.put, List.getElem_toArray, List.getElem_cons_zero, List.getElem_cons_succ, List.setIfInBounds_toArray, List.set_cons_zero, List.set_cons_succ])
                    refine wpAnyH_ready (rs := [13]) (by kernel_rfl) (by simp) ?_
                    refine AllReadyH.cons rfl (fun K hK => ?_) AllReadyH.nil
                    (try simp only [List.getElem_toArray, List.getElem_cons_zero, List.getElem_cons_succ])
                    go_simp
                    go_at_call 31
                    refine (HHA.out _).mono ?_
                    rintro e w9 ⟨rfl, hb⟩
                    have hb9 : Below wr.heap.size wr w9 := hb8.trans (hb.mono hb8.size)
                    clear hb
                    refine hK.out _ _ (HSK.out _ hb9) (fun hHeld => ?_)
                    clear hK K
                    (try simp only [Act.put, List.getElem_toArray, List.getElem_cons_zero, List.getElem_cons_succ, List.setIfInBounds_toArray, List.set_cons_zero, List.set_cons_succ])
                    refine wpAnyH_take (i := 14) (v := .int .i64 (L.length : Int)) rfl (by kernel_rfl) (by kernel_rfl) (by kernel_rfl) (fun _ _ _ h => h) (Or.inl ⟨by rfl, fun w' hSw => by dsimp only at hSw; go_simp⟩) hHeld ?_
                    (try simp only [Act.put, List.getElem_toArray, List.getElem_cons_zero, List.getElem_cons_succ, List.setIfInBounds_toArray, List.set_cons_zero, List.set_cons_succ])
                    refine wpAnyH_take (i := 17) (v := .bool false) rfl (by kernel_rfl) (by kernel_rfl) (by kernel_rfl) (fun _ _ _ h => h) (Or.inl ⟨by rfl, fun w' hSw => by dsimp only at hSw; go_simp⟩) hHeld ?_
                    (try simp only [Act.put, List.getElem_toArray, List.getElem_cons_zero, List.getElem_cons_succ, List.setIfInBounds_toArray, List.set_cons_zero, List.set_cons_succ])
                    refine wpAnyH_take (i := 18) (v := .bool false) rfl (by kernel_rfl) (by kernel_rfl) (by kernel_rfl) (fun _ _ _ h => h) (Or.inl ⟨by rfl, fun w' hSw => by dsimp only at hSw; go_simp⟩) hHeld ?_
                    (try simp only [Act.put, List.getElem_toArray, List.getElem_cons_zero, List.getElem_cons_succ, List.setIfInBounds_toArray, List.set_cons_zero, List.set_cons_succ])
                    refine wpAnyH_done (by kernel_rfl) ?_ _
                    have HB9 : Hid (Below wa.heap.size wa w9) := Lib.hid (HBQ.out.trans (hb9.mono HBQ.out.size))
                    have HNO2 : Hid (∀ k, 1 ≤ k → k < q + 1 → ¬ (wordL k = w0 ∧ (jsOf (k : Int)).length = N)) := Lib.hid (fun k h1 h2 => by
                      by_cases hkq : k = q
                      · subst hkq
                        exact fun h => hn h.2
                      · exact HNO.out k h1 (by omega))
                    go_wp2_with fail
                    go_roundw
                    case rel => exact ⟨q + 1, by omega, by omega, by go_num, HNO2, HB9⟩
                    case measure => simp [intOf]; omega
                · have hwb : (X == w0) = false := by rw [hX]; simpa using hw
                  clear hX hsj
                  go_upto_region 20 with fail
                  refine wp_region_held_drew (S := fun W => W.cell? ⟨b, o, none⟩ = some (.string (bs w0))) (by kernel_rfl) (HSK.out _ hbd) (fun hHeld => ?_)
                  refine wpAnyH_take (i := 0) (v := .int .i64 (q : Int)) rfl (by kernel_rfl) (by kernel_rfl) (by kernel_rfl) (fun _ _ _ h => h) (Or.inl ⟨by rfl, fun w' hSw => by dsimp only at hSw; go_simp⟩) hHeld ?_
                  (try simp only [Act.put, List.getElem_toArray, List.getElem_cons_zero, List.getElem_cons_succ, List.setIfInBounds_toArray, List.set_cons_zero, List.set_cons_succ])
                  refine wpAnyH_take (i := 1) (v := .agg #[.int .i64 (q : Int), .int .i64 0, .int .i64 0, .int .i64 0, .int .i64 0, .int .i64 0, .int .i64 0]) rfl (by kernel_rfl) (by kernel_rfl) (by kernel_rfl) (fun _ _ _ h => h) (Or.inl ⟨by rfl, fun w' hSw => by dsimp only at hSw; go_simp⟩) hHeld ?_
                  (try simp only [Act.put, List.getElem_toArray, List.getElem_cons_zero, List.getElem_cons_succ, List.setIfInBounds_toArray, List.set_cons_zero, List.set_cons_succ])
                  refine wpAnyH_take (i := 2) (v := .agg #[.int .i64 1, .int .i64 (q : Int), .int .i64 0, .int .i64 0, .int .i64 0, .int .i64 0, .int .i64 0, .int .i64 0, .int .i64 0]) rfl (by kernel_rfl) (by kernel_rfl) (by kernel_rfl) (fun _ _ _ h => h) (Or.inl ⟨by rfl, fun w' hSw => by dsimp only at hSw; go_simp⟩) hHeld ?_
                  (try simp only [Act.put, List.getElem_toArray, List.getElem_cons_zero, List.getElem_cons_succ, List.setIfInBounds_toArray, List.set_cons_zero, List.set_cons_succ])
                  refine wpAnyH_take (i := 7) (v := .slice (some ⟨b, o, none⟩) (N + 1) c) rfl (by kernel_rfl) (by kernel_rfl) (by kernel_rfl) (fun _ _ _ h => h) (Or.inl ⟨by rfl, fun w' hSw => by dsimp only at hSw; go_simp⟩) hHeld ?_
                  (try simp only [Act.put, List.getElem_toArray, List.getElem_cons_zero, List.getElem_cons_succ, List.setIfInBounds_toArray, List.set_cons_zero, List.set_cons_succ])
                  refine wpAnyH_take (i := 8) (v := .pointer (some ⟨b, o, none⟩)) rfl (by kernel_rfl) (by kernel_rfl) (by kernel_rfl) (fun _ _ _ h => h) (Or.inl ⟨by rfl, fun w' hSw => by dsimp only at hSw; go_simp⟩) hHeld ?_
                  (try simp only [Act.put, List.getElem_toArray, List.getElem_cons_zero, List.getElem_cons_succ, List.setIfInBounds_toArray, List.set_cons_zero, List.set_cons_succ])
                  refine wpAnyH_take (i := 9) (v := .string (bs w0)) rfl (by kernel_rfl) (by kernel_rfl) (by kernel_rfl) (fun _ _ _ h => h) (Or.inl ⟨by rfl, fun w' hSw => by dsimp only at hSw; go_simp⟩) hHeld ?_
                  (try simp only [Act.put, List.getElem_toArray, List.getElem_cons_zero, List.getElem_cons_succ, List.setIfInBounds_toArray, List.set_cons_zero, List.set_cons_succ])
                  refine wpAnyH_ready (rs := [3]) (by kernel_rfl) (by simp) ?_
                  refine AllReadyH.cons rfl (fun K hK => ?_) AllReadyH.nil
                  (try simp only [List.getElem_toArray, List.getElem_cons_zero, List.getElem_cons_succ])
                  go_simp
                  go_at_call 10
                  refine (HLN.out _).mono ?_
                  rintro e w7 ⟨rfl, hb⟩
                  have hb7 : Below wr.heap.size wr w7 := hbd.trans (hb.mono hbd.size)
                  clear hb
                  refine hK.out _ _ (HSK.out _ hb7) (fun hHeld => ?_)
                  clear hK K
                  (try simp only [Act.put, List.getElem_toArray, List.getElem_cons_zero, List.getElem_cons_succ, List.setIfInBounds_toArray, List.set_cons_zero, List.set_cons_succ])
                  refine wpAnyH_ready (rs := [4]) (by kernel_rfl) (by simp) ?_
                  refine AllReadyH.cons rfl (fun K hK => ?_) AllReadyH.nil
                  (try simp only [List.getElem_toArray, List.getElem_cons_zero, List.getElem_cons_succ])
                  go_simp
                  go_at_call 32
                  refine (HWDS.out _).mono ?_
                  rintro e w8 ⟨A8, c8, rfl, hsg, hb⟩
                  have hb8 : Below wr.heap.size wr w8 := hb7.trans (hb.mono hb7.size)
                  clear hb
                  obtain ⟨b8, o8, rfl, _, hc8⟩ := hsg.at (k := 0) (by rw [strs_len]; simp)
                  have hc9 : w8.cell? ⟨b8, o8, none⟩ = some (.string (bs X)) := hc8
                  clear hsg hc8
                  refine hK.out _ _ (HSK.out _ hb8) (fun hHeld => ?_)
                  clear hK K
                  (try simp only [Act.put, List.getElem_toArray, List.getElem_cons_zero, List.getElem_cons_succ, List.setIfInBounds_toArray, List.set_cons_zero, List.set_cons_succ])
                  refine wpAnyH_take (i := 5) (v := .pointer (some ⟨b8, o8, none⟩)) rfl (by kernel_rfl) (by kernel_rfl) (by kernel_rfl) (fun _ _ _ h => h) (Or.inl ⟨by rfl, fun w' hSw => by dsimp only at hSw; go_simp⟩) hHeld ?_
                  (try simp only [Act.put, List.getElem_toArray, List.getElem_cons_zero, List.getElem_cons_succ, List.setIfInBounds_toArray, List.set_cons_zero, List.set_cons_succ])
                  refine wpAnyH_ready (rs := [6]) (by kernel_rfl) (by simp) ?_
                  refine AllReadyH.cons rfl (fun K hK => ?_) AllReadyH.nil
                  (try simp only [List.getElem_toArray, List.getElem_cons_zero, List.getElem_cons_succ])
                  go_simp
                  refine hK.out _ _ (HSK.out _ hb8) (fun hHeld => ?_)
                  clear hK K
                  (try simp only [Act.put, List.getElem_toArray, List.getElem_cons_zero, List.getElem_cons_succ, List.setIfInBounds_toArray, List.set_cons_zero, List.set_cons_succ])
                  refine wpAnyH_take (i := 10) (v := .bool false) rfl (by kernel_rfl) (by kernel_rfl) (by kernel_rfl) (fun _ _ _ h => h) (Or.inl ⟨by rfl, fun w' hSw => by dsimp only at hSw; go_simp⟩) hHeld ?_
                  (try simp only [Act.put, List.getElem_toArray, List.getElem_cons_zero, List.getElem_cons_succ, List.setIfInBounds_toArray, List.set_cons_zero, List.set_cons_succ])
                  refine wpAnyH_take (i := 11) (v := .bool false) rfl (by kernel_rfl) (by kernel_rfl) (by kernel_rfl) (fun _ _ _ h => h) (Or.inl ⟨by rfl, fun w' hSw => by dsimp only at hSw; go_simp⟩) hHeld ?_
                  (try simp only [Act.put, List.getElem_toArray, List.getElem_cons_zero, List.getElem_cons_succ, List.setIfInBounds_toArray, List.set_cons_zero, List.set_cons_succ])
                  refine wpAnyH_take (i := 12) (v := undef) rfl (by kernel_rfl) (by kernel_rfl) (by kernel_rfl) (fun _ _ _ h => h) (Or.inr ⟨by rfl, rfl⟩) hHeld ?_
                  (try simp only [Act.put, List.getElem_toArray, List.getElem_cons_zero, List.getElem_cons_succ, List.setIfInBounds_toArray, List.set_cons_zero, List.set_cons_succ])
                  refine wpAnyH_take (i := 13) (v := undef) rfl (by kernel_rfl) (by kernel_rfl) (by kernel_rfl) (fun _ _ _ h => h) (Or.inr ⟨by rfl, rfl⟩) hHeld ?_
                  (try simp only [Act.put, List.getElem_toArray, List.getElem_cons_zero, List.getElem_cons_succ, List.setIfInBounds_toArray, List.set_cons_zero, List.set_cons_succ])
                  refine wpAnyH_take (i := 14) (v := undef) rfl (by kernel_rfl) (by kernel_rfl) (by kernel_rfl) (fun _ _ _ h => h) (Or.inr ⟨by rfl, rfl⟩) hHeld ?_
                  (try simp only [Act.put, List.getElem_toArray, List.getElem_cons_zero, List.getElem_cons_succ, List.setIfInBounds_toArray, List.set_cons_zero, List.set_cons_succ])
                  refine wpAnyH_take (i := 15) (v := undef) rfl (by kernel_rfl) (by kernel_rfl) (by kernel_rfl) (fun _ _ _ h => h) (Or.inr ⟨by rfl, rfl⟩) hHeld ?_
                  (try simp only [Act.put, List.getElem_toArray, List.getElem_cons_zero, List.getElem_cons_succ, List.setIfInBounds_toArray, List.set_cons_zero, List.set_cons_succ])
                  refine wpAnyH_take (i := 16) (v := undef) rfl (by kernel_rfl) (by kernel_rfl) (by kernel_rfl) (fun _ _ _ h => h) (Or.inr ⟨by rfl, rfl⟩) hHeld ?_
                  (try simp only [Act.put, List.getElem_toArray, List.getElem_cons_zero, List.getElem_cons_succ, List.setIfInBounds_toArray, List.set_cons_zero, List.set_cons_succ])
                  refine wpAnyH_take (i := 17) (v := undef) rfl (by kernel_rfl) (by kernel_rfl) (by kernel_rfl) (fun _ _ _ h => h) (Or.inr ⟨by rfl, rfl⟩) hHeld ?_
                  (try simp only [Act.put, List.getElem_toArray, List.getElem_cons_zero, List.getElem_cons_succ, List.setIfInBounds_toArray, List.set_cons_zero, List.set_cons_succ])
                  refine wpAnyH_take (i := 18) (v := .bool false) rfl (by kernel_rfl) (by kernel_rfl) (by kernel_rfl) (fun _ _ _ h => h) (Or.inl ⟨by rfl, fun w' hSw => by dsimp only at hSw; go_simp⟩) hHeld ?_
                  (try simp only [Act.put, List.getElem_toArray, List.getElem_cons_zero, List.getElem_cons_succ, List.setIfInBounds_toArray, List.set_cons_zero, List.set_cons_succ])
                  refine wpAnyH_done (by kernel_rfl) ?_ _
                  have HB9 : Hid (Below wa.heap.size wa w8) := Lib.hid (HBQ.out.trans (hb8.mono HBQ.out.size))
                  have HNO2 : Hid (∀ k, 1 ≤ k → k < q + 1 → ¬ (wordL k = w0 ∧ (jsOf (k : Int)).length = N)) := Lib.hid (fun k h1 h2 => by
                    by_cases hkq : k = q
                    · subst hkq
                      exact fun h => hw h.1
                    · exact HNO.out k h1 (by omega))
                  go_wp2_with fail
                  go_roundw
                  case rel => exact ⟨q + 1, by omega, by omega, by go_num, HNO2, HB9⟩
                  case measure => simp [intOf]; omega
              · obtain rfl : q = 11 := by omega
                have HT2 : Hid (T = (zeroS, false)) := Lib.hid (by rw [HT3.out, if_neg (noKind HNO.out)])
                have HZ9 : Hid (CsAt wr w.heap.size (stCells zeroS)) := Lib.hid (HZW.out.below (by omega) HBQ.out)
                have HB9 : Hid (Below w.heap.size w wr) := Lib.hid (HBWW.out.trans (HBQ.out.mono HBWW.out.size))
                have z0 : wr.cell? ⟨w.heap.size, 0, none⟩ = some (.int .i64 0) := HZ9.out.cell 0
                have z1 : wr.cell? ⟨w.heap.size, 1, none⟩ = some (.int .i64 0) := HZ9.out.cell 1
                have z2 : wr.cell? ⟨w.heap.size, 2, none⟩ = some (.int .i64 0) := HZ9.out.cell 2
                have z3 : wr.cell? ⟨w.heap.size, 3, none⟩ = some (.int .i64 0) := HZ9.out.cell 3
                have z4 : wr.cell? ⟨w.heap.size, 4, none⟩ = some (.int .i64 0) := HZ9.out.cell 4
                have z5 : wr.cell? ⟨w.heap.size, 5, none⟩ = some (.int .i64 0) := HZ9.out.cell 5
                have z6 : wr.cell? ⟨w.heap.size, 6, none⟩ = some (.int .i64 0) := HZ9.out.cell 6
                have z7 : wr.cell? ⟨w.heap.size, 7, none⟩ = some (.int .i64 0) := HZ9.out.cell 7
                have z8 : wr.cell? ⟨w.heap.size, 8, none⟩ = some (.int .i64 0) := HZ9.out.cell 8
                have zf := HZ9.out.fz
                go_wp2_with fail
                obtain ⟨hov, hgv⟩ := HZ9.out.over zeroS
                obtain ⟨W5, hW5⟩ : ∃ W5, W5 = (World.setCell (World.setCell (World.setCell (World.setCell (World.setCell (World.setCell (World.setCell (World.setCell (World.setCell wr ⟨w.heap.size, 0, none⟩ (.int .i64 0)) ⟨w.heap.size, 1, none⟩ (.int .i64 0)) ⟨w.heap.size, 2, none⟩ (.int .i64 0)) ⟨w.heap.size, 3, none⟩ (.int .i64 0)) ⟨w.heap.size, 4, none⟩ (.int .i64 0)) ⟨w.heap.size, 5, none⟩ (.int .i64 0)) ⟨w.heap.size, 6, none⟩ (.int .i64 0)) ⟨w.heap.size, 7, none⟩ (.int .i64 0)) ⟨w.heap.size, 8, none⟩ (.int .i64 0)) := ⟨_, rfl⟩
                have HOV : Hid (CsAt W5 w.heap.size (stCells zeroS)) := Lib.hid (by rw [hW5]; exact hov)
                have HGV : Hid (wr.grownBy W5 (some w.heap.size)) := Lib.hid (by rw [hW5]; exact hgv)
                rw [← hW5]
                clear hov hgv hW5
                have y0 : W5.cell? ⟨w.heap.size, 0, none⟩ = some (.int .i64 0) := HOV.out.cell 0
                have y1 : W5.cell? ⟨w.heap.size, 1, none⟩ = some (.int .i64 0) := HOV.out.cell 1
                have y2 : W5.cell? ⟨w.heap.size, 2, none⟩ = some (.int .i64 0) := HOV.out.cell 2
                have y3 : W5.cell? ⟨w.heap.size, 3, none⟩ = some (.int .i64 0) := HOV.out.cell 3
                have y4 : W5.cell? ⟨w.heap.size, 4, none⟩ = some (.int .i64 0) := HOV.out.cell 4
                have y5 : W5.cell? ⟨w.heap.size, 5, none⟩ = some (.int .i64 0) := HOV.out.cell 5
                have y6 : W5.cell? ⟨w.heap.size, 6, none⟩ = some (.int .i64 0) := HOV.out.cell 6
                have y7 : W5.cell? ⟨w.heap.size, 7, none⟩ = some (.int .i64 0) := HOV.out.cell 7
                have y8 : W5.cell? ⟨w.heap.size, 8, none⟩ = some (.int .i64 0) := HOV.out.cell 8
                refine bodyPost_ret (v := .tuple #[.agg #[.int .i64 0, .int .i64 0, .int .i64 0, .int .i64 0, .int .i64 0, .int .i64 0, .int .i64 0, .int .i64 0, .int .i64 0], .bool false]) (by simp [results, Tryz.results11, go_sem, y0, y1, y2, y3, y4, y5, y6, y7, y8]) rfl ?_
                rw [HT2.out]
                exact ⟨rfl, below_byS HB9.out HGV.out⟩
          · skip
            have hf1 : (w0 == [102, 117, 115, 101]) = false := beq_eq_false_iff_ne.2 hf
            have hc1 : (w0 == [99, 114, 97, 115, 104]) = false := beq_eq_false_iff_ne.2 hc
            clear hfx hf hc
            go_wp2_with fail
            go_loopw [10] (fun i wr => ∃ q : Nat, 1 ≤ q ∧ q ≤ 11 ∧ i = .int .i64 (q : Int) ∧ Hid (∀ k, 1 ≤ k → k < q → ¬ (wordL k = w0 ∧ (jsOf (k : Int)).length = N)) ∧ Hid (Below wa.heap.size wa wr)) (fun i _ => 11 - (intOf i).toNat)
            case atStart => exact ⟨1, Nat.le_refl _, by omega, rfl, Lib.hid (fun k h1 h2 => by omega), Lib.hid (Below.refl _ _)⟩
            case round =>
              clear c0
              obtain ⟨q, hq1, hq11, rfl, HNO, HBQ⟩ := hrel
              by_cases hq : q ≤ 10
              · have hlq : (q : Int) ≤ 10 := by omega
                have hik := isK_small hq1 hq
                have HLN := Lib.hid (fun W => srline_any ⟨1, ⟨q, 0, 0, 0, 0, 0, 0⟩, 0⟩ (by unfold StOk CmOk I64; simp; omega) (.inr (.inr ⟨rfl, hik⟩)) W)
                unfold stV stCells at HLN
                simp only at HLN
                obtain ⟨ln, hln⟩ : ∃ ln, ln = lineS ⟨1, ⟨q, 0, 0, 0, 0, 0, 0⟩, 0⟩ := ⟨_, rfl⟩
                have hsl := split_line ⟨1, ⟨q, 0, 0, 0, 0, 0, 0⟩, 0⟩
                have hll : (lineS ⟨1, ⟨q, 0, 0, 0, 0, 0, 0⟩, 0⟩).length ≤ 133 := lineS_len (by unfold StOk CmOk I64; simp; omega)
                rw [← hln] at HLN hsl hll
                have hwq : wordS ⟨1, ⟨q, 0, 0, 0, 0, 0, 0⟩, 0⟩ = wordL q := rfl
                rw [hwq] at hsl
                have HWDS := Lib.hid (fun W => words_any ln W (by omega))
                unfold GotT at HWDS
                rw [hsl, List.length_cons] at HWDS
                generalize (numsS ⟨1, ⟨q, 0, 0, 0, 0, 0, 0⟩, 0⟩).map Lib.itoa = ts at *
                clear hsl hll hwq hln
                have HHA := Lib.hid (fun W => rhas_any (q : Int) W)
                have hsj := letters_len hik
                generalize lettersOf (q : Int) = L at *
                have hsL := bs_size L
                clear hik
                obtain ⟨X, hX⟩ : ∃ X, X = wordL q := ⟨_, rfl⟩
                rw [← hX] at HWDS
                have hlb : b < wa.heap.size := by omega
                have hbq := HBQ.out.size
                have c6 : wr.cell? ⟨b, o, none⟩ = some (.string (bs w0)) := HS0.out wr HBQ.out
                have hbd : Below wr.heap.size wr wr.drew := (Below.refl _ _).drew
                have HSK : Hid (∀ W, Below wr.heap.size wr W → W.cell? ⟨b, o, none⟩ = some (.string (bs w0))) := Lib.hid (fun W hW => HS0.out W (HBQ.out.trans (hW.mono hbq)))
                by_cases hw : wordL q = w0
                · have hwb : (X == w0) = true := by rw [hX]; simpa using hw
                  by_cases hn : (jsOf (q : Int)).length = N
                  · have hnb : ((L.length : Int) == (N : Int)) = true := by rw [hsj, hn]; simp
                    clear hX
                    have hK : kindW w0 = q := kindW_at hq1 (by omega) hw
                    have HT4 : Hid (T = ((⟨1, (getC (putN (q : Int) ++ vs.flatMap putN)).1, 0⟩ : St), (getC (putN (q : Int) ++ vs.flatMap putN)).2 == 0)) := Lib.hid (by rw [HT3.out, hK, if_pos ⟨by omega, hn⟩])
                    have hqi : I64 (q : Int) := by unfold I64; omega
                    have HPU := Lib.hid (fun W => rput_any (q : Int) W hqi)
                    have hpl := putN_len hqi
                    have HGE := Lib.hid (fun W => rget11_any (putN (q : Int) ++ vs.flatMap putN) W (by rw [List.length_append]; omega))
                    unfold cmV at HGE
                    generalize getC (putN (q : Int) ++ vs.flatMap putN) = GC at *
                    obtain ⟨cc, ec⟩ := GC
                    simp only at HT4 HGE
                    have HT2 := HT4
                    clear HT3 HT4 hqi hK
                    generalize vs.flatMap putN = pf at *
                    generalize putN (q : Int) = pk at *
                    have hs1 := bs_size pk
                    have hs2 := bs_size pf
                    have hap := bs_append pk pf
                    have hbig : ¬ 9223372036854775807 < pk.length + pf.length := by omega
                    clear hpl hfl HNO hw hn hsj
                    go_upto_region 20 with fail
                    refine wp_region_held_drew (S := fun W => W.cell? ⟨b, o, none⟩ = some (.string (bs w0))) (by kernel_rfl) (HSK.out _ hbd) (fun hHeld => ?_)
                    refine wpAnyH_take (i := 0) (v := .int .i64 (q : Int)) rfl (by kernel_rfl) (by kernel_rfl) (by kernel_rfl) (fun _ _ _ h => h) (Or.inl ⟨by rfl, fun w' hSw => by dsimp only at hSw; go_simp⟩) hHeld ?_
                    (try simp only [Act.put, List.getElem_toArray, List.getElem_cons_zero, List.getElem_cons_succ, List.setIfInBounds_toArray, List.set_cons_zero, List.set_cons_succ])
                    refine wpAnyH_take (i := 1) (v := .agg #[.int .i64 (q : Int), .int .i64 0, .int .i64 0, .int .i64 0, .int .i64 0, .int .i64 0, .int .i64 0]) rfl (by kernel_rfl) (by kernel_rfl) (by kernel_rfl) (fun _ _ _ h => h) (Or.inl ⟨by rfl, fun w' hSw => by dsimp only at hSw; go_simp⟩) hHeld ?_
                    (try simp only [Act.put, List.getElem_toArray, List.getElem_cons_zero, List.getElem_cons_succ, List.setIfInBounds_toArray, List.set_cons_zero, List.set_cons_succ])
                    refine wpAnyH_take (i := 2) (v := .agg #[.int .i64 1, .int .i64 (q : Int), .int .i64 0, .int .i64 0, .int .i64 0, .int .i64 0, .int .i64 0, .int .i64 0, .int .i64 0]) rfl (by kernel_rfl) (by kernel_rfl) (by kernel_rfl) (fun _ _ _ h => h) (Or.inl ⟨by rfl, fun w' hSw => by dsimp only at hSw; go_simp⟩) hHeld ?_
                    (try simp only [Act.put, List.getElem_toArray, List.getElem_cons_zero, List.getElem_cons_succ, List.setIfInBounds_toArray, List.set_cons_zero, List.set_cons_succ])
                    refine wpAnyH_take (i := 7) (v := .slice (some ⟨b, o, none⟩) (N + 1) c) rfl (by kernel_rfl) (by kernel_rfl) (by kernel_rfl) (fun _ _ _ h => h) (Or.inl ⟨by rfl, fun w' hSw => by dsimp only at hSw; go_simp⟩) hHeld ?_
                    (try simp only [Act.put, List.getElem_toArray, List.getElem_cons_zero, List.getElem_cons_succ, List.setIfInBounds_toArray, List.set_cons_zero, List.set_cons_succ])
                    refine wpAnyH_take (i := 8) (v := .pointer (some ⟨b, o, none⟩)) rfl (by kernel_rfl) (by kernel_rfl) (by kernel_rfl) (fun _ _ _ h => h) (Or.inl ⟨by rfl, fun w' hSw => by dsimp only at hSw; go_simp⟩) hHeld ?_
                    (try simp only [Act.put, List.getElem_toArray, List.getElem_cons_zero, List.getElem_cons_succ, List.setIfInBounds_toArray, List.set_cons_zero, List.set_cons_succ])
                    refine wpAnyH_take (i := 9) (v := .string (bs w0)) rfl (by kernel_rfl) (by kernel_rfl) (by kernel_rfl) (fun _ _ _ h => h) (Or.inl ⟨by rfl, fun w' hSw => by dsimp only at hSw; go_simp⟩) hHeld ?_
                    (try simp only [Act.put, List.getElem_toArray, List.getElem_cons_zero, List.getElem_cons_succ, List.setIfInBounds_toArray, List.set_cons_zero, List.set_cons_succ])
                    refine wpAnyH_ready (rs := [3]) (by kernel_rfl) (by simp) ?_
                    refine AllReadyH.cons rfl (fun K hK => ?_) AllReadyH.nil
                    (try simp only [List.getElem_toArray, List.getElem_cons_zero, List.getElem_cons_succ])
                    go_simp
                    go_at_call 10
                    refine (HLN.out _).mono ?_
                    rintro e w7 ⟨rfl, hb⟩
                    have hb7 : Below wr.heap.size wr w7 := hbd.trans (hb.mono hbd.size)
                    clear hb
                    refine hK.out _ _ (HSK.out _ hb7) (fun hHeld => ?_)
                    clear hK K
                    (try simp only [Act.put, List.getElem_toArray, List.getElem_cons_zero, List.getElem_cons_succ, List.setIfInBounds_toArray, List.set_cons_zero, List.set_cons_succ])
                    refine wpAnyH_ready (rs := [4]) (by kernel_rfl) (by simp) ?_
                    refine AllReadyH.cons rfl (fun K hK => ?_) AllReadyH.nil
                    (try simp only [List.getElem_toArray, List.getElem_cons_zero, List.getElem_cons_succ])
                    go_simp
                    go_at_call 32
                    refine (HWDS.out _).mono ?_
                    rintro e w8 ⟨A8, c8, rfl, hsg, hb⟩
                    have hb8 : Below wr.heap.size wr w8 := hb7.trans (hb.mono hb7.size)
                    clear hb
                    obtain ⟨b8, o8, rfl, _, hc8⟩ := hsg.at (k := 0) (by rw [strs_len]; simp)
                    have hc9 : w8.cell? ⟨b8, o8, none⟩ = some (.string (bs X)) := hc8
                    clear hsg hc8
                    refine hK.out _ _ (HSK.out _ hb8) (fun hHeld => ?_)
                    clear hK K
                    (try simp only [Act.put, List.getElem_toArray, List.getElem_cons_zero, List.getElem_cons_succ, List.setIfInBounds_toArray, List.set_cons_zero, List.set_cons_succ])
                    refine wpAnyH_take (i := 5) (v := .pointer (some ⟨b8, o8, none⟩)) rfl (by kernel_rfl) (by kernel_rfl) (by kernel_rfl) (fun _ _ _ h => h) (Or.inl ⟨by rfl, fun w' hSw => by dsimp only at hSw; go_simp⟩) hHeld ?_
                    (try simp only [Act.put, List.getElem_toArray, List.getElem_cons_zero, List.getElem_cons_succ, List.setIfInBounds_toArray, List.set_cons_zero, List.set_cons_succ])
                    refine wpAnyH_ready (rs := [6]) (by kernel_rfl) (by simp) ?_
                    refine AllReadyH.cons rfl (fun K hK => ?_) AllReadyH.nil
                    (try simp only [List.getElem_toArray, List.getElem_cons_zero, List.getElem_cons_succ])
                    go_simp
                    refine hK.out _ _ (HSK.out _ hb8) (fun hHeld => ?_)
                    clear hK K
                    (try simp only [Act.put, List.getElem_toArray, List.getElem_cons_zero, List.getElem_cons_succ, List.setIfInBounds_toArray, List.set_cons_zero, List.set_cons_succ])
                    refine wpAnyH_take (i := 10) (v := .bool true) rfl (by kernel_rfl) (by kernel_rfl) (by kernel_rfl) (fun _ _ _ h => h) (Or.inl ⟨by rfl, fun w' hSw => by dsimp only at hSw; go_simp⟩) hHeld ?_
                    (try simp only [Act.put, List.getElem_toArray, List.getElem_cons_zero, List.getElem_cons_succ, List.setIfInBounds_toArray, List.set_cons_zero, List.set_cons_succ])
                    refine wpAnyH_take (i := 11) (v := .bool true) rfl (by kernel_rfl) (by kernel_rfl) (by kernel_rfl) (fun _ _ _ h => h) (Or.inl ⟨by rfl, fun w' hSw => by dsimp only at hSw; go_simp⟩) hHeld ?_
                    (try simp only [Act.put, List.getElem_toArray, List.getElem_cons_zero, List.getElem_cons_succ, List.setIfInBounds_toArray, List.set_cons_zero, List.set_cons_succ])
                    refine wpAnyH_take (i := 12) (v := .int .i64 (q : Int)) rfl (by kernel_rfl) (by kernel_rfl) (by kernel_rfl) (fun _ _ _ h => h) (Or.inl ⟨by rfl, fun w' hSw => by dsimp only at hSw; go_simp⟩) hHeld ?_
                    (try simp only [Act.put, List.getElem_toArray, List.getElem_cons_zero, List.getElem_cons_succ, List.setIfInBounds_toArray, List.set_cons_zero, List.set_cons_succ])
                    refine wpAnyH_take (i := 15) (v := .slice Au N cu) rfl (by kernel_rfl) (by kernel_rfl) (by kernel_rfl) (fun _ _ _ h => h) (Or.inl ⟨by rfl, fun w' hSw => by dsimp only at hSw; go_simp⟩) hHeld ?_
                    (try simp only [Act.put, List.getElem_toArray, List.getElem_cons_zero, List.getElem_cons_succ, List.setIfInBounds_toArray, List.set_cons_zero, List.set_cons_succ])
                    refine wpAnyH_take (i := 16) (v := .int .i64 (N : Int)) rfl (by kernel_rfl) (by kernel_rfl) (by kernel_rfl) (fun _ _ _ h => h) (Or.inl ⟨by rfl, fun w' hSw => by dsimp only at hSw; go_simp⟩) hHeld ?_
                    (try simp only [Act.put, List.getElem_toArray, List.getElem_cons_zero, List.getElem_cons_succ, List.setIfInBounds_toArray, List.set_cons_zero, List.set_cons_succ])
                    refine wpAnyH_ready (rs := [13]) (by kernel_rfl) (by simp) ?_
                    refine AllReadyH.cons rfl (fun K hK => ?_) AllReadyH.nil
                    (try simp only [List.getElem_toArray, List.getElem_cons_zero, List.getElem_cons_succ])
                    go_simp
                    go_at_call 31
                    refine (HHA.out _).mono ?_
                    rintro e w9 ⟨rfl, hb⟩
                    have hb9 : Below wr.heap.size wr w9 := hb8.trans (hb.mono hb8.size)
                    clear hb
                    refine hK.out _ _ (HSK.out _ hb9) (fun hHeld => ?_)
                    clear hK K
                    (try simp only [Act.put, List.getElem_toArray, List.getElem_cons_zero, List.getElem_cons_succ, List.setIfInBounds_toArray, List.set_cons_zero, List.set_cons_succ])
                    refine wpAnyH_take (i := 14) (v := .int .i64 (L.length : Int)) rfl (by kernel_rfl) (by kernel_rfl) (by kernel_rfl) (fun _ _ _ h => h) (Or.inl ⟨by rfl, fun w' hSw => by dsimp only at hSw; go_simp⟩) hHeld ?_
                    (try simp only [Act.put, List.getElem_toArray, List.getElem_cons_zero, List.getElem_cons_succ, List.setIfInBounds_toArray, List.set_cons_zero, List.set_cons_succ])
                    refine wpAnyH_take (i := 17) (v := .bool true) rfl (by kernel_rfl) (by kernel_rfl) (by kernel_rfl) (fun _ _ _ h => h) (Or.inl ⟨by rfl, fun w' hSw => by dsimp only at hSw; go_simp⟩) hHeld ?_
                    (try simp only [Act.put, List.getElem_toArray, List.getElem_cons_zero, List.getElem_cons_succ, List.setIfInBounds_toArray, List.set_cons_zero, List.set_cons_succ])
                    refine wpAnyH_take (i := 18) (v := .bool true) rfl (by kernel_rfl) (by kernel_rfl) (by kernel_rfl) (fun _ _ _ h => h) (Or.inl ⟨by rfl, fun w' hSw => by dsimp only at hSw; go_simp⟩) hHeld ?_
                    (try simp only [Act.put, List.getElem_toArray, List.getElem_cons_zero, List.getElem_cons_succ, List.setIfInBounds_toArray, List.set_cons_zero, List.set_cons_succ])
                    refine wpAnyH_done (by kernel_rfl) ?_ _
                    have HB9 : Hid (Below wa.heap.size wa w9) := Lib.hid (HBQ.out.trans (hb9.mono HBQ.out.size))
                    clear hc9 hb7 hb8 hb9 HSK hbd c6 HLN HWDS HHA
                    go_upto_region 22 with (first | (go_at_call 35; refine (HPU.out _).mono ?_; rintro e w10 ⟨rfl, hb⟩; have HB10 : Hid (Below wa.heap.size wa w10) := Lib.hid (HB9.out.trans (hb.mono HB9.out.size)); clear hb) | (go_at_call 36; refine (HAL0.out _ HB10.out).mono ?_; rintro e w11 ⟨rfl, hb⟩; have HB11 : Hid (Below wa.heap.size wa w11) := Lib.hid (HB10.out.trans (hb.mono HB10.out.size)); clear hb) | (go_at_call 34; refine (HGE.out _).mono ?_; rintro e w12 ⟨rfl, hb⟩; have HB12 : Hid (Below wa.heap.size wa w12) := Lib.hid (HB11.out.trans (hb.mono HB11.out.size)); clear hb))
                    have HC13 := Lib.hid (CmAt.made w12 cc)
                    have HB13 : Hid (Below wa.heap.size wa (w12.alloc (.cells #[.int .i64 cc.k, .int .i64 cc.i, .int .i64 cc.m, .int .i64 cc.o, .int .i64 cc.s, .int .i64 cc.q, .int .i64 cc.p] TC))) := Lib.hid (HB12.out.alloc HB12.out.size _)
                    unfold cmCells at HC13
                    generalize w12.alloc (.cells #[.int .i64 cc.k, .int .i64 cc.i, .int .i64 cc.m, .int .i64 cc.o, .int .i64 cc.s, .int .i64 cc.q, .int .i64 cc.p] TC) = w13 at *
                    generalize w12.heap.size = b13 at *
                    have HZ13 : Hid (CsAt w13 w.heap.size (stCells zeroS)) := Lib.hid (HZW.out.below (by omega) HB13.out)
                    have HBW13 : Hid (Below w.heap.size w w13) := Lib.hid (HBWW.out.trans (HB13.out.mono HBWW.out.size))
                    have z0 : w13.cell? ⟨w.heap.size, 0, none⟩ = some (.int .i64 0) := HZ13.out.cell 0
                    have z1 : w13.cell? ⟨w.heap.size, 1, none⟩ = some (.int .i64 0) := HZ13.out.cell 1
                    have z2 : w13.cell? ⟨w.heap.size, 2, none⟩ = some (.int .i64 0) := HZ13.out.cell 2
                    have z3 : w13.cell? ⟨w.heap.size, 3, none⟩ = some (.int .i64 0) := HZ13.out.cell 3
                    have z4 : w13.cell? ⟨w.heap.size, 4, none⟩ = some (.int .i64 0) := HZ13.out.cell 4
                    have z5 : w13.cell? ⟨w.heap.size, 5, none⟩ = some (.int .i64 0) := HZ13.out.cell 5
                    have z6 : w13.cell? ⟨w.heap.size, 6, none⟩ = some (.int .i64 0) := HZ13.out.cell 6
                    have z7 : w13.cell? ⟨w.heap.size, 7, none⟩ = some (.int .i64 0) := HZ13.out.cell 7
                    have z8 : w13.cell? ⟨w.heap.size, 8, none⟩ = some (.int .i64 0) := HZ13.out.cell 8
                    have zf := HZ13.out.fz
                    have x0 : w13.cell? ⟨b13, 0, none⟩ = some (.int .i64 cc.k) := HC13.out.cell 0
                    have x1 : w13.cell? ⟨b13, 1, none⟩ = some (.int .i64 cc.i) := HC13.out.cell 1
                    have x2 : w13.cell? ⟨b13, 2, none⟩ = some (.int .i64 cc.m) := HC13.out.cell 2
                    have x3 : w13.cell? ⟨b13, 3, none⟩ = some (.int .i64 cc.o) := HC13.out.cell 3
                    have x4 : w13.cell? ⟨b13, 4, none⟩ = some (.int .i64 cc.s) := HC13.out.cell 4
                    have x5 : w13.cell? ⟨b13, 5, none⟩ = some (.int .i64 cc.q) := HC13.out.cell 5
                    have x6 : w13.cell? ⟨b13, 6, none⟩ = some (.int .i64 cc.p) := HC13.out.cell 6
                    go_wp2_with fail
                    obtain ⟨hov, hgv⟩ := HZ13.out.over ⟨1, cc, 0⟩
                    obtain ⟨W5, hW5⟩ : ∃ W5, W5 = (World.setCell (World.setCell (World.setCell (World.setCell (World.setCell (World.setCell (World.setCell (World.setCell (World.setCell w13 ⟨w.heap.size, 0, none⟩ (.int .i64 1)) ⟨w.heap.size, 1, none⟩ (.int .i64 cc.k)) ⟨w.heap.size, 2, none⟩ (.int .i64 cc.i)) ⟨w.heap.size, 3, none⟩ (.int .i64 cc.m)) ⟨w.heap.size, 4, none⟩ (.int .i64 cc.o)) ⟨w.heap.size, 5, none⟩ (.int .i64 cc.s)) ⟨w.heap.size, 6, none⟩ (.int .i64 cc.q)) ⟨w.heap.size, 7, none⟩ (.int .i64 cc.p)) ⟨w.heap.size, 8, none⟩ (.int .i64 0)) := ⟨_, rfl⟩
                    have HOV : Hid (CsAt W5 w.heap.size (stCells ⟨1, cc, 0⟩)) := Lib.hid (by rw [hW5]; exact hov)
                    have HGV : Hid (w13.grownBy W5 (some w.heap.size)) := Lib.hid (by rw [hW5]; exact hgv)
                    rw [← hW5]
                    clear hov hgv hW5
                    have y0 : W5.cell? ⟨w.heap.size, 0, none⟩ = some (.int .i64 1) := HOV.out.cell 0
                    have y1 : W5.cell? ⟨w.heap.size, 1, none⟩ = some (.int .i64 cc.k) := HOV.out.cell 1
                    have y2 : W5.cell? ⟨w.heap.size, 2, none⟩ = some (.int .i64 cc.i) := HOV.out.cell 2
                    have y3 : W5.cell? ⟨w.heap.size, 3, none⟩ = some (.int .i64 cc.m) := HOV.out.cell 3
                    have y4 : W5.cell? ⟨w.heap.size, 4, none⟩ = some (.int .i64 cc.o) := HOV.out.cell 4
                    have y5 : W5.cell? ⟨w.heap.size, 5, none⟩ = some (.int .i64 cc.s) := HOV.out.cell 5
                    have y6 : W5.cell? ⟨w.heap.size, 6, none⟩ = some (.int .i64 cc.q) := HOV.out.cell 6
                    have y7 : W5.cell? ⟨w.heap.size, 7, none⟩ = some (.int .i64 cc.p) := HOV.out.cell 7
                    have y8 : W5.cell? ⟨w.heap.size, 8, none⟩ = some (.int .i64 0) := HOV.out.cell 8
                    refine bodyPost_ret (v := .tuple #[.agg #[.int .i64 1, .int .i64 cc.k, .int .i64 cc.i, .int .i64 cc.m, .int .i64 cc.o, .int .i64 cc.s, .int .i64 cc.q, .int .i64 cc.p, .int .i64 0], .bool (ec == 0)]) (by simp [results, Tryz.results11, go_sem, y0, y1, y2, y3, y4, y5, y6, y7, y8]) rfl ?_
                    rw [HT2.out]
                    exact ⟨rfl, below_byS HBW13.out HGV.out⟩
                  · have hnb : ((L.length : Int) == (N : Int)) = false := by rw [hsj]; exact beq_eq_false_iff_ne.2 (fun e => hn (by omega))
                    clear hX hsj
                    go_upto_region 20 with fail
                    refine wp_region_held_drew (S := fun W => W.cell? ⟨b, o, none⟩ = some (.string (bs w0))) (by kernel_rfl) (HSK.out _ hbd) (fun hHeld => ?_)
                    refine wpAnyH_take (i := 0) (v := .int .i64 (q : Int)) rfl (by kernel_rfl) (by kernel_rfl) (by kernel_rfl) (fun _ _ _ h => h) (Or.inl ⟨by rfl, fun w' hSw => by dsimp only at hSw; go_simp⟩) hHeld ?_
                    (try simp only [Act.put, List.getElem_toArray, List.getElem_cons_zero, List.getElem_cons_succ, List.setIfInBounds_toArray, List.set_cons_zero, List.set_cons_succ])
                    refine wpAnyH_take (i := 1) (v := .agg #[.int .i64 (q : Int), .int .i64 0, .int .i64 0, .int .i64 0, .int .i64 0, .int .i64 0, .int .i64 0]) rfl (by kernel_rfl) (by kernel_rfl) (by kernel_rfl) (fun _ _ _ h => h) (Or.inl ⟨by rfl, fun w' hSw => by dsimp only at hSw; go_simp⟩) hHeld ?_
                    (try simp only [Act.put, List.getElem_toArray, List.getElem_cons_zero, List.getElem_cons_succ, List.setIfInBounds_toArray, List.set_cons_zero, List.set_cons_succ])
                    refine wpAnyH_take (i := 2) (v := .agg #[.int .i64 1, .int .i64 (q : Int), .int .i64 0, .int .i64 0, .int .i64 0, .int .i64 0, .int .i64 0, .int .i64 0, .int .i64 0]) rfl (by kernel_rfl) (by kernel_rfl) (by kernel_rfl) (fun _ _ _ h => h) (Or.inl ⟨by rfl, fun w' hSw => by dsimp only at hSw; go_simp⟩) hHeld ?_
                    (try simp only [Act.put, List.getElem_toArray, List.getElem_cons_zero, List.getElem_cons_succ, List.setIfInBounds_toArray, List.set_cons_zero, List.set_cons_succ])
                    refine wpAnyH_take (i := 7) (v := .slice (some ⟨b, o, none⟩) (N + 1) c) rfl (by kernel_rfl) (by kernel_rfl) (by kernel_rfl) (fun _ _ _ h => h) (Or.inl ⟨by rfl, fun w' hSw => by dsimp only at hSw; go_simp⟩) hHeld ?_
                    (try simp only [Act.put, List.getElem_toArray, List.getElem_cons_zero, List.getElem_cons_succ, List.setIfInBounds_toArray, List.set_cons_zero, List.set_cons_succ])
                    refine wpAnyH_take (i := 8) (v := .pointer (some ⟨b, o, none⟩)) rfl (by kernel_rfl) (by kernel_rfl) (by kernel_rfl) (fun _ _ _ h => h) (Or.inl ⟨by rfl, fun w' hSw => by dsimp only at hSw; go_simp⟩) hHeld ?_
                    (try simp only [Act.put, List.getElem_toArray, List.getElem_cons_zero, List.getElem_cons_succ, List.setIfInBounds_toArray, List.set_cons_zero, List.set_cons_succ])
                    refine wpAnyH_take (i := 9) (v := .string (bs w0)) rfl (by kernel_rfl) (by kernel_rfl) (by kernel_rfl) (fun _ _ _ h => h) (Or.inl ⟨by rfl, fun w' hSw => by dsimp only at hSw; go_simp⟩) hHeld ?_
                    (try simp only [Act.put, List.getElem_toArray, List.getElem_cons_zero, List.getElem_cons_succ, List.setIfInBounds_toArray, List.set_cons_zero, List.set_cons_succ])
                    refine wpAnyH_ready (rs := [3]) (by kernel_rfl) (by simp) ?_
                    refine AllReadyH.cons rfl (fun K hK => ?_) AllReadyH.nil
                    (try simp only [List.getElem_toArray, List.getElem_cons_zero, List.getElem_cons_succ])
                    go_simp
                    go_at_call 10
                    refine (HLN.out _).mono ?_
                    rintro e w7 ⟨rfl, hb⟩
                    have hb7 : Below wr.heap.size wr w7 := hbd.trans (hb.mono hbd.size)
                    clear hb
                    refine hK.out _ _ (HSK.out _ hb7) (fun hHeld => ?_)
                    clear hK K
                    (try simp only [Act.put, List.getElem_toArray, List.getElem_cons_zero, List.getElem_cons_succ, List.setIfInBounds_toArray, List.set_cons_zero, List.set_cons_succ])
                    refine wpAnyH_ready (rs := [4]) (by kernel_rfl) (by simp) ?_
                    refine AllReadyH.cons rfl (fun K hK => ?_) AllReadyH.nil
                    (try simp only [List.getElem_toArray, List.getElem_cons_zero, List.getElem_cons_succ])
                    go_simp
                    go_at_call 32
                    refine (HWDS.out _).mono ?_
                    rintro e w8 ⟨A8, c8, rfl, hsg, hb⟩
                    have hb8 : Below wr.heap.size wr w8 := hb7.trans (hb.mono hb7.size)
                    clear hb
                    obtain ⟨b8, o8, rfl, _, hc8⟩ := hsg.at (k := 0) (by rw [strs_len]; simp)
                    have hc9 : w8.cell? ⟨b8, o8, none⟩ = some (.string (bs X)) := hc8
                    clear hsg hc8
                    refine hK.out _ _ (HSK.out _ hb8) (fun hHeld => ?_)
                    clear hK K
                    (try simp only [Act.put, List.getElem_toArray, List.getElem_cons_zero, List.getElem_cons_succ, List.setIfInBounds_toArray, List.set_cons_zero, List.set_cons_succ])
                    refine wpAnyH_take (i := 5) (v := .pointer (some ⟨b8, o8, none⟩)) rfl (by kernel_rfl) (by kernel_rfl) (by kernel_rfl) (fun _ _ _ h => h) (Or.inl ⟨by rfl, fun w' hSw => by dsimp only at hSw; go_simp⟩) hHeld ?_
                    (try simp only [Act.put, List.getElem_toArray, List.getElem_cons_zero, List.getElem_cons_succ, List.setIfInBounds_toArray, List.set_cons_zero, List.set_cons_succ])
                    refine wpAnyH_ready (rs := [6]) (by kernel_rfl) (by simp) ?_
                    refine AllReadyH.cons rfl (fun K hK => ?_) AllReadyH.nil
                    (try simp only [List.getElem_toArray, List.getElem_cons_zero, List.getElem_cons_succ])
                    go_simp
                    refine hK.out _ _ (HSK.out _ hb8) (fun hHeld => ?_)
                    clear hK K
                    (try simp only [Act.put, List.getElem_toArray, List.getElem_cons_zero, List.getElem_cons_succ, List.setIfInBounds_toArray, List.set_cons_zero, List.set_cons_succ])
                    refine wpAnyH_take (i := 10) (v := .bool true) rfl (by kernel_rfl) (by kernel_rfl) (by kernel_rfl) (fun _ _ _ h => h) (Or.inl ⟨by rfl, fun w' hSw => by dsimp only at hSw; go_simp⟩) hHeld ?_
                    (try simp only [Act.put, List.getElem_toArray, List.getElem_cons_zero, List.getElem_cons_succ, List.setIfInBounds_toArray, List.set_cons_zero, List.set_cons_succ])
                    refine wpAnyH_take (i := 11) (v := .bool true) rfl (by kernel_rfl) (by kernel_rfl) (by kernel_rfl) (fun _ _ _ h => h) (Or.inl ⟨by rfl, fun w' hSw => by dsimp only at hSw; go_simp⟩) hHeld ?_
                    (try simp only [Act.put, List.getElem_toArray, List.getElem_cons_zero, List.getElem_cons_succ, List.setIfInBounds_toArray, List.set_cons_zero, List.set_cons_succ])
                    refine wpAnyH_take (i := 12) (v := .int .i64 (q : Int)) rfl (by kernel_rfl) (by kernel_rfl) (by kernel_rfl) (fun _ _ _ h => h) (Or.inl ⟨by rfl, fun w' hSw => by dsimp only at hSw; go_simp⟩) hHeld ?_
                    (try simp only [Act.put, List.getElem_toArray, List.getElem_cons_zero, List.getElem_cons_succ, List.setIfInBounds_toArray, List.set_cons_zero, List.set_cons_succ])
                    refine wpAnyH_take (i := 15) (v := .slice Au N cu) rfl (by kernel_rfl) (by kernel_rfl) (by kernel_rfl) (fun _ _ _ h => h) (Or.inl ⟨by rfl, fun w' hSw => by dsimp only at hSw; go_simp⟩) hHeld ?_
                    (try simp only [Act.put, List.getElem_toArray, List.getElem_cons_zero, List.getElem_cons_succ, List.setIfInBounds_toArray, List.set_cons_zero, List.set_cons_succ])
                    refine wpAnyH_take (i := 16) (v := .int .i64 (N : Int)) rfl (by kernel_rfl) (by kernel_rfl) (by kernel_rfl) (fun _ _ _ h => h) (Or.inl ⟨by rfl, fun w' hSw => by dsimp only at hSw; go_simp⟩) hHeld ?_
                    (try simp only [Act.put, List.getElem_toArray, List.getElem_cons_zero, List.getElem_cons_succ, List.setIfInBounds_toArray, List.set_cons_zero, List.set_cons_succ])
                    refine wpAnyH_ready (rs := [13]) (by kernel_rfl) (by simp) ?_
                    refine AllReadyH.cons rfl (fun K hK => ?_) AllReadyH.nil
                    (try simp only [List.getElem_toArray, List.getElem_cons_zero, List.getElem_cons_succ])
                    go_simp
                    go_at_call 31
                    refine (HHA.out _).mono ?_
                    rintro e w9 ⟨rfl, hb⟩
                    have hb9 : Below wr.heap.size wr w9 := hb8.trans (hb.mono hb8.size)
                    clear hb
                    refine hK.out _ _ (HSK.out _ hb9) (fun hHeld => ?_)
                    clear hK K
                    (try simp only [Act.put, List.getElem_toArray, List.getElem_cons_zero, List.getElem_cons_succ, List.setIfInBounds_toArray, List.set_cons_zero, List.set_cons_succ])
                    refine wpAnyH_take (i := 14) (v := .int .i64 (L.length : Int)) rfl (by kernel_rfl) (by kernel_rfl) (by kernel_rfl) (fun _ _ _ h => h) (Or.inl ⟨by rfl, fun w' hSw => by dsimp only at hSw; go_simp⟩) hHeld ?_
                    (try simp only [Act.put, List.getElem_toArray, List.getElem_cons_zero, List.getElem_cons_succ, List.setIfInBounds_toArray, List.set_cons_zero, List.set_cons_succ])
                    refine wpAnyH_take (i := 17) (v := .bool false) rfl (by kernel_rfl) (by kernel_rfl) (by kernel_rfl) (fun _ _ _ h => h) (Or.inl ⟨by rfl, fun w' hSw => by dsimp only at hSw; go_simp⟩) hHeld ?_
                    (try simp only [Act.put, List.getElem_toArray, List.getElem_cons_zero, List.getElem_cons_succ, List.setIfInBounds_toArray, List.set_cons_zero, List.set_cons_succ])
                    refine wpAnyH_take (i := 18) (v := .bool false) rfl (by kernel_rfl) (by kernel_rfl) (by kernel_rfl) (fun _ _ _ h => h) (Or.inl ⟨by rfl, fun w' hSw => by dsimp only at hSw; go_simp⟩) hHeld ?_
                    (try simp only [Act.put, List.getElem_toArray, List.getElem_cons_zero, List.getElem_cons_succ, List.setIfInBounds_toArray, List.set_cons_zero, List.set_cons_succ])
                    refine wpAnyH_done (by kernel_rfl) ?_ _
                    have HB9 : Hid (Below wa.heap.size wa w9) := Lib.hid (HBQ.out.trans (hb9.mono HBQ.out.size))
                    have HNO2 : Hid (∀ k, 1 ≤ k → k < q + 1 → ¬ (wordL k = w0 ∧ (jsOf (k : Int)).length = N)) := Lib.hid (fun k h1 h2 => by
                      by_cases hkq : k = q
                      · subst hkq
                        exact fun h => hn h.2
                      · exact HNO.out k h1 (by omega))
                    go_wp2_with fail
                    go_roundw
                    case rel => exact ⟨q + 1, by omega, by omega, by go_num, HNO2, HB9⟩
                    case measure => simp [intOf]; omega
                · have hwb : (X == w0) = false := by rw [hX]; simpa using hw
                  clear hX hsj
                  go_upto_region 20 with fail
                  refine wp_region_held_drew (S := fun W => W.cell? ⟨b, o, none⟩ = some (.string (bs w0))) (by kernel_rfl) (HSK.out _ hbd) (fun hHeld => ?_)
                  refine wpAnyH_take (i := 0) (v := .int .i64 (q : Int)) rfl (by kernel_rfl) (by kernel_rfl) (by kernel_rfl) (fun _ _ _ h => h) (Or.inl ⟨by rfl, fun w' hSw => by dsimp only at hSw; go_simp⟩) hHeld ?_
                  (try simp only [Act.put, List.getElem_toArray, List.getElem_cons_zero, List.getElem_cons_succ, List.setIfInBounds_toArray, List.set_cons_zero, List.set_cons_succ])
                  refine wpAnyH_take (i := 1) (v := .agg #[.int .i64 (q : Int), .int .i64 0, .int .i64 0, .int .i64 0, .int .i64 0, .int .i64 0, .int .i64 0]) rfl (by kernel_rfl) (by kernel_rfl) (by kernel_rfl) (fun _ _ _ h => h) (Or.inl ⟨by rfl, fun w' hSw => by dsimp only at hSw; go_simp⟩) hHeld ?_
                  (try simp only [Act.put, List.getElem_toArray, List.getElem_cons_zero, List.getElem_cons_succ, List.setIfInBounds_toArray, List.set_cons_zero, List.set_cons_succ])
                  refine wpAnyH_take (i := 2) (v := .agg #[.int .i64 1, .int .i64 (q : Int), .int .i64 0, .int .i64 0, .int .i64 0, .int .i64 0, .int .i64 0, .int .i64 0, .int .i64 0]) rfl (by kernel_rfl) (by kernel_rfl) (by kernel_rfl) (fun _ _ _ h => h) (Or.inl ⟨by rfl, fun w' hSw => by dsimp only at hSw; go_simp⟩) hHeld ?_
                  (try simp only [Act.put, List.getElem_toArray, List.getElem_cons_zero, List.getElem_cons_succ, List.setIfInBounds_toArray, List.set_cons_zero, List.set_cons_succ])
                  refine wpAnyH_take (i := 7) (v := .slice (some ⟨b, o, none⟩) (N + 1) c) rfl (by kernel_rfl) (by kernel_rfl) (by kernel_rfl) (fun _ _ _ h => h) (Or.inl ⟨by rfl, fun w' hSw => by dsimp only at hSw; go_simp⟩) hHeld ?_
                  (try simp only [Act.put, List.getElem_toArray, List.getElem_cons_zero, List.getElem_cons_succ, List.setIfInBounds_toArray, List.set_cons_zero, List.set_cons_succ])
                  refine wpAnyH_take (i := 8) (v := .pointer (some ⟨b, o, none⟩)) rfl (by kernel_rfl) (by kernel_rfl) (by kernel_rfl) (fun _ _ _ h => h) (Or.inl ⟨by rfl, fun w' hSw => by dsimp only at hSw; go_simp⟩) hHeld ?_
                  (try simp only [Act.put, List.getElem_toArray, List.getElem_cons_zero, List.getElem_cons_succ, List.setIfInBounds_toArray, List.set_cons_zero, List.set_cons_succ])
                  refine wpAnyH_take (i := 9) (v := .string (bs w0)) rfl (by kernel_rfl) (by kernel_rfl) (by kernel_rfl) (fun _ _ _ h => h) (Or.inl ⟨by rfl, fun w' hSw => by dsimp only at hSw; go_simp⟩) hHeld ?_
                  (try simp only [Act.put, List.getElem_toArray, List.getElem_cons_zero, List.getElem_cons_succ, List.setIfInBounds_toArray, List.set_cons_zero, List.set_cons_succ])
                  refine wpAnyH_ready (rs := [3]) (by kernel_rfl) (by simp) ?_
                  refine AllReadyH.cons rfl (fun K hK => ?_) AllReadyH.nil
                  (try simp only [List.getElem_toArray, List.getElem_cons_zero, List.getElem_cons_succ])
                  go_simp
                  go_at_call 10
                  refine (HLN.out _).mono ?_
                  rintro e w7 ⟨rfl, hb⟩
                  have hb7 : Below wr.heap.size wr w7 := hbd.trans (hb.mono hbd.size)
                  clear hb
                  refine hK.out _ _ (HSK.out _ hb7) (fun hHeld => ?_)
                  clear hK K
                  (try simp only [Act.put, List.getElem_toArray, List.getElem_cons_zero, List.getElem_cons_succ, List.setIfInBounds_toArray, List.set_cons_zero, List.set_cons_succ])
                  refine wpAnyH_ready (rs := [4]) (by kernel_rfl) (by simp) ?_
                  refine AllReadyH.cons rfl (fun K hK => ?_) AllReadyH.nil
                  (try simp only [List.getElem_toArray, List.getElem_cons_zero, List.getElem_cons_succ])
                  go_simp
                  go_at_call 32
                  refine (HWDS.out _).mono ?_
                  rintro e w8 ⟨A8, c8, rfl, hsg, hb⟩
                  have hb8 : Below wr.heap.size wr w8 := hb7.trans (hb.mono hb7.size)
                  clear hb
                  obtain ⟨b8, o8, rfl, _, hc8⟩ := hsg.at (k := 0) (by rw [strs_len]; simp)
                  have hc9 : w8.cell? ⟨b8, o8, none⟩ = some (.string (bs X)) := hc8
                  clear hsg hc8
                  refine hK.out _ _ (HSK.out _ hb8) (fun hHeld => ?_)
                  clear hK K
                  (try simp only [Act.put, List.getElem_toArray, List.getElem_cons_zero, List.getElem_cons_succ, List.setIfInBounds_toArray, List.set_cons_zero, List.set_cons_succ])
                  refine wpAnyH_take (i := 5) (v := .pointer (some ⟨b8, o8, none⟩)) rfl (by kernel_rfl) (by kernel_rfl) (by kernel_rfl) (fun _ _ _ h => h) (Or.inl ⟨by rfl, fun w' hSw => by dsimp only at hSw; go_simp⟩) hHeld ?_
                  (try simp only [Act.put, List.getElem_toArray, List.getElem_cons_zero, List.getElem_cons_succ, List.setIfInBounds_toArray, List.set_cons_zero, List.set_cons_succ])
                  refine wpAnyH_ready (rs := [6]) (by kernel_rfl) (by simp) ?_
                  refine AllReadyH.cons rfl (fun K hK => ?_) AllReadyH.nil
                  (try simp only [List.getElem_toArray, List.getElem_cons_zero, List.getElem_cons_succ])
                  go_simp
                  refine hK.out _ _ (HSK.out _ hb8) (fun hHeld => ?_)
                  clear hK K
                  (try simp only [Act.put, List.getElem_toArray, List.getElem_cons_zero, List.getElem_cons_succ, List.setIfInBounds_toArray, List.set_cons_zero, List.set_cons_succ])
                  refine wpAnyH_take (i := 10) (v := .bool false) rfl (by kernel_rfl) (by kernel_rfl) (by kernel_rfl) (fun _ _ _ h => h) (Or.inl ⟨by rfl, fun w' hSw => by dsimp only at hSw; go_simp⟩) hHeld ?_
                  (try simp only [Act.put, List.getElem_toArray, List.getElem_cons_zero, List.getElem_cons_succ, List.setIfInBounds_toArray, List.set_cons_zero, List.set_cons_succ])
                  refine wpAnyH_take (i := 11) (v := .bool false) rfl (by kernel_rfl) (by kernel_rfl) (by kernel_rfl) (fun _ _ _ h => h) (Or.inl ⟨by rfl, fun w' hSw => by dsimp only at hSw; go_simp⟩) hHeld ?_
                  (try simp only [Act.put, List.getElem_toArray, List.getElem_cons_zero, List.getElem_cons_succ, List.setIfInBounds_toArray, List.set_cons_zero, List.set_cons_succ])
                  refine wpAnyH_take (i := 12) (v := undef) rfl (by kernel_rfl) (by kernel_rfl) (by kernel_rfl) (fun _ _ _ h => h) (Or.inr ⟨by rfl, rfl⟩) hHeld ?_
                  (try simp only [Act.put, List.getElem_toArray, List.getElem_cons_zero, List.getElem_cons_succ, List.setIfInBounds_toArray, List.set_cons_zero, List.set_cons_succ])
                  refine wpAnyH_take (i := 13) (v := undef) rfl (by kernel_rfl) (by kernel_rfl) (by kernel_rfl) (fun _ _ _ h => h) (Or.inr ⟨by rfl, rfl⟩) hHeld ?_
                  (try simp only [Act.put, List.getElem_toArray, List.getElem_cons_zero, List.getElem_cons_succ, List.setIfInBounds_toArray, List.set_cons_zero, List.set_cons_succ])
                  refine wpAnyH_take (i := 14) (v := undef) rfl (by kernel_rfl) (by kernel_rfl) (by kernel_rfl) (fun _ _ _ h => h) (Or.inr ⟨by rfl, rfl⟩) hHeld ?_
                  (try simp only [Act.put, List.getElem_toArray, List.getElem_cons_zero, List.getElem_cons_succ, List.setIfInBounds_toArray, List.set_cons_zero, List.set_cons_succ])
                  refine wpAnyH_take (i := 15) (v := undef) rfl (by kernel_rfl) (by kernel_rfl) (by kernel_rfl) (fun _ _ _ h => h) (Or.inr ⟨by rfl, rfl⟩) hHeld ?_
                  (try simp only [Act.put, List.getElem_toArray, List.getElem_cons_zero, List.getElem_cons_succ, List.setIfInBounds_toArray, List.set_cons_zero, List.set_cons_succ])
                  refine wpAnyH_take (i := 16) (v := undef) rfl (by kernel_rfl) (by kernel_rfl) (by kernel_rfl) (fun _ _ _ h => h) (Or.inr ⟨by rfl, rfl⟩) hHeld ?_
                  (try simp only [Act.put, List.getElem_toArray, List.getElem_cons_zero, List.getElem_cons_succ, List.setIfInBounds_toArray, List.set_cons_zero, List.set_cons_succ])
                  refine wpAnyH_take (i := 17) (v := undef) rfl (by kernel_rfl) (by kernel_rfl) (by kernel_rfl) (fun _ _ _ h => h) (Or.inr ⟨by rfl, rfl⟩) hHeld ?_
                  (try simp only [Act.put, List.getElem_toArray, List.getElem_cons_zero, List.getElem_cons_succ, List.setIfInBounds_toArray, List.set_cons_zero, List.set_cons_succ])
                  refine wpAnyH_take (i := 18) (v := .bool false) rfl (by kernel_rfl) (by kernel_rfl) (by kernel_rfl) (fun _ _ _ h => h) (Or.inl ⟨by rfl, fun w' hSw => by dsimp only at hSw; go_simp⟩) hHeld ?_
                  (try simp only [Act.put, List.getElem_toArray, List.getElem_cons_zero, List.getElem_cons_succ, List.setIfInBounds_toArray, List.set_cons_zero, List.set_cons_succ])
                  refine wpAnyH_done (by kernel_rfl) ?_ _
                  have HB9 : Hid (Below wa.heap.size wa w8) := Lib.hid (HBQ.out.trans (hb8.mono HBQ.out.size))
                  have HNO2 : Hid (∀ k, 1 ≤ k → k < q + 1 → ¬ (wordL k = w0 ∧ (jsOf (k : Int)).length = N)) := Lib.hid (fun k h1 h2 => by
                    by_cases hkq : k = q
                    · subst hkq
                      exact fun h => hw h.1
                    · exact HNO.out k h1 (by omega))
                  go_wp2_with fail
                  go_roundw
                  case rel => exact ⟨q + 1, by omega, by omega, by go_num, HNO2, HB9⟩
                  case measure => simp [intOf]; omega
              · obtain rfl : q = 11 := by omega
                have HT2 : Hid (T = (zeroS, false)) := Lib.hid (by rw [HT3.out, if_neg (noKind HNO.out)])
                have HZ9 : Hid (CsAt wr w.heap.size (stCells zeroS)) := Lib.hid (HZW.out.below (by omega) HBQ.out)
                have HB9 : Hid (Below w.heap.size w wr) := Lib.hid (HBWW.out.trans (HBQ.out.mono HBWW.out.size))
                have z0 : wr.cell? ⟨w.heap.size, 0, none⟩ = some (.int .i64 0) := HZ9.out.cell 0
                have z1 : wr.cell? ⟨w.heap.size, 1, none⟩ = some (.int .i64 0) := HZ9.out.cell 1
                have z2 : wr.cell? ⟨w.heap.size, 2, none⟩ = some (.int .i64 0) := HZ9.out.cell 2
                have z3 : wr.cell? ⟨w.heap.size, 3, none⟩ = some (.int .i64 0) := HZ9.out.cell 3
                have z4 : wr.cell? ⟨w.heap.size, 4, none⟩ = some (.int .i64 0) := HZ9.out.cell 4
                have z5 : wr.cell? ⟨w.heap.size, 5, none⟩ = some (.int .i64 0) := HZ9.out.cell 5
                have z6 : wr.cell? ⟨w.heap.size, 6, none⟩ = some (.int .i64 0) := HZ9.out.cell 6
                have z7 : wr.cell? ⟨w.heap.size, 7, none⟩ = some (.int .i64 0) := HZ9.out.cell 7
                have z8 : wr.cell? ⟨w.heap.size, 8, none⟩ = some (.int .i64 0) := HZ9.out.cell 8
                have zf := HZ9.out.fz
                go_wp2_with fail
                obtain ⟨hov, hgv⟩ := HZ9.out.over zeroS
                obtain ⟨W5, hW5⟩ : ∃ W5, W5 = (World.setCell (World.setCell (World.setCell (World.setCell (World.setCell (World.setCell (World.setCell (World.setCell (World.setCell wr ⟨w.heap.size, 0, none⟩ (.int .i64 0)) ⟨w.heap.size, 1, none⟩ (.int .i64 0)) ⟨w.heap.size, 2, none⟩ (.int .i64 0)) ⟨w.heap.size, 3, none⟩ (.int .i64 0)) ⟨w.heap.size, 4, none⟩ (.int .i64 0)) ⟨w.heap.size, 5, none⟩ (.int .i64 0)) ⟨w.heap.size, 6, none⟩ (.int .i64 0)) ⟨w.heap.size, 7, none⟩ (.int .i64 0)) ⟨w.heap.size, 8, none⟩ (.int .i64 0)) := ⟨_, rfl⟩
                have HOV : Hid (CsAt W5 w.heap.size (stCells zeroS)) := Lib.hid (by rw [hW5]; exact hov)
                have HGV : Hid (wr.grownBy W5 (some w.heap.size)) := Lib.hid (by rw [hW5]; exact hgv)
                rw [← hW5]
                clear hov hgv hW5
                have y0 : W5.cell? ⟨w.heap.size, 0, none⟩ = some (.int .i64 0) := HOV.out.cell 0
                have y1 : W5.cell? ⟨w.heap.size, 1, none⟩ = some (.int .i64 0) := HOV.out.cell 1
                have y2 : W5.cell? ⟨w.heap.size, 2, none⟩ = some (.int .i64 0) := HOV.out.cell 2
                have y3 : W5.cell? ⟨w.heap.size, 3, none⟩ = some (.int .i64 0) := HOV.out.cell 3
                have y4 : W5.cell? ⟨w.heap.size, 4, none⟩ = some (.int .i64 0) := HOV.out.cell 4
                have y5 : W5.cell? ⟨w.heap.size, 5, none⟩ = some (.int .i64 0) := HOV.out.cell 5
                have y6 : W5.cell? ⟨w.heap.size, 6, none⟩ = some (.int .i64 0) := HOV.out.cell 6
                have y7 : W5.cell? ⟨w.heap.size, 7, none⟩ = some (.int .i64 0) := HOV.out.cell 7
                have y8 : W5.cell? ⟨w.heap.size, 8, none⟩ = some (.int .i64 0) := HOV.out.cell 8
                refine bodyPost_ret (v := .tuple #[.agg #[.int .i64 0, .int .i64 0, .int .i64 0, .int .i64 0, .int .i64 0, .int .i64 0, .int .i64 0, .int .i64 0, .int .i64 0], .bool false]) (by simp [results, Tryz.results11, go_sem, y0, y1, y2, y3, y4, y5, y6, y7, y8]) rfl ?_
                rw [HT2.out]
                exact ⟨rfl, below_byS HB9.out HGV.out⟩
end Go.Proofs.YtmplokdbbhlomaaGreatDoor
