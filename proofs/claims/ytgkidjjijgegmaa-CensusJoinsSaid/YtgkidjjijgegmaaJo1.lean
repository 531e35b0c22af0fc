/-
  What census.Join of two censuses of events comes to, given the sort's contract: a contract for callers. (Printed by gen_jo1.py.)
-/
import Derived.Test.YtgkidjjijgegmaaJoB
import Derived.Test.YtgkidjjijgegmaaCW5
import Derived.Test.YtgkidjjijgegmaaCCon
import Derived.Test.YtgkidjjijgegmaaCSame
import Derived.Test.YtgkidjjijgegmaaRegLast
import Derived.Deep.AppendLies
namespace Go.Proofs.Ytgkidjjijgegmaa
open Go.RowKit Go.Maps

theorem int_infoJ : (Try.prog.info? 3).map (fun i => (i.zero, i.size, i.bytes)) = some (some (.int .i64 0), 1, 8) := by kernel_rfl
theorem grown_noneJ {w W : World} (h : Below w.heap.size w W) (r : Option Nat) : w.grownBy W r := ⟨h.os, h.tape, h.output, h.size, fun k hk _ => h.block k hk⟩
theorem idx5_0 (t0 t1 t2 t3 t4 : Int) : ∀ w : World, (Instr.index 35 (.agg #[.int .i64 t0, .int .i64 t1, .int .i64 t2, .int .i64 t3, .int .i64 t4]) (.int .i64 0)).run Try.prog w = .ok (.int .i64 t0) w := fun _ => by kernel_rfl
theorem idx5_1 (t0 t1 t2 t3 t4 : Int) : ∀ w : World, (Instr.index 35 (.agg #[.int .i64 t0, .int .i64 t1, .int .i64 t2, .int .i64 t3, .int .i64 t4]) (.int .i64 1)).run Try.prog w = .ok (.int .i64 t1) w := fun _ => by kernel_rfl
theorem idx5_2 (t0 t1 t2 t3 t4 : Int) : ∀ w : World, (Instr.index 35 (.agg #[.int .i64 t0, .int .i64 t1, .int .i64 t2, .int .i64 t3, .int .i64 t4]) (.int .i64 2)).run Try.prog w = .ok (.int .i64 t2) w := fun _ => by kernel_rfl
theorem idx5_3 (t0 t1 t2 t3 t4 : Int) : ∀ w : World, (Instr.index 35 (.agg #[.int .i64 t0, .int .i64 t1, .int .i64 t2, .int .i64 t3, .int .i64 t4]) (.int .i64 3)).run Try.prog w = .ok (.int .i64 t3) w := fun _ => by kernel_rfl
theorem idx5_4 (t0 t1 t2 t3 t4 : Int) : ∀ w : World, (Instr.index 35 (.agg #[.int .i64 t0, .int .i64 t1, .int .i64 t2, .int .i64 t3, .int .i64 t4]) (.int .i64 4)).run Try.prog w = .ok (.int .i64 t4) w := fun _ => by kernel_rfl
theorem fiveJ_at {cf : Int × Int → Nat → Value} {q : Int × Int} {a b c d e : Value} (s0 : cf q 0 = a) (s1 : cf q 1 = b) (s2 : cf q 2 = c) (s3 : cf q 3 = d) (s4 : cf q 4 = e) : ∀ j, j < 5 → (#[a, b, c, d, e] : Array Value)[j]? = some (cf q j) := by
  intro j hj
  obtain rfl | rfl | rfl | rfl | rfl : j = 0 ∨ j = 1 ∨ j = 2 ∨ j = 3 ∨ j = 4 := by omega
  · rw [s0]; rfl
  · rw [s1]; rfl
  · rw [s2]; rfl
  · rw [s3]; rfl
  · rw [s4]; rfl
theorem jnI_made (w : World) (ca cb : Array Value) (oc : Int) (t : TypeId) :
    JnI w ca cb oc (.slice none 0 0) [] ((((w.alloc (.cells ca t)).alloc (.cells cb t)).alloc (.cells #[.slice none 0 0, .int .i64 0, .slice none 0 0] t)).alloc (.cells #[.slice none 0 0, .int .i64 oc, .slice none 0 0] t)) := by
  refine ⟨((((Below.refl _ _).alloc (Nat.le_refl _) _).alloc (by simp) _).alloc (by simp; omega) _).alloc (by simp; omega) _, by simp, fun j => ?_, fun j => ?_, ?_, ?_, ?_, fun j => by go_simp, ?_, ?_, ?_, fun j => by go_simp, World.ownsRow_nil _ _ _ _⟩
  · rw [cell_old _ _ _ (by simp <;> omega), cell_old _ _ _ (by simp <;> omega), cell_old _ _ _ (by simp), cell_new _ _ _ _ rfl]
  · rw [cell_old _ _ _ (by simp <;> omega), cell_old _ _ _ (by simp), cell_new _ _ _ _ (by simp)]
  · rw [cell_old _ _ _ (by simp), cell_new _ _ _ _ (by simp)]; rfl
  · rw [cell_old _ _ _ (by simp), cell_new _ _ _ _ (by simp)]; rfl
  · rw [cell_old _ _ _ (by simp), cell_new _ _ _ _ (by simp)]; rfl
  · rw [cell_new _ _ _ _ (by simp)]; rfl
  · rw [cell_new _ _ _ _ (by simp)]; rfl
  · rw [cell_new _ _ _ _ (by simp)]; rfl
set_option maxRecDepth 100000 in
set_option maxHeartbeats 16000000 in
theorem join_pre (HSORT : SortC) (KA KB TA TB : Option Addr) (kc kd ta tb : Nat) (oa ob : Int) (Ka Kb : List Int) (Ta Tb : List Tl) (w : World)
    (hka : Seg w w.heap.size KA (Ka.map (Value.int .i64))) (hkb : Seg w w.heap.size KB (Kb.map (Value.int .i64))) (h20a : Ka.length = 20) (h20b : Kb.length = 20) (hba : ∀ x ∈ Ka, 0 ≤ x ∧ x ≤ 100000) (hbb : ∀ x ∈ Kb, 0 ≤ x ∧ x ≤ 100000) (hoa : 0 ≤ oa ∧ oa ≤ 100000) (hob : 0 ≤ ob ∧ ob ≤ 100000)
    (hta : TlSrc w TA ta Ta) (htb : TlSrc w TB tb Tb) (hla : Ta.length ≤ 100000) (hlb : Tb.length ≤ 100000) (hT : ∀ t ∈ Ta ++ Tb, DomS t.q ∧ ∀ j, j < 5 → I64 (t.row[j]?.getD 0)) :
    Calls Try.prog 18 #[.agg #[.slice KA 20 kc, .int .i64 oa, .slice TA Ta.length ta], .agg #[.slice KB 20 kd, .int .i64 ob, .slice TB Tb.length tb]] w fun e w' => Below w.heap.size w w' ∧ ∃ v err K o T, e = .returned (.tuple #[v, .int .i64 err]) ∧ CnAt w' v K o T ∧
      (((∃ q, okR (fun j => sumI (tc (Ta ++ Tb) q j)) = false) ∧ K = [] ∧ o = 0 ∧ T = [] ∧ err = 2) ∨ ((∀ q, okR (fun j => sumI (tc (Ta ++ Tb) q j)) = true) ∧ K = addK Ka Kb ∧ o = oa + ob ∧ TalF (fun q j => sumI (tc (Ta ++ Tb) q j)) T ∧ err = 0)) := by
  have HKA := Lib.hid hka
  have HKB := Lib.hid hkb
  have HBA := Lib.hid hba
  have HBB := Lib.hid hbb
  have HTA := Lib.hid hta
  have HTB := Lib.hid htb
  have HT := Lib.hid hT
  have HSO : Hid SortC := Lib.hid HSORT
  have HKL : Hid (Ka.length = 20 ∧ Kb.length = 20) := Lib.hid ⟨h20a, h20b⟩
  have hwo : IntKind.i64.wrap (oa + ob) = oa + ob := IntWalk.i64_in _ (by omega)
  have HJ0 : Hid (JnI w #[.slice KA 20 kc, .int .i64 oa, .slice TA Ta.length ta] #[.slice KB 20 kd, .int .i64 ob, .slice TB Tb.length tb] (oa + ob) (.slice none 0 0) [] ((((w.alloc (.cells #[.slice KA 20 kc, .int .i64 oa, .slice TA Ta.length ta] 27)).alloc (.cells #[.slice KB 20 kd, .int .i64 ob, .slice TB Tb.length tb] 27)).alloc (.cells #[.slice none 0 0, .int .i64 0, .slice none 0 0] 27)).alloc (.cells #[.slice none 0 0, .int .i64 (oa + ob), .slice none 0 0] 27))) := Lib.hid (jnI_made w _ _ _ _)
  clear hka hkb hba hbb hta htb hT HSORT h20a h20b
  have hmm := @run_makeMap Try.prog
  go_enter Try.func18, Try.ntmps18
  go_wp2_with fail
  generalize (((w.alloc (.cells #[.slice KA 20 kc, .int .i64 oa, .slice TA Ta.length ta] 27)).alloc (.cells #[.slice KB 20 kd, .int .i64 ob, .slice TB Tb.length tb] 27)).alloc (.cells #[.slice none 0 0, .int .i64 0, .slice none 0 0] 27)).alloc (.cells #[.slice none 0 0, .int .i64 (oa + ob), .slice none 0 0] 27) = w1 at *
  go_loopw [7, 8, 38] (fun _ _ i wr => ∃ k : Nat, k ≤ 20 ∧ i = .int .i64 k ∧ Hid (∃ v, JnI w #[.slice KA 20 kc, .int .i64 oa, .slice TA Ta.length ta] #[.slice KB 20 kd, .int .i64 ob, .slice TB Tb.length tb] (oa + ob) v ((addK Ka Kb).take k) wr)) (fun _ _ i _ => 20 - (intOf i).toNat)
  case atStart => exact ⟨0, by omega, rfl, _, HJ0.out⟩
  case round =>
    clear HJ0
    obtain ⟨k, hk, rfl, HM⟩ := hrel
    obtain ⟨v, hj⟩ := HM.out
    have HJ := Lib.hid hj
    have hsz := hj.sz
    clear HM hj
    by_cases hlt : k < 20
    · have hkx : k < Ka.length := by have := HKL.out.1; omega
      have hky : k < Kb.length := by have := HKL.out.2; omega
      obtain ⟨bK, oK, rfl, hbK, e0⟩ := seg_int (HKA.out.below HJ.out.b) (k := k) hkx
      obtain ⟨bL, oL, rfl, hbL, e1⟩ := seg_int (HKB.out.below HJ.out.b) (k := k) hky
      have hx := HBA.out Ka[k] (List.getElem_mem _)
      have hy := HBB.out Kb[k] (List.getElem_mem _)
      have HAS := Lib.hid (addK_snoc (Ka := Ka) (Kb := Kb) (k := k) hkx hky)
      generalize Ka[k] = x at *
      generalize Kb[k] = y at *
      obtain ⟨zs, HZS⟩ : ∃ zs, Hid (zs = (addK Ka Kb).take k) := ⟨_, Lib.hid rfl⟩
      rw [← HZS.out] at HJ HAS
      have hzl : zs.length ≤ 20 := by rw [HZS.out, List.length_take]; omega
      have hwx : IntKind.i64.wrap (x + y) = x + y := IntWalk.i64_in _ (by omega)
      have a0 : wr.cell? ⟨w.heap.size, 0, none⟩ = some (.slice (some ⟨bK, oK, none⟩) 20 kc) := HJ.out.a 0
      have a1 : wr.cell? ⟨w.heap.size + 1, 0, none⟩ = some (.slice (some ⟨bL, oL, none⟩) 20 kd) := HJ.out.bb 0
      have hk20 : (k : Int) < 20 := by omega
      have hk0 : (0 : Int) ≤ (k : Int) := by omega
      obtain ⟨Av, cv, rfl⟩ := own_form HJ.out.own
      have c0 := HJ.out.c0
      have cf := HJ.out.cf 0
      go_wp2_with fail
      clear e0 a0
      have HJ2 : Hid (JnI w #[.slice (some ⟨bK, oK, none⟩) 20 kc, .int .i64 oa, .slice TA Ta.length ta] #[.slice (some ⟨bL, oL, none⟩) 20 kd, .int .i64 ob, .slice TB Tb.length tb] (oa + ob) (.slice Av zs.length cv) zs wr.drew) := Lib.hid (HJ.out.below (Below.refl _ _).drew)
      obtain ⟨r, hr⟩ : ∃ r, r = (Value.slice Av zs.length cv).ownBlock := ⟨_, rfl⟩
      have HR := Lib.hid hr
      have hnr : ∀ g, r = some g → w.heap.size + 4 ≤ g ∧ g < wr.drew.heap.size := fun g e => HJ2.out.own.lt g (by rw [← hr]; exact e)
      have HNR := Lib.hid hnr
      have d0 : wr.drew.cell? ⟨w.heap.size + 3, 0, none⟩ = some (.slice Av zs.length cv) := HJ2.out.c0
      have d1 : wr.drew.cell? ⟨w.heap.size + 1, 0, none⟩ = some (.slice (some ⟨bL, oL, none⟩) 20 kd) := HJ2.out.bb 0
      have d2 : wr.drew.cell? ⟨bL, oL + k, none⟩ = some (.int .i64 y) := e1
      have hsz2 : w.heap.size + 4 ≤ wr.drew.heap.size := hsz
      clear hr hnr HJ c0 cf a1 e1
      obtain ⟨i0, hi0, hz0', hz1', hz2'⟩ := info_parts int_infoJ
      refine wp_region_last (S := fun W => W.cell? ⟨w.heap.size + 3, 0, none⟩ = some (.slice Av zs.length cv) ∧ W.cell? ⟨w.heap.size + 1, 0, none⟩ = some (.slice (some ⟨bL, oL, none⟩) 20 kd) ∧ W.cell? ⟨bL, oL + k, none⟩ = some (.int .i64 y)) 12 (by kernel_rfl) ⟨d0, d1, d2⟩ (fun hHeld => ?_)
      have HSK : Hid (∀ W, wr.drew.grownBy W r → W.cell? ⟨w.heap.size + 3, 0, none⟩ = some (.slice Av zs.length cv) ∧ W.cell? ⟨w.heap.size + 1, 0, none⟩ = some (.slice (some ⟨bL, oL, none⟩) 20 kd) ∧ W.cell? ⟨bL, oL + k, none⟩ = some (.int .i64 y)) := Lib.hid fun W hg => ⟨(hg.cell_far ⟨w.heap.size + 3, 0, none⟩ (by show w.heap.size + 3 < _; omega) (fun e => by have := (HNR.out _ e.symm).1; simp only at this; omega)).trans d0, (hg.cell_far ⟨w.heap.size + 1, 0, none⟩ (by show w.heap.size + 1 < _; omega) (fun e => by have := (HNR.out _ e.symm).1; simp only at this; omega)).trans d1, (hg.cell_far ⟨bL, oL + k, none⟩ (by show bL < _; omega) (fun e => by have := (HNR.out _ e.symm).1; simp only at this; omega)).trans d2⟩
      have HSF : Hid (∀ W, wr.drew.grownBy W r → W.frozen? ⟨w.heap.size + 3, 0, none⟩ = false) := Lib.hid fun W hg => (hg.frozen_far ⟨w.heap.size + 3, 0, none⟩ (by show w.heap.size + 3 < _; omega) (fun e => by have := (HNR.out _ e.symm).1; simp only at this; omega)).trans (HJ2.out.cf 0)
      generalize wr.drew = w2 at *
      have HO2 := Lib.hid HJ2.out.own
      clear d0 d1 d2
      refine wpAnyL_take (i := 0) (v := .pointer (some ⟨w.heap.size + 3, 0, none⟩)) rfl (by kernel_rfl) (by kernel_rfl) (by kernel_rfl) (by kernel_rfl) (by kernel_rfl) (fun _ _ _ h => h) (Or.inl ⟨by rfl, fun w' hSw => by obtain ⟨s1, s2, s3⟩ := hSw; go_simp⟩) hHeld ?_
      refine wpAnyL_take (i := 1) (v := .slice Av zs.length cv) rfl (by kernel_rfl) (by kernel_rfl) (by kernel_rfl) (by kernel_rfl) (by kernel_rfl) (fun _ _ _ h => h) (Or.inl ⟨by rfl, fun w' hSw => by obtain ⟨s1, s2, s3⟩ := hSw; go_simp⟩) hHeld ?_
      refine wpAnyL_take (i := 2) (v := .int .i64 x) rfl (by kernel_rfl) (by kernel_rfl) (by kernel_rfl) (by kernel_rfl) (by kernel_rfl) (fun _ _ _ h => h) (Or.inl ⟨by rfl, fun w' hSw => by obtain ⟨s1, s2, s3⟩ := hSw; go_simp⟩) hHeld ?_
      refine wpAnyL_take (i := 3) (v := .pointer (some ⟨w.heap.size + 1, 0, none⟩)) rfl (by kernel_rfl) (by kernel_rfl) (by kernel_rfl) (by kernel_rfl) (by kernel_rfl) (fun _ _ _ h => h) (Or.inl ⟨by rfl, fun w' hSw => by obtain ⟨s1, s2, s3⟩ := hSw; go_simp⟩) hHeld ?_
      refine wpAnyL_take (i := 4) (v := .slice (some ⟨bL, oL, none⟩) 20 kd) rfl (by kernel_rfl) (by kernel_rfl) (by kernel_rfl) (by kernel_rfl) (by kernel_rfl) (fun _ _ _ h => h) (Or.inl ⟨by rfl, fun w' hSw => by obtain ⟨s1, s2, s3⟩ := hSw; go_simp⟩) hHeld ?_
      refine wpAnyL_take (i := 5) (v := .int .i64 (k : Int)) rfl (by kernel_rfl) (by kernel_rfl) (by kernel_rfl) (by kernel_rfl) (by kernel_rfl) (fun _ _ _ h => h) (Or.inl ⟨by rfl, fun w' hSw => by obtain ⟨s1, s2, s3⟩ := hSw; go_simp⟩) hHeld ?_
      refine wpAnyL_take (i := 6) (v := .pointer (some ⟨bL, oL + k, none⟩)) rfl (by kernel_rfl) (by kernel_rfl) (by kernel_rfl) (by kernel_rfl) (by kernel_rfl) (fun _ _ _ h => h) (Or.inl ⟨by rfl, fun w' hSw => by obtain ⟨s1, s2, s3⟩ := hSw; go_simp⟩) hHeld ?_
      refine wpAnyL_take (i := 7) (v := .int .i64 y) rfl (by kernel_rfl) (by kernel_rfl) (by kernel_rfl) (by kernel_rfl) (by kernel_rfl) (fun _ _ _ h => h) (Or.inl ⟨by rfl, fun w' hSw => by obtain ⟨s1, s2, s3⟩ := hSw; go_simp⟩) hHeld ?_
      refine wpAnyL_take (i := 8) (v := .int .i64 (x + y)) rfl (by kernel_rfl) (by kernel_rfl) (by kernel_rfl) (by kernel_rfl) (by kernel_rfl) (fun _ _ _ h => h) (Or.inl ⟨by rfl, fun w' hSw => by obtain ⟨s1, s2, s3⟩ := hSw; go_simp⟩) hHeld ?_
      clear hHeld
      refine wpAnyL_ready (rs := [9]) (by kernel_rfl) (by simp) ?_
      refine AllReadyL.cons rfl (fun K hK => ?_) AllReadyL.nil
      go_simp
      have HG3 : Hid (w2.grownBy (w2.alloc (.cells #[.int .i64 (x + y)] 3)) r) := Lib.hid (grown_noneJ ((Below.refl _ _).alloc (Nat.le_refl _) _) r)
      have HO3 := Lib.hid (HO2.out.alloc (.cells #[.int .i64 (x + y)] 3))
      have HN3 : Hid (∀ j u, ([.int .i64 (x + y)] : List Value)[j]? = some u → (w2.alloc (.cells #[.int .i64 (x + y)] 3)).cell? ((⟨w2.heap.size, 0, none⟩ : Addr).add j) = some u) := Lib.hid (new_cells w2 3 #[.int .i64 (x + y)] rfl)
      refine hK.out _ _ (fun _ => HSK.out _ HG3.out) (fun _ => ?_)
      clear hK K
      generalize (w2.alloc (.cells #[.int .i64 (x + y)] 3)) = w3 at *
      refine wpAnyL_ready (rs := [10]) (by kernel_rfl) (by simp) ?_
      refine AllReadyL.cons rfl (fun K hK => ?_) AllReadyL.nil
      refine step_append_lies _ rfl (.tmp 44) (.tmp 52) 24 rfl (w.heap.size + 4) 3 i0 _ 1 8 Try.underlying24 hi0 hz0' hz1' hz2' rfl (by decide) _ zs.length (zs.map (Value.int .i64)) rfl HO3.out ⟨w2.heap.size, 0, none⟩ 1 1 [.int .i64 (x + y)] rfl rfl HN3.out (by intro u hu; simp at hu; rw [hu]; rfl) (by decide) (by simp only [maxLen]; omega) (by omega) (Nat.le_trans hsz2 HG3.out.size) w3.heap.size rfl ?_
      intro g4 cap4 w4 hown hgr hat _
      have hgr' : w3.grownBy w4 (Value.slice Av zs.length cv).ownBlock := hgr
      have HG4 : Hid (w2.grownBy w4 r) := Lib.hid ⟨hgr'.os.trans HG3.out.os, hgr'.tape.trans HG3.out.tape, hgr'.output.trans HG3.out.output, Nat.le_trans HG3.out.size hgr'.size, fun k hk hne => (hgr'.block k (Nat.lt_of_lt_of_le hk HG3.out.size) (by rw [← HR.out]; exact hne)).trans (HG3.out.block k hk hne)⟩
      have hof : w4.ownsRow (w.heap.size + 4) 3 1 (.slice (some ⟨g4, 0, none⟩) (zs.length + 1) cap4) ((addK Ka Kb).take (k + 1)).length (((addK Ka Kb).take (k + 1)).map (Value.int .i64)) := by
        rw [HAS.out, List.length_append, List.map_append]
        exact hown
      have HEND : Hid (JnI w #[.slice (some ⟨bK, oK, none⟩) 20 kc, .int .i64 oa, .slice TA Ta.length ta] #[.slice (some ⟨bL, oL, none⟩) 20 kd, .int .i64 ob, .slice TB Tb.length tb] (oa + ob) (.slice (some ⟨g4, 0, none⟩) (zs.length + 1) cap4) ((addK Ka Kb).take (k + 1)) (w4.setCell ⟨w.heap.size + 3, 0, none⟩ (.slice (some ⟨g4, 0, none⟩) (zs.length + 1) cap4))) := Lib.hid (HJ2.out.put (by rw [← HR.out]; exact HG4.out) hof)
      have f1 := (HSK.out _ HG4.out).1
      have f2 := HSF.out _ HG4.out
      clear hown hgr hgr' hat hof
      refine hK.out _ _ (fun _ => HSK.out _ HG4.out) (fun _ => ?_)
      clear hK K
      refine wpAnyL_take (i := 11) (v := .pointer (some ⟨w.heap.size + 3, 0, none⟩)) rfl (by kernel_rfl) (by kernel_rfl) (by kernel_rfl) (by kernel_rfl) (by kernel_rfl) (fun _ _ _ h => h) (Or.inl ⟨by rfl, fun w' hSw => by obtain ⟨s1, s2, s3⟩ := hSw; go_simp⟩) (HSK.out _ HG4.out) ?_
      refine wpAnyL_ready (rs := [12]) (by kernel_rfl) (by simp) ?_
      refine AllReadyL.cons rfl (fun K hK => ?_) AllReadyL.nil
      go_simp
      refine hK.out _ _ (fun h => absurd rfl h) (fun _ => ?_)
      clear hK K
      refine wpAnyL_done (by kernel_rfl) ?_ _
      go_wp2_with fail
      go_roundw
      case rel => exact ⟨k + 1, by omega, by go_num, _, HEND.out⟩
      case measure => simp [intOf]; omega
    · have hk20 : k = 20 := by omega
      subst hk20
      have hj := HJ.out
      rw [List.take_of_length_le (by rw [addK_len HKL.out.1 HKL.out.2]; omega)] at hj
      have HJ2 := Lib.hid hj
      clear hj HJ
      obtain ⟨Av, cv, hv⟩ := own_form HJ2.out.own
      rw [addK_len HKL.out.1 HKL.out.2] at hv
      subst hv
      have HB5 : Hid (Below wr.heap.size wr (wr.alloc (.map #[] 0))) := Lib.hid ((Below.refl _ _).alloc (Nat.le_refl _) _)
      have HJ5 := Lib.hid (HJ2.out.below HB5.out)
      have HG5 := Lib.hid (Gr5.made wr)
      have a2 : (wr.alloc (.map #[] 0)).cell? ⟨w.heap.size, 2, none⟩ = some (.slice TA Ta.length ta) := HJ5.out.a 2
      have b2 : (wr.alloc (.map #[] 0)).cell? ⟨w.heap.size + 1, 2, none⟩ = some (.slice TB Tb.length tb) := HJ5.out.bb 2
      have hz5 : (wr.alloc (.map #[] 0)).heap.size = wr.heap.size + 1 := by simp
      have HZ5 := Lib.hid hz5
      have hvb : ∀ g, (Value.slice Av 20 cv).ownBlock = some g → g < wr.heap.size := fun g hg => (HJ2.out.own.lt g hg).2
      have HVB := Lib.hid hvb
      clear HJ2 HB5 hvb hz5
      go_wp2_with fail
      generalize hw5 : wr.alloc (.map #[] 0) = w5 at *
      generalize hbm : wr.heap.size = bm at *
      have HB6 : Hid (Below w5.heap.size w5 (w5.alloc (.cells #[.slice TA Ta.length ta, .slice TB Tb.length tb] 25))) := Lib.hid ((Below.refl _ _).alloc (Nat.le_refl _) _)
      have HBW6 := Lib.hid (HJ5.out.b.trans (HB6.out.mono HJ5.out.b.size))
      have y0 : (w5.alloc (.cells #[.slice TA Ta.length ta, .slice TB Tb.length tb] 25)).cell? ⟨w5.heap.size, 0, none⟩ = some (.slice TA Ta.length ta) := cell_new _ _ _ 0 rfl
      have y1 : (w5.alloc (.cells #[.slice TA Ta.length ta, .slice TB Tb.length tb] 25)).cell? ⟨w5.heap.size, 1, none⟩ = some (.slice TB Tb.length tb) := cell_new _ _ _ 1 rfl
      have yz : w5.heap.size < (w5.alloc (.cells #[.slice TA Ta.length ta, .slice TB Tb.length tb] 25)).heap.size := by simp
      have HCC : Hid (Calls Try.prog 28 #[.slice (some ⟨w5.heap.size, 0, none⟩) 2 2] (w5.alloc (.cells #[.slice TA Ta.length ta, .slice TB Tb.length tb] 25)) (GotTl (Ta ++ Tb) (w5.alloc (.cells #[.slice TA Ta.length ta, .slice TB Tb.length tb] 25)))) := Lib.hid (concatT_any Ta Tb TA TB ta tb w5.heap.size _ (HTA.out.below HBW6.out) (HTB.out.below HBW6.out) y0 y1 yz hla hlb)
      clear y0 y1 yz a2 b2 HBW6
      rw [HZ5.out] at HCC
      generalize w5.alloc (.cells #[.slice TA Ta.length ta, .slice TB Tb.length tb] 25) = w6 at *
      refine HCC.out.mono ?_
      rintro e w7 ⟨AL, cL, rfl, hoL, hb7⟩
      have HB7 : Hid (Below w5.heap.size w5 w7) := Lib.hid (HB6.out.trans (hb7.mono HB6.out.size))
      have HJ7 := Lib.hid (HJ5.out.below HB7.out)
      have hb6z : bm < w6.heap.size := by have := HB6.out.size; have := HZ5.out; omega
      have hb7z : bm < w7.heap.size := Nat.lt_of_lt_of_le hb6z hb7.size
      have hw67 := hb7.size
      have HG7 : Hid (Gr5 w7 w7.heap.size bm [] (fun _ _ => .slice none 0 0) (fun _ _ => [])) := Lib.hid (Gr5.fresh (HG5.out.below HB7.out).map (HG5.out.below HB7.out).stm w7.heap.size hb7z)
      have hLl : (Ta ++ Tb).length ≤ 200000 := by rw [List.length_append]; omega
      have HOL := Lib.hid hoL
      clear HJ5 HG5 HB6 HB7 HCC hoL hb7 HTA HTB hbm hw5 HZ5 hla hlb
      generalize hLE : Ta ++ Tb = L at *
      have HLE := Lib.hid hLE
      clear hLE
      go_wp2_with fail
      go_loopw [11, 12, 13, 14, 15, 64, 87] (fun _ _ _ _ _ i _ wr => ∃ k : Nat, k ≤ L.length ∧ i = .int .i64 k ∧ Hid (∃ m cf, w7.grownBy wr (some bm) ∧ Gr5 wr w7.heap.size bm m cf (tc (L.take k)) ∧ m.length ≤ k)) (fun _ _ _ _ _ i _ _ => L.length - (intOf i).toNat)
      case atStart => exact ⟨0, Nat.zero_le _, rfl, [], _, World.grownBy.refl _ _, by rw [tc_zero]; exact HG7.out, Nat.le_refl _⟩
      case round =>
        clear HG7
        obtain ⟨k, hk, rfl, HM⟩ := hrel
        obtain ⟨m, cf, hgr, hgg, hml⟩ := HM.out
        have HGR := Lib.hid hgr
        have HG := Lib.hid hgg
        have HOLr := Lib.hid (HOL.out.kept hgr (.inr (own_not_low HOL.out hb6z)))
        clear HM hgr hgg
        by_cases hlt : k < L.length
        · obtain ⟨b, o', rfl, hb, e0, e1, e2, e3, e4, e5, e6⟩ := tl_at (Seg.of_own HOLr.out) hlt
          have HX := Lib.hid (HT.out _ (List.getElem_mem hlt))
          have HTC := Lib.hid (tc_succ hlt)
          obtain ⟨x, hx⟩ : ∃ x, x = L[k] := ⟨_, rfl⟩
          rw [← hx] at e0 e1 e2 e3 e4 e5 e6 HX HTC
          clear hx
          obtain ⟨⟨x1, x2⟩, t0, t1, t2, t3, t4⟩ := x
          simp only at e0 e1 e2 e3 e4 e5 e6
          have HDOM : Hid (DomS (x1, x2)) := Lib.hid HX.out.1
          have hfl : ∀ q j, (tc (L.take k) q j).length ≤ 200000 := fun q j => by have := tc_len (L.take k) q j; rw [List.length_take] at this; omega
          obtain ⟨f, HF⟩ : ∃ f, Hid (f = tc (L.take k)) := ⟨_, Lib.hid rfl⟩
          rw [← HF.out] at HG HTC hfl
          have hfm : ∀ i, i < 5 → ∃ A c, cf (x1, x2) i = .slice A (f (x1, x2) i).length c := fun i hi => own_form (HG.out.rows (x1, x2) i hi)
          obtain ⟨A0, c0, s0⟩ := hfm 0 (by omega)
          obtain ⟨A1, c1, s1⟩ := hfm 1 (by omega)
          obtain ⟨A2, c2, s2⟩ := hfm 2 (by omega)
          obtain ⟨A3, c3, s3⟩ := hfm 3 (by omega)
          obtain ⟨A4, c4, s4⟩ := hfm 4 (by omega)
          obtain ⟨n0, HN0⟩ : ∃ n, Hid (n = (f (x1, x2) 0).length) := ⟨_, Lib.hid rfl⟩
          rw [← HN0.out] at s0
          have hn0 : n0 ≤ 200000 := by rw [HN0.out]; exact hfl _ _
          obtain ⟨n1, HN1⟩ : ∃ n, Hid (n = (f (x1, x2) 1).length) := ⟨_, Lib.hid rfl⟩
          rw [← HN1.out] at s1
          have hn1 : n1 ≤ 200000 := by rw [HN1.out]; exact hfl _ _
          obtain ⟨n2, HN2⟩ : ∃ n, Hid (n = (f (x1, x2) 2).length) := ⟨_, Lib.hid rfl⟩
          rw [← HN2.out] at s2
          have hn2 : n2 ≤ 200000 := by rw [HN2.out]; exact hfl _ _
          obtain ⟨n3, HN3⟩ : ∃ n, Hid (n = (f (x1, x2) 3).length) := ⟨_, Lib.hid rfl⟩
          rw [← HN3.out] at s3
          have hn3 : n3 ≤ 200000 := by rw [HN3.out]; exact hfl _ _
          obtain ⟨n4, HN4⟩ : ∃ n, Hid (n = (f (x1, x2) 4).length) := ⟨_, Lib.hid rfl⟩
          rw [← HN4.out] at s4
          have hn4 : n4 ≤ 200000 := by rw [HN4.out]; exact hfl _ _
          have K0_0 : Hid (cf (x1, x2) 0 = .slice A0 n0 c0) := Lib.hid s0
          have K0_1 : Hid (cf (x1, x2) 1 = .slice A1 n1 c1) := Lib.hid s1
          have K0_2 : Hid (cf (x1, x2) 2 = .slice A2 n2 c2) := Lib.hid s2
          have K0_3 : Hid (cf (x1, x2) 3 = .slice A3 n3 c3) := Lib.hid s3
          have K0_4 : Hid (cf (x1, x2) 4 = .slice A4 n4 c4) := Lib.hid s4
          have HC8 := Lib.hid fun j => cell_new wr #[.int .i64 x1, .int .i64 x2, .int .i64 t0, .int .i64 t1, .int .i64 t2, .int .i64 t3, .int .i64 t4] 42 (b := wr.heap.size) j rfl
          have HB8 : Hid (Below wr.heap.size wr (wr.alloc (.cells #[.int .i64 x1, .int .i64 x2, .int .i64 t0, .int .i64 t1, .int .i64 t2, .int .i64 t3, .int .i64 t4] 42))) := Lib.hid ((Below.refl _ _).alloc (Nat.le_refl _) _)
          have u0 : (wr.alloc (.cells #[.int .i64 x1, .int .i64 x2, .int .i64 t0, .int .i64 t1, .int .i64 t2, .int .i64 t3, .int .i64 t4] 42)).cell? ⟨wr.heap.size, 0, none⟩ = some (.int .i64 x1) := HC8.out 0
          have u1 : (wr.alloc (.cells #[.int .i64 x1, .int .i64 x2, .int .i64 t0, .int .i64 t1, .int .i64 t2, .int .i64 t3, .int .i64 t4] 42)).cell? ⟨wr.heap.size, 1, none⟩ = some (.int .i64 x2) := HC8.out 1
          have hz8 : (wr.alloc (.cells #[.int .i64 x1, .int .i64 x2, .int .i64 t0, .int .i64 t1, .int .i64 t2, .int .i64 t3, .int .i64 t4] 42)).heap.size = wr.heap.size + 1 := by simp
          have HB9 : Hid (Below (wr.alloc (.cells #[.int .i64 x1, .int .i64 x2, .int .i64 t0, .int .i64 t1, .int .i64 t2, .int .i64 t3, .int .i64 t4] 42)).heap.size (wr.alloc (.cells #[.int .i64 x1, .int .i64 x2, .int .i64 t0, .int .i64 t1, .int .i64 t2, .int .i64 t3, .int .i64 t4] 42)) ((wr.alloc (.cells #[.int .i64 x1, .int .i64 x2, .int .i64 t0, .int .i64 t1, .int .i64 t2, .int .i64 t3, .int .i64 t4] 42)).alloc (.cells #[.int .i64 x1, .int .i64 x2] 60))) := Lib.hid ((Below.refl _ _).alloc (Nat.le_refl _) _)
          have hz9 : ((wr.alloc (.cells #[.int .i64 x1, .int .i64 x2, .int .i64 t0, .int .i64 t1, .int .i64 t2, .int .i64 t3, .int .i64 t4] 42)).alloc (.cells #[.int .i64 x1, .int .i64 x2] 60)).heap.size = wr.heap.size + 1 + 1 := by simp
          have v0 : ((wr.alloc (.cells #[.int .i64 x1, .int .i64 x2, .int .i64 t0, .int .i64 t1, .int .i64 t2, .int .i64 t3, .int .i64 t4] 42)).alloc (.cells #[.int .i64 x1, .int .i64 x2] 60)).cell? ⟨wr.heap.size + 1, 0, none⟩ = some (.int .i64 x1) := cell_new _ _ _ _ (by simp)
          have v1 : ((wr.alloc (.cells #[.int .i64 x1, .int .i64 x2, .int .i64 t0, .int .i64 t1, .int .i64 t2, .int .i64 t3, .int .i64 t4] 42)).alloc (.cells #[.int .i64 x1, .int .i64 x2] 60)).cell? ⟨wr.heap.size + 1, 1, none⟩ = some (.int .i64 x2) := cell_new _ _ _ _ (by simp)
          have HLK : (Instr.lookup 56 (.map (some bm)) (.agg #[.int .i64 x1, .int .i64 x2]) false).run Try.prog ((wr.alloc (.cells #[.int .i64 x1, .int .i64 x2, .int .i64 t0, .int .i64 t1, .int .i64 t2, .int .i64 t3, .int .i64 t4] 42)).alloc (.cells #[.int .i64 x1, .int .i64 x2] 60)) = .ok (.agg #[.slice A0 n0 c0, .slice A1 n1 c1, .slice A2 n2 c2, .slice A3 n3 c3, .slice A4 n4 c4]) ((wr.alloc (.cells #[.int .i64 x1, .int .i64 x2, .int .i64 t0, .int .i64 t1, .int .i64 t2, .int .i64 t3, .int .i64 t4] 42)).alloc (.cells #[.int .i64 x1, .int .i64 x2] 60)) := by
            have h := ((HG.out.below HB8.out).below HB9.out).look HDOM.out
            unfold agg5 at h
            rw [s0, s1, s2, s3, s4] at h
            exact h
          have HR0 : Hid (JnR w7 bm wr.heap.size (x1, x2) m cf f (((wr.alloc (.cells #[.int .i64 x1, .int .i64 x2, .int .i64 t0, .int .i64 t1, .int .i64 t2, .int .i64 t3, .int .i64 t4] 42)).alloc (.cells #[.int .i64 x1, .int .i64 x2] 60)).alloc (.cells #[.slice A0 n0 c0, .slice A1 n1 c1, .slice A2 n2 c2, .slice A3 n3 c3, .slice A4 n4 c4] 62))) := Lib.hid (JnR.start HG.out HGR.out (x1, x2) _ _ _ _ _ (fiveJ_at s0 s1 s2 s3 s4))
          have z2 : (((wr.alloc (.cells #[.int .i64 x1, .int .i64 x2, .int .i64 t0, .int .i64 t1, .int .i64 t2, .int .i64 t3, .int .i64 t4] 42)).alloc (.cells #[.int .i64 x1, .int .i64 x2] 60)).alloc (.cells #[.slice A0 n0 c0, .slice A1 n1 c1, .slice A2 n2 c2, .slice A3 n3 c3, .slice A4 n4 c4] 62)).cell? ⟨wr.heap.size, 2, none⟩ = some (.int .i64 t0) := by rw [cell_old _ _ _ (by simp <;> omega), cell_old _ _ _ (by simp <;> omega)]; exact HC8.out 2
          have z3 : (((wr.alloc (.cells #[.int .i64 x1, .int .i64 x2, .int .i64 t0, .int .i64 t1, .int .i64 t2, .int .i64 t3, .int .i64 t4] 42)).alloc (.cells #[.int .i64 x1, .int .i64 x2] 60)).alloc (.cells #[.slice A0 n0 c0, .slice A1 n1 c1, .slice A2 n2 c2, .slice A3 n3 c3, .slice A4 n4 c4] 62)).cell? ⟨wr.heap.size, 3, none⟩ = some (.int .i64 t1) := by rw [cell_old _ _ _ (by simp <;> omega), cell_old _ _ _ (by simp <;> omega)]; exact HC8.out 3
          have z4 : (((wr.alloc (.cells #[.int .i64 x1, .int .i64 x2, .int .i64 t0, .int .i64 t1, .int .i64 t2, .int .i64 t3, .int .i64 t4] 42)).alloc (.cells #[.int .i64 x1, .int .i64 x2] 60)).alloc (.cells #[.slice A0 n0 c0, .slice A1 n1 c1, .slice A2 n2 c2, .slice A3 n3 c3, .slice A4 n4 c4] 62)).cell? ⟨wr.heap.size, 4, none⟩ = some (.int .i64 t2) := by rw [cell_old _ _ _ (by simp <;> omega), cell_old _ _ _ (by simp <;> omega)]; exact HC8.out 4
          have z5 : (((wr.alloc (.cells #[.int .i64 x1, .int .i64 x2, .int .i64 t0, .int .i64 t1, .int .i64 t2, .int .i64 t3, .int .i64 t4] 42)).alloc (.cells #[.int .i64 x1, .int .i64 x2] 60)).alloc (.cells #[.slice A0 n0 c0, .slice A1 n1 c1, .slice A2 n2 c2, .slice A3 n3 c3, .slice A4 n4 c4] 62)).cell? ⟨wr.heap.size, 5, none⟩ = some (.int .i64 t3) := by rw [cell_old _ _ _ (by simp <;> omega), cell_old _ _ _ (by simp <;> omega)]; exact HC8.out 5
          have z6 : (((wr.alloc (.cells #[.int .i64 x1, .int .i64 x2, .int .i64 t0, .int .i64 t1, .int .i64 t2, .int .i64 t3, .int .i64 t4] 42)).alloc (.cells #[.int .i64 x1, .int .i64 x2] 60)).alloc (.cells #[.slice A0 n0 c0, .slice A1 n1 c1, .slice A2 n2 c2, .slice A3 n3 c3, .slice A4 n4 c4] 62)).cell? ⟨wr.heap.size, 6, none⟩ = some (.int .i64 t4) := by rw [cell_old _ _ _ (by simp <;> omega), cell_old _ _ _ (by simp <;> omega)]; exact HC8.out 6
          have hzw := HR0.out.sz
          have hlo := HR0.out.lo
          clear HC8 HB8 HB9 hz8 hz9 HG HGR HF
          go_wp2_with fail
          clear HLK u0 u1 v0 v1 z2 z3 z4 z5 z6 e0 e1 e2 e3 e4 e5 e6
          generalize ((wr.alloc (.cells #[.int .i64 x1, .int .i64 x2, .int .i64 t0, .int .i64 t1, .int .i64 t2, .int .i64 t3, .int .i64 t4] 42)).alloc (.cells #[.int .i64 x1, .int .i64 x2] 60)).alloc (.cells #[.slice A0 n0 c0, .slice A1 n1 c1, .slice A2 n2 c2, .slice A3 n3 c3, .slice A4 n4 c4] 62) = wa at *
          generalize wr.heap.size = z at *
          obtain ⟨i0, hi0, hz0, hz1', hz2⟩ := info_parts i64_infoC
          refine wp_loop_rounds 6 ?_
          rw [rounds_succ]
          have g0 : wa.cell? ⟨z + 2, 0, none⟩ = some (.slice A0 n0 c0) := by rw [HR0.out.t 0 (by omega), K0_0.out]
          have HOW0 : Hid (wa.ownsRow w7.heap.size 2 1 (.slice A0 n0 c0) n0 ((f (x1, x2) 0).map (Value.int .i64))) := Lib.hid (by have h := HR0.out.g.rows (x1, x2) 0 (by omega); rw [K0_0.out] at h; rw [← HN0.out] at h; exact h)
          have hw0 := HR0.out.g.low
          have ix0 := idx5_0 t0 t1 t2 t3 t4
          go_wp2_with (at_builtin; go_must (refine wpList_append_own_at _ rfl _ _ 45 rfl w7.heap.size 2 i0 _ 1 8 Try.underlying45 hi0 hz0 hz1' hz2 rfl (by decide) _ n0 ((f (x1, x2) 0).map (Value.int .i64)) rfl (HOW0.out.alloc _) ⟨wa.heap.size, 0, none⟩ 1 1 [.int .i64 t0] rfl rfl (new_cells _ _ #[_] rfl) one_int (by simp only [maxLen]; omega) (by omega) (by simp; omega) ?_))
          intro v0 y0 hown0 hgr0 _ hat0
          obtain ⟨B0, d0, rfl⟩ := own_form hown0
          have hg0 : (wa.alloc (.cells #[.int .i64 t0] 2)).grownBy y0 (cf (x1, x2) 0).ownBlock := by rw [K0_0.out]; exact hgr0
          have ho0 : y0.ownsRow w7.heap.size 2 1 (.slice B0 (n0 + 1) d0) (f (x1, x2) 0 ++ [t0]).length ((f (x1, x2) 0 ++ [t0]).map (Value.int .i64)) := by rw [List.length_append, List.map_append, ← HN0.out]; exact hown0
          obtain ⟨q0, qf0⟩ := HR0.out.mid (i := 0) (by omega) hg0
          rw [K0_0.out] at q0
          have hst0 := HR0.out.step (i := 0) (by omega) hg0 ho0 (by rw [K0_0.out]; simpa using hat0)
          obtain ⟨cf1, HC1⟩ : ∃ cf', Hid (cf' = upd cf (x1, x2) 0 (.slice B0 (n0 + 1) d0)) := ⟨_, Lib.hid rfl⟩
          rw [← HC1.out] at hst0
          have HR1 : Hid (JnR w7 bm z (x1, x2) m cf1 (gStep f (x1, x2) (fun j => [t0, t1, t2, t3, t4][j]?.getD 0) 1) (y0.setCell ⟨z + 2, 0, none⟩ (.slice B0 (n0 + 1) d0))) := Lib.hid (by rw [gStep_succ, gStep_zero]; exact hst0)
          have K1_0 : Hid (cf1 (x1, x2) 0 = .slice B0 (n0 + 1) d0) := Lib.hid (by rw [HC1.out, upd_at])
          have K1_1 : Hid (cf1 (x1, x2) 1 = .slice A1 n1 c1) := Lib.hid (by rw [HC1.out, upd_off _ _ _ (by omega)]; exact K0_1.out)
          have K1_2 : Hid (cf1 (x1, x2) 2 = .slice A2 n2 c2) := Lib.hid (by rw [HC1.out, upd_off _ _ _ (by omega)]; exact K0_2.out)
          have K1_3 : Hid (cf1 (x1, x2) 3 = .slice A3 n3 c3) := Lib.hid (by rw [HC1.out, upd_off _ _ _ (by omega)]; exact K0_3.out)
          have K1_4 : Hid (cf1 (x1, x2) 4 = .slice A4 n4 c4) := Lib.hid (by rw [HC1.out, upd_off _ _ _ (by omega)]; exact K0_4.out)
          have sz1 := HR1.out.sz
          clear hown0 hgr0 hat0 hg0 ho0 hst0 HOW0 HR0 HC1 g0 K0_0 K0_1 K0_2 K0_3 K0_4
          go_wp2_with fail
          clear q0 qf0
          generalize y0.setCell ⟨z + 2, 0, none⟩ (Value.slice B0 (n0 + 1) d0) = wa1 at *
          rw [rounds_succ]
          have g1 : wa1.cell? ⟨z + 2, 1, none⟩ = some (.slice A1 n1 c1) := by rw [HR1.out.t 1 (by omega), K1_1.out]
          have HOW1 : Hid (wa1.ownsRow w7.heap.size 2 1 (.slice A1 n1 c1) n1 ((f (x1, x2) 1).map (Value.int .i64))) := Lib.hid (by have h := HR1.out.g.rows (x1, x2) 1 (by omega); rw [K1_1.out, gStep_at _ _ _ _ _ (Nat.le_refl _)] at h; rw [← HN1.out] at h; exact h)
          have hw1 := HR1.out.g.low
          have ix1 := idx5_1 t0 t1 t2 t3 t4
          go_wp2_with (at_builtin; go_must (refine wpList_append_own_at _ rfl _ _ 45 rfl w7.heap.size 2 i0 _ 1 8 Try.underlying45 hi0 hz0 hz1' hz2 rfl (by decide) _ n1 ((f (x1, x2) 1).map (Value.int .i64)) rfl (HOW1.out.alloc _) ⟨wa1.heap.size, 0, none⟩ 1 1 [.int .i64 t1] rfl rfl (new_cells _ _ #[_] rfl) one_int (by simp only [maxLen]; omega) (by omega) (by simp; omega) ?_))
          intro v1 y1 hown1 hgr1 _ hat1
          obtain ⟨B1, d1, rfl⟩ := own_form hown1
          have hg1 : (wa1.alloc (.cells #[.int .i64 t1] 2)).grownBy y1 (cf1 (x1, x2) 1).ownBlock := by rw [K1_1.out]; exact hgr1
          have ho1 : y1.ownsRow w7.heap.size 2 1 (.slice B1 (n1 + 1) d1) (f (x1, x2) 1 ++ [t1]).length ((f (x1, x2) 1 ++ [t1]).map (Value.int .i64)) := by rw [List.length_append, List.map_append, ← HN1.out]; exact hown1
          obtain ⟨q1, qf1⟩ := HR1.out.mid (i := 1) (by omega) hg1
          rw [K1_1.out] at q1
          have hst1 := HR1.out.step (i := 1) (by omega) hg1 ho1 (by rw [K1_1.out]; simpa using hat1)
          obtain ⟨cf2, HC2⟩ : ∃ cf', Hid (cf' = upd cf1 (x1, x2) 1 (.slice B1 (n1 + 1) d1)) := ⟨_, Lib.hid rfl⟩
          rw [← HC2.out] at hst1
          have HR2 : Hid (JnR w7 bm z (x1, x2) m cf2 (gStep f (x1, x2) (fun j => [t0, t1, t2, t3, t4][j]?.getD 0) 2) (y1.setCell ⟨z + 2, 1, none⟩ (.slice B1 (n1 + 1) d1))) := Lib.hid (by rw [gStep_succ]; exact hst1)
          have K2_0 : Hid (cf2 (x1, x2) 0 = .slice B0 (n0 + 1) d0) := Lib.hid (by rw [HC2.out, upd_off _ _ _ (by omega)]; exact K1_0.out)
          have K2_1 : Hid (cf2 (x1, x2) 1 = .slice B1 (n1 + 1) d1) := Lib.hid (by rw [HC2.out, upd_at])
          have K2_2 : Hid (cf2 (x1, x2) 2 = .slice A2 n2 c2) := Lib.hid (by rw [HC2.out, upd_off _ _ _ (by omega)]; exact K1_2.out)
          have K2_3 : Hid (cf2 (x1, x2) 3 = .slice A3 n3 c3) := Lib.hid (by rw [HC2.out, upd_off _ _ _ (by omega)]; exact K1_3.out)
          have K2_4 : Hid (cf2 (x1, x2) 4 = .slice A4 n4 c4) := Lib.hid (by rw [HC2.out, upd_off _ _ _ (by omega)]; exact K1_4.out)
          have sz2 := HR2.out.sz
          clear hown1 hgr1 hat1 hg1 ho1 hst1 HOW1 HR1 HC2 g1 K1_0 K1_1 K1_2 K1_3 K1_4
          go_wp2_with fail
          clear q1 qf1
          generalize y1.setCell ⟨z + 2, 1, none⟩ (Value.slice B1 (n1 + 1) d1) = wa2 at *
          rw [rounds_succ]
          have g2 : wa2.cell? ⟨z + 2, 2, none⟩ = some (.slice A2 n2 c2) := by rw [HR2.out.t 2 (by omega), K2_2.out]
          have HOW2 : Hid (wa2.ownsRow w7.heap.size 2 1 (.slice A2 n2 c2) n2 ((f (x1, x2) 2).map (Value.int .i64))) := Lib.hid (by have h := HR2.out.g.rows (x1, x2) 2 (by omega); rw [K2_2.out, gStep_at _ _ _ _ _ (Nat.le_refl _)] at h; rw [← HN2.out] at h; exact h)
          have hw2 := HR2.out.g.low
          have ix2 := idx5_2 t0 t1 t2 t3 t4
          go_wp2_with (at_builtin; go_must (refine wpList_append_own_at _ rfl _ _ 45 rfl w7.heap.size 2 i0 _ 1 8 Try.underlying45 hi0 hz0 hz1' hz2 rfl (by decide) _ n2 ((f (x1, x2) 2).map (Value.int .i64)) rfl (HOW2.out.alloc _) ⟨wa2.heap.size, 0, none⟩ 1 1 [.int .i64 t2] rfl rfl (new_cells _ _ #[_] rfl) one_int (by simp only [maxLen]; omega) (by omega) (by simp; omega) ?_))
          intro v2 y2 hown2 hgr2 _ hat2
          obtain ⟨B2, d2, rfl⟩ := own_form hown2
          have hg2 : (wa2.alloc (.cells #[.int .i64 t2] 2)).grownBy y2 (cf2 (x1, x2) 2).ownBlock := by rw [K2_2.out]; exact hgr2
          have ho2 : y2.ownsRow w7.heap.size 2 1 (.slice B2 (n2 + 1) d2) (f (x1, x2) 2 ++ [t2]).length ((f (x1, x2) 2 ++ [t2]).map (Value.int .i64)) := by rw [List.length_append, List.map_append, ← HN2.out]; exact hown2
          obtain ⟨q2, qf2⟩ := HR2.out.mid (i := 2) (by omega) hg2
          rw [K2_2.out] at q2
          have hst2 := HR2.out.step (i := 2) (by omega) hg2 ho2 (by rw [K2_2.out]; simpa using hat2)
          obtain ⟨cf3, HC3⟩ : ∃ cf', Hid (cf' = upd cf2 (x1, x2) 2 (.slice B2 (n2 + 1) d2)) := ⟨_, Lib.hid rfl⟩
          rw [← HC3.out] at hst2
          have HR3 : Hid (JnR w7 bm z (x1, x2) m cf3 (gStep f (x1, x2) (fun j => [t0, t1, t2, t3, t4][j]?.getD 0) 3) (y2.setCell ⟨z + 2, 2, none⟩ (.slice B2 (n2 + 1) d2))) := Lib.hid (by rw [gStep_succ]; exact hst2)
          have K3_0 : Hid (cf3 (x1, x2) 0 = .slice B0 (n0 + 1) d0) := Lib.hid (by rw [HC3.out, upd_off _ _ _ (by omega)]; exact K2_0.out)
          have K3_1 : Hid (cf3 (x1, x2) 1 = .slice B1 (n1 + 1) d1) := Lib.hid (by rw [HC3.out, upd_off _ _ _ (by omega)]; exact K2_1.out)
          have K3_2 : Hid (cf3 (x1, x2) 2 = .slice B2 (n2 + 1) d2) := Lib.hid (by rw [HC3.out, upd_at])
          have K3_3 : Hid (cf3 (x1, x2) 3 = .slice A3 n3 c3) := Lib.hid (by rw [HC3.out, upd_off _ _ _ (by omega)]; exact K2_3.out)
          have K3_4 : Hid (cf3 (x1, x2) 4 = .slice A4 n4 c4) := Lib.hid (by rw [HC3.out, upd_off _ _ _ (by omega)]; exact K2_4.out)
          have sz3 := HR3.out.sz
          clear hown2 hgr2 hat2 hg2 ho2 hst2 HOW2 HR2 HC3 g2 K2_0 K2_1 K2_2 K2_3 K2_4
          go_wp2_with fail
          clear q2 qf2
          generalize y2.setCell ⟨z + 2, 2, none⟩ (Value.slice B2 (n2 + 1) d2) = wa3 at *
          rw [rounds_succ]
          have g3 : wa3.cell? ⟨z + 2, 3, none⟩ = some (.slice A3 n3 c3) := by rw [HR3.out.t 3 (by omega), K3_3.out]
          have HOW3 : Hid (wa3.ownsRow w7.heap.size 2 1 (.slice A3 n3 c3) n3 ((f (x1, x2) 3).map (Value.int .i64))) := Lib.hid (by have h := HR3.out.g.rows (x1, x2) 3 (by omega); rw [K3_3.out, gStep_at _ _ _ _ _ (Nat.le_refl _)] at h; rw [← HN3.out] at h; exact h)
          have hw3 := HR3.out.g.low
          have ix3 := idx5_3 t0 t1 t2 t3 t4
          go_wp2_with (at_builtin; go_must (refine wpList_append_own_at _ rfl _ _ 45 rfl w7.heap.size 2 i0 _ 1 8 Try.underlying45 hi0 hz0 hz1' hz2 rfl (by decide) _ n3 ((f (x1, x2) 3).map (Value.int .i64)) rfl (HOW3.out.alloc _) ⟨wa3.heap.size, 0, none⟩ 1 1 [.int .i64 t3] rfl rfl (new_cells _ _ #[_] rfl) one_int (by simp only [maxLen]; omega) (by omega) (by simp; omega) ?_))
          intro v3 y3 hown3 hgr3 _ hat3
          obtain ⟨B3, d3, rfl⟩ := own_form hown3
          have hg3 : (wa3.alloc (.cells #[.int .i64 t3] 2)).grownBy y3 (cf3 (x1, x2) 3).ownBlock := by rw [K3_3.out]; exact hgr3
          have ho3 : y3.ownsRow w7.heap.size 2 1 (.slice B3 (n3 + 1) d3) (f (x1, x2) 3 ++ [t3]).length ((f (x1, x2) 3 ++ [t3]).map (Value.int .i64)) := by rw [List.length_append, List.map_append, ← HN3.out]; exact hown3
          obtain ⟨q3, qf3⟩ := HR3.out.mid (i := 3) (by omega) hg3
          rw [K3_3.out] at q3
          have hst3 := HR3.out.step (i := 3) (by omega) hg3 ho3 (by rw [K3_3.out]; simpa using hat3)
          obtain ⟨cf4, HC4⟩ : ∃ cf', Hid (cf' = upd cf3 (x1, x2) 3 (.slice B3 (n3 + 1) d3)) := ⟨_, Lib.hid rfl⟩
          rw [← HC4.out] at hst3
          have HR4 : Hid (JnR w7 bm z (x1, x2) m cf4 (gStep f (x1, x2) (fun j => [t0, t1, t2, t3, t4][j]?.getD 0) 4) (y3.setCell ⟨z + 2, 3, none⟩ (.slice B3 (n3 + 1) d3))) := Lib.hid (by rw [gStep_succ]; exact hst3)
          have K4_0 : Hid (cf4 (x1, x2) 0 = .slice B0 (n0 + 1) d0) := Lib.hid (by rw [HC4.out, upd_off _ _ _ (by omega)]; exact K3_0.out)
          have K4_1 : Hid (cf4 (x1, x2) 1 = .slice B1 (n1 + 1) d1) := Lib.hid (by rw [HC4.out, upd_off _ _ _ (by omega)]; exact K3_1.out)
          have K4_2 : Hid (cf4 (x1, x2) 2 = .slice B2 (n2 + 1) d2) := Lib.hid (by rw [HC4.out, upd_off _ _ _ (by omega)]; exact K3_2.out)
          have K4_3 : Hid (cf4 (x1, x2) 3 = .slice B3 (n3 + 1) d3) := Lib.hid (by rw [HC4.out, upd_at])
          have K4_4 : Hid (cf4 (x1, x2) 4 = .slice A4 n4 c4) := Lib.hid (by rw [HC4.out, upd_off _ _ _ (by omega)]; exact K3_4.out)
          have sz4 := HR4.out.sz
          clear hown3 hgr3 hat3 hg3 ho3 hst3 HOW3 HR3 HC4 g3 K3_0 K3_1 K3_2 K3_3 K3_4
          go_wp2_with fail
          clear q3 qf3
          generalize y3.setCell ⟨z + 2, 3, none⟩ (Value.slice B3 (n3 + 1) d3) = wa4 at *
          rw [rounds_succ]
          have g4 : wa4.cell? ⟨z + 2, 4, none⟩ = some (.slice A4 n4 c4) := by rw [HR4.out.t 4 (by omega), K4_4.out]
          have HOW4 : Hid (wa4.ownsRow w7.heap.size 2 1 (.slice A4 n4 c4) n4 ((f (x1, x2) 4).map (Value.int .i64))) := Lib.hid (by have h := HR4.out.g.rows (x1, x2) 4 (by omega); rw [K4_4.out, gStep_at _ _ _ _ _ (Nat.le_refl _)] at h; rw [← HN4.out] at h; exact h)
          have hw4 := HR4.out.g.low
          have ix4 := idx5_4 t0 t1 t2 t3 t4
          go_wp2_with (at_builtin; go_must (refine wpList_append_own_at _ rfl _ _ 45 rfl w7.heap.size 2 i0 _ 1 8 Try.underlying45 hi0 hz0 hz1' hz2 rfl (by decide) _ n4 ((f (x1, x2) 4).map (Value.int .i64)) rfl (HOW4.out.alloc _) ⟨wa4.heap.size, 0, none⟩ 1 1 [.int .i64 t4] rfl rfl (new_cells _ _ #[_] rfl) one_int (by simp only [maxLen]; omega) (by omega) (by simp; omega) ?_))
          intro v4 y4 hown4 hgr4 _ hat4
          obtain ⟨B4, d4, rfl⟩ := own_form hown4
          have hg4 : (wa4.alloc (.cells #[.int .i64 t4] 2)).grownBy y4 (cf4 (x1, x2) 4).ownBlock := by rw [K4_4.out]; exact hgr4
          have ho4 : y4.ownsRow w7.heap.size 2 1 (.slice B4 (n4 + 1) d4) (f (x1, x2) 4 ++ [t4]).length ((f (x1, x2) 4 ++ [t4]).map (Value.int .i64)) := by rw [List.length_append, List.map_append, ← HN4.out]; exact hown4
          obtain ⟨q4, qf4⟩ := HR4.out.mid (i := 4) (by omega) hg4
          rw [K4_4.out] at q4
          have hst4 := HR4.out.step (i := 4) (by omega) hg4 ho4 (by rw [K4_4.out]; simpa using hat4)
          obtain ⟨cf5, HC5⟩ : ∃ cf', Hid (cf' = upd cf4 (x1, x2) 4 (.slice B4 (n4 + 1) d4)) := ⟨_, Lib.hid rfl⟩
          rw [← HC5.out] at hst4
          have HR5 : Hid (JnR w7 bm z (x1, x2) m cf5 (gStep f (x1, x2) (fun j => [t0, t1, t2, t3, t4][j]?.getD 0) 5) (y4.setCell ⟨z + 2, 4, none⟩ (.slice B4 (n4 + 1) d4))) := Lib.hid (by rw [gStep_succ]; exact hst4)
          have K5_0 : Hid (cf5 (x1, x2) 0 = .slice B0 (n0 + 1) d0) := Lib.hid (by rw [HC5.out, upd_off _ _ _ (by omega)]; exact K4_0.out)
          have K5_1 : Hid (cf5 (x1, x2) 1 = .slice B1 (n1 + 1) d1) := Lib.hid (by rw [HC5.out, upd_off _ _ _ (by omega)]; exact K4_1.out)
          have K5_2 : Hid (cf5 (x1, x2) 2 = .slice B2 (n2 + 1) d2) := Lib.hid (by rw [HC5.out, upd_off _ _ _ (by omega)]; exact K4_2.out)
          have K5_3 : Hid (cf5 (x1, x2) 3 = .slice B3 (n3 + 1) d3) := Lib.hid (by rw [HC5.out, upd_off _ _ _ (by omega)]; exact K4_3.out)
          have K5_4 : Hid (cf5 (x1, x2) 4 = .slice B4 (n4 + 1) d4) := Lib.hid (by rw [HC5.out, upd_at])
          have sz5 := HR5.out.sz
          clear hown4 hgr4 hat4 hg4 ho4 hst4 HOW4 HR4 HC5 g4 K4_0 K4_1 K4_2 K4_3 K4_4
          go_wp2_with fail
          clear q4 qf4
          generalize y4.setCell ⟨z + 2, 4, none⟩ (Value.slice B4 (n4 + 1) d4) = wa5 at *
          rw [rounds_succ]
          obtain ⟨w8, hrun, hg8, hr8⟩ := HR5.out.done HDOM.out
          have hg9 : Gr5 w8 w7.heap.size bm (putM (x1, x2) (agg5 (cf5 (x1, x2))) m) cf5 (tc (L.take (k + 1))) := by rw [HTC.out]; exact hg8
          have HEND : Hid (∃ m cf, w7.grownBy w8 (some bm) ∧ Gr5 w8 w7.heap.size bm m cf (tc (L.take (k + 1))) ∧ m.length ≤ k + 1) := Lib.hid ⟨_, _, hr8, hg9, Nat.le_trans (putS_length m) (by omega)⟩
          unfold agg5 encS at hrun
          rw [K5_0.out, K5_1.out, K5_2.out, K5_3.out, K5_4.out] at hrun
          have r0 := HR5.out.s0
          have r1 := HR5.out.s1
          have m0 := HR5.out.t 0 (by omega)
          have m1 := HR5.out.t 1 (by omega)
          have m2 := HR5.out.t 2 (by omega)
          have m3 := HR5.out.t 3 (by omega)
          have m4 := HR5.out.t 4 (by omega)
          rw [K5_0.out] at m0
          rw [K5_1.out] at m1
          rw [K5_2.out] at m2
          rw [K5_3.out] at m3
          rw [K5_4.out] at m4
          clear hg8 hg9 hr8 HR5 K5_0 K5_1 K5_2 K5_3 K5_4 HTC ix0 ix1 ix2 ix3 ix4
          go_wp2_with (at_mapUpdate; go_must (refine wpList_update_run rfl _ _ _ _ rfl rfl rfl rfl hrun ?_))
          go_roundw
          case rel => exact ⟨k + 1, by omega, by go_num, HEND⟩
          case measure => simp [intOf]; omega
        · obtain rfl : k = L.length := by omega
          have hg := HG.out
          rw [List.take_length] at hg
          have hfl : ∀ q j, (tc L q j).length ≤ 200000 := fun q j => Nat.le_trans (tc_len L q j) hLl
          have HTL : Hid (Calls Try.prog 23 #[.map (some bm)] wr (GotTs (fun q j => sumI (tc L q j)) wr)) := Lib.hid (tallies_pre HSO.out bm w7.heap.size m cf (tc L) wr hg (fun q j hj => tc_I64 (fun t ht => (HT.out t ht).2) q j hj) (fun q j _ => by have := hfl q j; omega) (by omega))
          have HJ := Lib.hid (HJ7.out.kept HGR.out (fun g e => by injection e with e; subst e; exact ⟨hsz, fun e => by have := HVB.out _ e; omega⟩))
          have hszr := HJ.out.sz
          clear hg HG HGR HOL HOLr HJ7 HVB HT HSO
          go_wp2_with fail
          refine HTL.out.mono ?_
          rintro e w3 ⟨hb3, hcase⟩
          have HJ3 := Lib.hid (HJ.out.below hb3)
          clear HTL hb3 HJ
          have hz3 := HJ3.out.sz
          have r0 := HJ3.out.r0
          have r1 := HJ3.out.r1
          have r2 := HJ3.out.r2
          have rf := HJ3.out.rf
          have c0 := HJ3.out.c0
          have c1 := HJ3.out.c1
          have c2 := HJ3.out.c2
          have cf := HJ3.out.cf
          rcases hcase with ⟨T, At, ct, hTF, hok, rfl, hown⟩ | ⟨hbad, rfl⟩
          · have HTF := Lib.hid hTF
            have HOKQ := Lib.hid hok
            have HOT := Lib.hid hown
            clear hTF hok hown
            go_wp2_with fail
            obtain ⟨w4, hw4⟩ : ∃ w4, w4 = (w3.setCell ⟨w.heap.size + 3, 2, none⟩ (Value.slice At T.length ct)) := ⟨_, rfl⟩
            obtain ⟨W5, hW5⟩ : ∃ W5, W5 = (((w4).setCell ⟨w.heap.size + 2, 0, none⟩ (Value.slice Av 20 cv)).setCell ⟨w.heap.size + 2, 1, none⟩ (Value.int .i64 (oa + ob))).setCell ⟨w.heap.size + 2, 2, none⟩ (Value.slice At T.length ct) := ⟨_, rfl⟩
            have hgr4 := grown_set w3 (w.heap.size + 3) 2 (Value.slice At T.length ct)
            have hn4 : ∀ b, b ≠ w.heap.size + 3 → ∀ j, w4.cell? ⟨b, j, none⟩ = w3.cell? ⟨b, j, none⟩ := fun b hb j => by rw [hw4]; exact World.cell?_setCell_other _ _ _ _ (fun e => hb (by injection e with e _ _; exact e.symm))
            have HS5 := setAll_at (b := w.heap.size + 2) [Value.slice Av 20 cv, Value.int .i64 (oa + ob), Value.slice At T.length ct] w4 0 (three_at ((hn4 _ (by omega) 0).trans r0) ((hn4 _ (by omega) 1).trans r1) ((hn4 _ (by omega) 2).trans r2) rfl)
            have hgr5 := setAll_grown (b := w.heap.size + 2) [Value.slice Av 20 cv, Value.int .i64 (oa + ob), Value.slice At T.length ct] w4 0
            have s0 : W5.cell? ⟨w.heap.size + 2, 0, none⟩ = some (Value.slice Av 20 cv) := by rw [hW5]; exact HS5 0 (by simp)
            have s1 : W5.cell? ⟨w.heap.size + 2, 1, none⟩ = some (Value.int .i64 (oa + ob)) := by rw [hW5]; exact HS5 1 (by simp)
            have s2 : W5.cell? ⟨w.heap.size + 2, 2, none⟩ = some (Value.slice At T.length ct) := by rw [hW5]; exact HS5 2 (by simp)
            have HOW5 : Hid (W5.ownsRow wr.heap.size 42 7 (Value.slice At T.length ct) T.length (tlRows T)) := Lib.hid (by
              rw [hW5]
              have h4 : w4.ownsRow wr.heap.size 42 7 (Value.slice At T.length ct) T.length (tlRows T) := by rw [hw4]; exact HOT.out.kept hgr4 (.inr (own_not_low HOT.out (by omega)))
              exact h4.kept hgr5 (.inr (own_not_low HOT.out (by omega))))
            have HOK5 : Hid (W5.ownsRow (w.heap.size + 4) 3 1 (Value.slice Av 20 cv) (addK Ka Kb).length ((addK Ka Kb).map (Value.int .i64))) := Lib.hid (by
              rw [hW5]
              have h4 : w4.ownsRow (w.heap.size + 4) 3 1 (Value.slice Av 20 cv) (addK Ka Kb).length ((addK Ka Kb).map (Value.int .i64)) := by rw [hw4]; exact HJ3.out.own.kept hgr4 (.inr (own_not_low HJ3.out.own (by omega)))
              exact h4.kept hgr5 (.inr (own_not_low HJ3.out.own (by omega))))
            have HBX : Hid (Below w.heap.size w W5) := Lib.hid (by rw [hW5, hw4]; exact setAll_below (by omega) [Value.slice Av 20 cv, Value.int .i64 (oa + ob), Value.slice At T.length ct] _ 0 (HJ3.out.b.setCell (p := ⟨w.heap.size + 3, 2, none⟩) (by show w.heap.size ≤ w.heap.size + 3; omega) _))
            rw [hw4] at hW5
            rw [← hW5]
            clear HS5 hW5 hgr5 hgr4 hn4 hw4
            have hak := addK_len HKL.out.1 HKL.out.2
            refine bodyPost_ret (v := .tuple #[.agg #[Value.slice Av 20 cv, .int .i64 (oa + ob), Value.slice At T.length ct], .int .i64 0]) (by simp [results, Try.results18, go_sem, s0, s1, s2]) rfl ?_
            rw [HLE.out]
            refine ⟨HBX.out, _, 0, addK Ka Kb, oa + ob, T, rfl, ⟨Av, cv, At, ct, by rw [hak], ?_, Seg.of_own HOW5.out⟩, .inr ⟨HOKQ.out, rfl, rfl, HTF.out, rfl⟩⟩
            have h := HOK5.out
            rw [hak] at h
            exact Seg.of_own h
          · have HBD := Lib.hid hbad
            clear hbad
            go_wp2_with fail
            obtain ⟨W5, hW5⟩ : ∃ W5, W5 = (((w3).setCell ⟨w.heap.size + 2, 0, none⟩ (Value.slice none 0 0)).setCell ⟨w.heap.size + 2, 1, none⟩ (Value.int .i64 0)).setCell ⟨w.heap.size + 2, 2, none⟩ (Value.slice none 0 0) := ⟨_, rfl⟩
            rw [← hW5]
            have HS5 := setAll_at (b := w.heap.size + 2) [Value.slice none 0 0, Value.int .i64 0, Value.slice none 0 0] w3 0 (three_at r0 r1 r2 rfl)
            have s0 : W5.cell? ⟨w.heap.size + 2, 0, none⟩ = some (Value.slice none 0 0) := by rw [hW5]; exact HS5 0 (by simp)
            have s1 : W5.cell? ⟨w.heap.size + 2, 1, none⟩ = some (Value.int .i64 0) := by rw [hW5]; exact HS5 1 (by simp)
            have s2 : W5.cell? ⟨w.heap.size + 2, 2, none⟩ = some (Value.slice none 0 0) := by rw [hW5]; exact HS5 2 (by simp)
            have HBX : Hid (Below w.heap.size w W5) := Lib.hid (by rw [hW5]; exact setAll_below (by omega) [Value.slice none 0 0, Value.int .i64 0, Value.slice none 0 0] w3 0 HJ3.out.b)
            clear HS5 hW5
            refine bodyPost_ret (v := .tuple #[.agg #[.slice none 0 0, .int .i64 0, .slice none 0 0], .int .i64 2]) (by simp [results, Try.results18, go_sem, s0, s1, s2]) rfl ?_
            rw [HLE.out]
            exact ⟨HBX.out, _, 2, [], 0, [], rfl, ⟨none, 0, none, 0, rfl, Seg.nil, Seg.nil⟩, .inl ⟨HBD.out, rfl, rfl, rfl, rfl⟩⟩
end Go.Proofs.Ytgkidjjijgegmaa
