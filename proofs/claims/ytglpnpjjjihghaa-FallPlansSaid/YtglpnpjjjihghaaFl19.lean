/-
  What complineref23.Plan comes to, over this seat's translation: a contract for callers.
-/
import Derived.Test.YtglpnpjjjihghaaFl18
import Derived.Test.YtglpnpjjjihghaaAlo
import Derived.Test.YtglpnpjjjihghaaTwo
namespace Go.Proofs.Ytglpnpjjjihghaa
open Go.RowKit

/-- Draws have come back. -/
def GotPl (l : List Dw) (w : World) (e : Ending) (w' : World) : Prop := ∃ A c, e = .returned (.slice A l.length c) ∧ Seg w' w'.heap.size A (dwRows l) ∧ Below w.heap.size w w'
theorem Seg.grown {w w' : World} {A : Option Addr} {xs : List Value} {row : Option Nat} {n c : Nat} (h : Seg w w.heap.size A xs) (hg : w.grownBy w' row) (hne : ∀ k, row = some k → (Value.slice A n c).ownBlock = some k → False) : Seg w' w'.heap.size A xs := by
  intro j u hu
  obtain ⟨b, o, rfl, hb, hc⟩ := h j u hu
  refine ⟨b, o, rfl, Nat.lt_of_lt_of_le hb hg.size, ?_⟩
  have e : (⟨b, o + j, none⟩ : Addr).block = b := rfl
  rw [← hc]
  exact World.cell?_of_block (hg.block b hb fun hr => hne b hr.symm rfl)
set_option maxRecDepth 100000 in
set_option maxHeartbeats 6400000 in
theorem plan23_any (p : Pol) (os : List Int) (need : Int) (A : Option Addr) (c : Nat) (w : World) (h : PolOk w p) (hm : MayF p os) (hs : Seg w w.heap.size A (os.map (Value.int .i64))) (hl : os.length ≤ 100) (hn : 0 ≤ need) (hN : I64 need) :
    Calls Try.prog 27 #[p.val, .slice A os.length c, .int .i64 need] w (GotPl (planR p os need) w) := by
  have HB0 : Hid (Below w.heap.size w (w.alloc (.cells #[.slice p.Ac p.co.length p.cc, .slice p.Af p.fu.length p.cf, .int .i64 p.line, .int .i64 p.cap] 37))) := Lib.hid ((Below.refl _ _).alloc (Nat.le_refl _) _)
  have HX := Lib.hid fun j => cell_new w #[.slice p.Ac p.co.length p.cc, .slice p.Af p.fu.length p.cf, .int .i64 p.line, .int .i64 p.cap] 37 (b := w.heap.size) j rfl
  have hlt0 : w.heap.size < (w.alloc (.cells #[.slice p.Ac p.co.length p.cc, .slice p.Af p.fu.length p.cf, .int .i64 p.line, .int .i64 p.cap] 37)).heap.size := by simp
  have HC := Lib.hid ((h.c.seg.below HB0.out).mono HB0.out.size)
  have HF := Lib.hid ((h.f.seg.below HB0.out).mono HB0.out.size)
  have HS := Lib.hid ((hs.below HB0.out).mono HB0.out.size)
  have HM := Lib.hid hm
  have HN := Lib.hid hn
  obtain ⟨rl, hrl⟩ : ∃ l, l = planR p os need := ⟨_, rfl⟩
  rw [← hrl]
  have HRL := Lib.hid hrl
  have hN2 : need ≤ 9223372036854775807 := by unfold I64 at hN; omega
  have HN2 := Lib.hid hN2
  clear h hm hs hrl hN hn hN2
  unfold Pol.val
  go_enter Try.func27, Try.ntmps27
  go_wp2_with fail
  generalize w.alloc (.cells #[.slice p.Ac p.co.length p.cc, .slice p.Af p.fu.length p.cf, .int .i64 p.line, .int .i64 p.cap] 37) = w0 at *
  have HX0 : Hid (∀ W, Below w0.heap.size w0 W → W.cell? ⟨w.heap.size, 0, none⟩ = some (.slice p.Ac p.co.length p.cc) ∧ W.cell? ⟨w.heap.size, 1, none⟩ = some (.slice p.Af p.fu.length p.cf) ∧ W.cell? ⟨w.heap.size, 2, none⟩ = some (.int .i64 p.line) ∧ W.cell? ⟨w.heap.size, 3, none⟩ = some (.int .i64 p.cap)) := Lib.hid fun W hW => by
    have hk := fun j => (hW.cell (p := ⟨w.heap.size, j, none⟩) hlt0).trans (HX.out j)
    exact ⟨hk 0, hk 1, hk 2, hk 3⟩
  clear HX
  have HOUT : Hid (∀ (m : Int) W, Below w0.heap.size w0 W → Calls Try.prog 19 #[.slice A os.length c, .int .i64 m] W fun e w' => e = .returned (.bool (os.contains m)) ∧ W = w') := Lib.hid fun m W hW => out23_any os m A c W ((HS.out.below hW).mono hW.size) (by omega)
  go_loopw [2, 7, 8] (fun nd u i wr => ∃ k : Nat, k ≤ os.length ∧ i = .int .i64 k ∧ nd = .int .i64 (plX p os need k).2 ∧ Hid (wr.ownsRow w0.heap.size 47 3 u (plX p os need k).1.length (dwRows (plX p os need k).1)) ∧ Hid (Below w0.heap.size w0 wr)) (fun _ _ i _ => os.length - (intOf i).toNat)
  case atStart => exact ⟨0, Nat.zero_le _, rfl, rfl, ⟨by simp [dwRows, plX], Or.inl ⟨rfl, rfl⟩⟩, Below.refl _ _⟩
  case round =>
    obtain ⟨k, hk, rfl, rfl, HO, HB⟩ := hrel
    have hsz := HB.out.size
    by_cases hlt : k < os.length
    · have hos := HM.out.os1 os[k] (List.getElem_mem hlt)
      have hle1 : p.fu.length ≤ p.co.length := Nat.le_of_eq HM.out.len
      have hle2 : p.co.length ≤ p.fu.length := Nat.le_of_eq HM.out.len.symm
      obtain ⟨s, hs, hse⟩ : ∃ s : Nat, s < p.co.length ∧ os[k] = (s : Int) + 1 := ⟨(os[k] - 1).toNat, by omega, by omega⟩
      obtain ⟨bo, oo, rfl, hbo, hco⟩ := int_at HS.out hlt
      obtain ⟨bc, oc, hA, hbc, hcc⟩ := int_at HC.out hs
      rw [hse] at hco
      have HST := Lib.hid (plX_succ (p := p) (os := os) (need := need) hlt hs hse)
      have HPS := plX_ok HM.out HN.out k
      obtain ⟨q1, q2, q3⟩ := HPS
      have q4 := HN2.out
      have HT := (HM.out.co0 p.co[s] (List.getElem_mem hs))
      have hbig := HM.out.big
      have HKP : Hid (∀ W, Below w0.heap.size w0 W → W.cell? ⟨w.heap.size, 0, none⟩ = some (.slice (some ⟨bc, oc, none⟩) p.co.length p.cc) ∧ W.cell? ⟨bo, oo + k, none⟩ = some (.int .i64 ((s : Int) + 1)) ∧ W.cell? ⟨bc, oc + s, none⟩ = some (.int .i64 p.co[s])) := Lib.hid fun W hW =>
        ⟨hA ▸ (HX0.out W hW).1, (hW.cell (p := ⟨bo, oo + k, none⟩) hbo).trans hco, (hW.cell (p := ⟨bc, oc + s, none⟩) hbc).trans hcc⟩
      clear hcc hco hse hA hos
      generalize p.co[s] = th at *
      generalize plX p os need k = st at *
      obtain ⟨L, nd⟩ := st
      dsimp only at HST q1 q2 q3 HO ⊢
      have hkw : IntKind.i64.wrap ((s : Int) + 1 - 1) = (s : Int) := by rw [IntWalk.i64_in _ (by omega)]; omega
      have hkw2 : IntKind.i64.wrap (s : Int) = (s : Int) := IntWalk.i64_in _ (by omega)
      have hsb : (s : Int) < (p.co.length : Int) := by omega
      have hkb : (k : Int) < (os.length : Int) := by omega
      have HTK : Hid (∀ u W, W.ownsRow w0.heap.size 47 3 u L.length (dwRows L) → w0.heap.size ≤ W.heap.size → Calls Try.prog 52 #[u, .int .i64 8, .int .i64 ((s : Int) + 1), .int .i64 th, .int .i64 nd] W (GotTk w0.heap.size u (tkL L 8 ((s : Int) + 1) th nd) (nd - min th nd) W)) := Lib.hid fun u W h1 h2 => take23_any w0.heap.size u L 8 ((s : Int) + 1) th nd W h1 h2 (by omega) (by omega) (by omega)
      go_wp2_with fail
      go_region_held3 (fun w' => w'.cell? ⟨w.heap.size, 0, none⟩ = some (.slice (some ⟨bc, oc, none⟩) p.co.length p.cc) ∧ w'.cell? ⟨bo, oo + k, none⟩ = some (.int .i64 ((s : Int) + 1)) ∧ w'.cell? ⟨bc, oc + s, none⟩ = some (.int .i64 th)) (first | (with_reducible exact HKP.out _ HB.out.drew) | (with_reducible exact HKP.out _ HB6.out)) ((go_at_call 52; refine (HTK.out _ wr.drew HO.out hsz).mono ?_; rintro e w6 ⟨u', rfl, hown, hbel, hgr, hat⟩; have HO6 := Lib.hid hown; have HB6 : Hid (Below w0.heap.size w0 w6) := Lib.hid (HB.out.drew.trans hbel); clear hown hbel hgr hat))
      go_wp2_with fail
      go_roundw
      case rel => exact ⟨k + 1, by omega, by go_num, by rw [HST.out], by rw [HST.out]; exact HO6, HB6⟩
      case measure => simp [intOf]; omega
    · obtain rfl : k = os.length := by omega
      rw [← plY_zero] at HO ⊢
      go_wp2_with fail
      go_loopw [2, 7, 9] (fun nd u i wr => ∃ k : Nat, k ≤ os.length ∧ i = .int .i64 k ∧ nd = .int .i64 (plY p os need k).2 ∧ Hid (wr.ownsRow w0.heap.size 47 3 u (plY p os need k).1.length (dwRows (plY p os need k).1)) ∧ Hid (Below w0.heap.size w0 wr)) (fun _ _ i _ => os.length - (intOf i).toNat)
      case atStart => exact ⟨0, Nat.zero_le _, rfl, rfl, HO, HB⟩
      case round =>
        obtain ⟨k, hk, rfl, rfl, HO, HB⟩ := hrel
        have hsz := HB.out.size
        by_cases hlt2 : k < os.length
        · have hos := HM.out.os1 os[k] (List.getElem_mem hlt2)
          have hle1 : p.fu.length ≤ p.co.length := Nat.le_of_eq HM.out.len
          have hle2 : p.co.length ≤ p.fu.length := Nat.le_of_eq HM.out.len.symm
          obtain ⟨s, hs, hse⟩ : ∃ s : Nat, s < p.fu.length ∧ os[k] = (s : Int) + 1 := ⟨(os[k] - 1).toNat, by omega, by omega⟩
          obtain ⟨bo, oo, rfl, hbo, hco⟩ := int_at HS.out hlt2
          obtain ⟨bc, oc, hA, hbc, hcc⟩ := int_at HF.out hs
          rw [hse] at hco
          have HST := Lib.hid (plY_succ (p := p) (os := os) (need := need) hlt2 hs hse)
          have HPS := plY_ok HM.out HN.out k
          obtain ⟨q1, q2, q3⟩ := HPS
          have q4 := HN2.out
          have HT := (HM.out.fu0 p.fu[s] (List.getElem_mem hs))
          have hbig := HM.out.big
          have HKP : Hid (∀ W, Below w0.heap.size w0 W → W.cell? ⟨w.heap.size, 1, none⟩ = some (.slice (some ⟨bc, oc, none⟩) p.fu.length p.cf) ∧ W.cell? ⟨bo, oo + k, none⟩ = some (.int .i64 ((s : Int) + 1)) ∧ W.cell? ⟨bc, oc + s, none⟩ = some (.int .i64 p.fu[s])) := Lib.hid fun W hW =>
            ⟨hA ▸ (HX0.out W hW).2.1, (hW.cell (p := ⟨bo, oo + k, none⟩) hbo).trans hco, (hW.cell (p := ⟨bc, oc + s, none⟩) hbc).trans hcc⟩
          clear hcc hco hse hA hos
          generalize p.fu[s] = th at *
          generalize plY p os need k = st at *
          obtain ⟨L, nd⟩ := st
          dsimp only at HST q1 q2 q3 HO ⊢
          have hkw : IntKind.i64.wrap ((s : Int) + 1 - 1) = (s : Int) := by rw [IntWalk.i64_in _ (by omega)]; omega
          have hkw2 : IntKind.i64.wrap (s : Int) = (s : Int) := IntWalk.i64_in _ (by omega)
          have hsb : (s : Int) < (p.fu.length : Int) := by omega
          have hkb : (k : Int) < (os.length : Int) := by omega
          have HTK : Hid (∀ u W, W.ownsRow w0.heap.size 47 3 u L.length (dwRows L) → w0.heap.size ≤ W.heap.size → Calls Try.prog 52 #[u, .int .i64 9, .int .i64 ((s : Int) + 1), .int .i64 th, .int .i64 nd] W (GotTk w0.heap.size u (tkL L 9 ((s : Int) + 1) th nd) (nd - min th nd) W)) := Lib.hid fun u W h1 h2 => take23_any w0.heap.size u L 9 ((s : Int) + 1) th nd W h1 h2 (by omega) (by omega) (by omega)
          go_wp2_with fail
          go_region_held3 (fun w' => w'.cell? ⟨w.heap.size, 1, none⟩ = some (.slice (some ⟨bc, oc, none⟩) p.fu.length p.cf) ∧ w'.cell? ⟨bo, oo + k, none⟩ = some (.int .i64 ((s : Int) + 1)) ∧ w'.cell? ⟨bc, oc + s, none⟩ = some (.int .i64 th)) (first | (with_reducible exact HKP.out _ HB.out.drew) | (with_reducible exact HKP.out _ HB6.out)) ((go_at_call 52; refine (HTK.out _ wr.drew HO.out hsz).mono ?_; rintro e w6 ⟨u', rfl, hown, hbel, hgr, hat⟩; have HO6 := Lib.hid hown; have HB6 : Hid (Below w0.heap.size w0 w6) := Lib.hid (HB.out.drew.trans hbel); clear hown hbel hgr hat))
          go_wp2_with fail
          go_roundw
          case rel => exact ⟨k + 1, by omega, by go_num, by rw [HST.out], by rw [HST.out]; exact HO6, HB6⟩
          case measure => simp [intOf]; omega
        · obtain rfl : k = os.length := by omega
          rw [plY_all] at HO ⊢
          have hle1 : p.fu.length ≤ p.co.length := Nat.le_of_eq HM.out.len
          have hle2 : p.co.length ≤ p.fu.length := Nat.le_of_eq HM.out.len.symm
          have hbig := HM.out.big
          have HPA := Lib.hid (plA_ok HM.out HN.out)
          have HGV := Lib.hid (plG_given HM.out HN.out)
          obtain ⟨wa, hwa⟩ : ∃ x, x = wr := ⟨_, rfl⟩
          subst hwa
          obtain ⟨Al, cl, rfl⟩ := own_form HO.out
          obtain ⟨j0, hj0, jz0, jz1, jz2⟩ := info_parts (show (Try.prog.info? 2).map (fun i => (i.zero, i.size, i.bytes)) = some (some (.int .i64 0), 1, 8) by kernel_rfl)
          go_wp2_with fail
          go_loopw [10, 11] (fun v i wq => ∃ k : Nat, k ≤ p.fu.length ∧ i = .int .i64 k ∧ Hid (wq.ownsRow wa.heap.size 2 1 v k (((wOut p.fu os).take k).map (Value.int .i64))) ∧ Hid (Below wa.heap.size wa wq)) (fun _ i _ => p.fu.length - (intOf i).toNat)
          case atStart => exact ⟨0, Nat.zero_le _, rfl, ⟨by simp, Or.inl ⟨rfl, rfl⟩⟩, Below.refl _ _⟩
          case round =>
            obtain ⟨wq, hwq⟩ : ∃ x, x = wr := ⟨_, rfl⟩
            subst hwq
            obtain ⟨k, hk, rfl, HO3, HB3⟩ := hrel
            have hsz3 := HB3.out.size
            have HBB : Hid (Below w0.heap.size w0 wq) := Lib.hid (HB.out.trans (HB3.out.mono hsz))
            obtain ⟨c0, c1, c2, c3⟩ := HX0.out _ HBB.out
            by_cases hlt3 : k < p.fu.length
            · have hkw : IntKind.i64.wrap ((k : Int) + 1) = (k : Int) + 1 := IntWalk.i64_in _ (by omega)
              have hkb : (k : Int) < (p.fu.length : Int) := by omega
              have HW := Lib.hid (wOut_take (os := os) hlt3)
              obtain ⟨bf, of, hAf, hbf, df⟩ := int_at HF.out hlt3
              have df2 := (HBB.out.cell (p := ⟨bf, of + k, none⟩) hbf).trans df
              rw [hAf] at c1
              clear df hAf c0 c2 c3
              generalize p.fu[k] = x at *
              cases hct : os.contains ((k : Int) + 1) with
              | true =>
                rw [hct, if_pos rfl] at HW
                go_wp2_with fail
                refine (HOUT.out _ _ HBB.out).mono ?_
                rw [hct]
                rintro e w5 ⟨rfl, rfl⟩
                go_wp2_with (at_builtin; refine wpList_append_own _ rfl _ _ 35 rfl wa.heap.size 2 j0 _ 1 8 Try.underlying35 hj0 jz0 jz1 jz2 rfl (by decide) _ k (((wOut p.fu os).take k).map (Value.int .i64)) rfl (HO3.out.alloc _) ⟨wq.heap.size, 0, none⟩ 1 1 [.int .i64 0] rfl rfl (new_cells _ _ #[_] (by simp)) one_int (by simp only [maxLen]; omega) (by omega) (by simp; omega) ?_)
                intro v' w4 hown1 hgrow1 _
                have HO4 : Hid (w4.ownsRow wa.heap.size 2 1 v' (k + 1) (((wOut p.fu os).take (k + 1)).map (Value.int .i64))) := Lib.hid (by
                  rw [HW.out, List.map_append, List.map_take]
                  exact hown1)
                have HB4 : Hid (Below wa.heap.size wa w4) := Lib.hid ((HB3.out.alloc hsz3 _).grown hgrow1 (by simp; omega) (fun j hj => own_base HO3.out j hj))
                clear hown1 hgrow1
                go_wp2_with fail
                go_roundw
                case rel => exact ⟨k + 1, by omega, by go_num, HO4, HB4⟩
                case measure => simp [intOf]; omega
              | false =>
                rw [hct, if_neg (by decide)] at HW
                go_wp2_with fail
                refine (HOUT.out _ _ HBB.out).mono ?_
                rw [hct]
                rintro e w5 ⟨rfl, rfl⟩
                go_wp2_with (at_builtin; refine wpList_append_own _ rfl _ _ 35 rfl wa.heap.size 2 j0 _ 1 8 Try.underlying35 hj0 jz0 jz1 jz2 rfl (by decide) _ k (((wOut p.fu os).take k).map (Value.int .i64)) rfl (HO3.out.alloc _) ⟨wq.heap.size, 0, none⟩ 1 1 [.int .i64 x] rfl rfl (new_cells _ _ #[_] (by simp)) one_int (by simp only [maxLen]; omega) (by omega) (by simp; omega) ?_)
                intro v' w4 hown1 hgrow1 _
                have HO4 : Hid (w4.ownsRow wa.heap.size 2 1 v' (k + 1) (((wOut p.fu os).take (k + 1)).map (Value.int .i64))) := Lib.hid (by
                  rw [HW.out, List.map_append, List.map_take]
                  exact hown1)
                have HB4 : Hid (Below wa.heap.size wa w4) := Lib.hid ((HB3.out.alloc hsz3 _).grown hgrow1 (by simp; omega) (fun j hj => own_base HO3.out j hj))
                clear hown1 hgrow1
                go_wp2_with fail
                go_roundw
                case rel => exact ⟨k + 1, by omega, by go_num, HO4, HB4⟩
                case measure => simp [intOf]; omega
            · obtain rfl : k = p.fu.length := by omega
              have hO3 := HO3.out
              rw [← wOut_len p.fu os, List.take_length] at hO3
              obtain ⟨A3, c3', rfl⟩ := own_form hO3
              have hq4 := HN2.out
              have hAL := orAllocate_any (planA p os need).2 (wOut p.fu os) A3 c3' wq (by have := HPA.out.lo; have := HPA.out.hi; unfold I64; omega) (fun x hx => by have := wOut_bd HM.out x hx; unfold I64; omega) (Seg.of_own hO3) (by rw [wOut_len]; unfold maxLen; omega)
              rw [wOut_len, HGV.out.err] at hAL
              have HAL : Hid (Calls Try.prog 53 #[.int .i64 (planA p os need).2, .slice A3 p.fu.length c3'] wq (GotO wq (plG p os need) 0)) := Lib.hid hAL
              rw [wOut_len]
              clear hO3 hAL HO3 c0 c2 c3
              go_wp2_with fail
              refine HAL.out.mono ?_
              rintro e w5 ⟨Ag, cg, rfl, hsg, hbg, hfg⟩
              have HB5 : Hid (Below w0.heap.size w0 w5) := Lib.hid (HBB.out.trans (hbg.mono HBB.out.size))
              have HL5 := Lib.hid (own_below HO.out (HB3.out.trans (hbg.mono hsz3)))
              have HNE5 : Hid ((∀ k, (Value.slice Al (planA p os need).1.length cl).ownBlock = some k → (Value.slice Ag (plG p os need).length cg).ownBlock = some k → False) ∧ ∀ k, (Value.slice Ag (plG p os need).length cg).ownBlock = some k → k < w5.heap.size) := Lib.hid ⟨fun k h1 h2 => by
                have := (HO.out.lt k h1).2
                have := (hfg k h2).1
                omega, fun k hk => (hfg k hk).2⟩
              have HSG5 := Lib.hid hsg
              have HGL := Lib.hid (plG_len HM.out HN.out)
              clear hsg hbg hfg HAL HO HB HB3 HBB
              go_wp2_with fail
              go_loopw [2, 7, 14] (fun nd u i wk => ∃ k : Nat, k ≤ (plG p os need).length ∧ i = .int .i64 k ∧ nd = .int .i64 (plZ p os need k).2 ∧ Hid (wk.ownsRow w0.heap.size 47 3 u (plZ p os need k).1.length (dwRows (plZ p os need k).1)) ∧ Hid (Seg wk wk.heap.size Ag ((plG p os need).map (Value.int .i64))) ∧ Hid ((∀ k, u.ownBlock = some k → (Value.slice Ag (plG p os need).length cg).ownBlock = some k → False) ∧ w5.heap.size ≤ wk.heap.size) ∧ Hid (Below w0.heap.size w0 wk)) (fun _ _ i _ => (plG p os need).length - (intOf i).toNat)
              case atStart => exact ⟨0, Nat.zero_le _, rfl, by rw [plZ_zero], by rw [plZ_zero]; exact HL5, HSG5, ⟨HNE5.out.1, Nat.le_refl _⟩, HB5⟩
              case round =>
                obtain ⟨wk, hwk⟩ : ∃ x, x = wr := ⟨_, rfl⟩
                subst hwk
                obtain ⟨k, hk, rfl, rfl, HO, HSG, HNE, HB⟩ := hrel
                have hszk := HB.out.size
                have hgl1 := Nat.le_of_eq HGL.out
                have hgl2 := Nat.le_of_eq HGL.out.symm
                have HPS := plZ_ok HM.out HN.out (k := k) (by omega)
                by_cases hlt4 : k < (plG p os need).length
                · obtain ⟨bg, og, rfl, hbg, hcg⟩ := int_at HSG.out hlt4
                  have HST := Lib.hid (plZ_succ hlt4)
                  have HPT := plZ_ok HM.out HN.out (k := k + 1) (by omega)
                  rw [HST.out] at HPT
                  have hgb := plG_bd HM.out HN.out hlt4
                  have HGW : Hid (∀ n, w5.heap.size ≤ n → bg < n) := Lib.hid fun n hn => Nat.lt_of_lt_of_le (HNE5.out.2 bg rfl) hn
                  have HKG : Hid (∀ W, Below wk.heap.size wk W → W.cell? ⟨bg, og + k, none⟩ = some (.int .i64 (plG p os need)[k])) := Lib.hid fun W hW => (hW.cell (p := ⟨bg, og + k, none⟩) hbg).trans hcg
                  clear hcg
                  generalize (plG p os need)[k] = x at *
                  generalize plZ p os need k = st at *
                  obtain ⟨L, nd⟩ := st
                  obtain ⟨q1, q2, q3⟩ := HPS
                  obtain ⟨r1, r2, r3⟩ := HPT
                  dsimp only at HST q1 q2 q3 r1 r2 r3 HO ⊢
                  have q4 := HN2.out
                  have hw1 : IntKind.i64.wrap (nd - x) = nd - x := IntWalk.i64_in _ (by omega)
                  have hkw : IntKind.i64.wrap ((k : Int) + 1) = (k : Int) + 1 := IntWalk.i64_in _ (by omega)
                  have hkb : (k : Int) < ((plG p os need).length : Int) := by omega
                  obtain ⟨Au, cu, rfl⟩ := own_form HO.out
                  have HNX : Hid (∀ (u' : Value) (w6 : World), wk.drew.grownBy w6 (Value.slice Au L.length cu).ownBlock → (u'.ownBlock = (Value.slice Au L.length cu).ownBlock ∨ u'.ownBlock = some (wk.drew.heap.size + 1)) → w6.cell? ⟨bg, og + k, none⟩ = some (.int .i64 x) ∧ Seg w6 w6.heap.size (some ⟨bg, og, none⟩) ((plG p os need).map (Value.int .i64)) ∧ ((∀ j, u'.ownBlock = some j → (Value.slice (some ⟨bg, og, none⟩) (plG p os need).length cg).ownBlock = some j → False) ∧ w5.heap.size ≤ w6.heap.size)) := Lib.hid fun u' w6 hgr hat => by
                    have hsz6 : wk.heap.size ≤ w6.heap.size := hgr.size
                    have hszd : wk.drew.heap.size = wk.heap.size := rfl
                    refine ⟨(World.cell?_of_block (hgr.block bg hbg fun h => HNE.out.1 bg h.symm rfl)).trans (HKG.out _ (Below.refl _ _).drew), Seg.grown (w := wk.drew) (n := (plG p os need).length) (c := cg) HSG.out hgr HNE.out.1, fun j h1 h2 => ?_, Nat.le_trans HNE.out.2 hsz6⟩
                    rcases hat with h3 | h3
                    · exact HNE.out.1 j (h3.symm.trans h1) h2
                    · have h4 := HNE5.out.2 j h2
                      have h5 := HNE.out.2
                      rw [h3] at h1
                      injection h1 with h1
                      omega
                  have HTK : Hid (∀ u W, W.ownsRow w0.heap.size 47 3 u L.length (dwRows L) → w0.heap.size ≤ W.heap.size → Calls Try.prog 52 #[u, .int .i64 9, .int .i64 ((k : Int) + 1), .int .i64 x, .int .i64 x] W (GotTk w0.heap.size u (tkL L 9 ((k : Int) + 1) x x) (x - min x x) W)) := Lib.hid fun u W h1 h2 => take23_any w0.heap.size u L 9 ((k : Int) + 1) x x W h1 h2 (by omega) (by omega) (by omega)
                  go_wp2_with fail
                  go_region_held3 (fun w' => w'.cell? ⟨bg, og + k, none⟩ = some (.int .i64 x)) (first | (with_reducible exact HKG.out _ (Below.refl _ _).drew) | (with_reducible exact hc6)) ((go_at_call 52; refine (HTK.out _ wk.drew HO.out hszk).mono ?_; rintro e w6 ⟨u', rfl, hown, hbel, hgr, hat⟩; have HO6 := Lib.hid hown; have HB6 : Hid (Below w0.heap.size w0 w6) := Lib.hid (HB.out.drew.trans hbel); obtain ⟨hc6, hsg6, hne6⟩ := HNX.out u' w6 hgr hat; have HSG6 := Lib.hid hsg6; have HNE6 := Lib.hid hne6; clear hsg6 hne6; clear hown hbel hgr hat))
                  go_wp2_with fail
                  go_roundw
                  case rel => exact ⟨k + 1, by omega, by go_num, by rw [HST.out], by rw [HST.out]; exact HO6, HSG6, HNE6, HB6⟩
                  case measure => simp [intOf]; omega
                · obtain rfl : k = (plG p os need).length := by omega
                  obtain ⟨c0, c1, c2, c3⟩ := HX0.out _ HB.out
                  have HPL := Lib.hid (planR_eq p os need (l := (plZ p os need (plG p os need).length).1) (n := (plZ p os need (plG p os need).length).2) (by rw [HGL.out, plZ_all]))
                  have HLN := HM.out.ln0
                  have HCP := HM.out.cp0
                  generalize plZ p os need (plG p os need).length = st at *
                  obtain ⟨L, nd⟩ := st
                  obtain ⟨q1, q2, q3⟩ := HPS
                  dsimp only at HPL q1 q2 q3 HO ⊢
                  have q4 := HN2.out
                  have hL2 : (tkL L 3 0 p.line nd).length ≤ L.length + 1 := by unfold tkL; split <;> simp
                  have HRE : Hid (rl = tkL (tkL L 3 0 p.line nd) 4 0 p.cap (nd - min p.line nd)) := Lib.hid (HRL.out.trans HPL.out)
                  have HT1 := Lib.hid (take23_any w0.heap.size _ L 3 0 p.line nd wk HO.out hszk (by omega) (by omega) (by omega))
                  have HT2 : Hid (∀ u W, W.ownsRow w0.heap.size 47 3 u (tkL L 3 0 p.line nd).length (dwRows (tkL L 3 0 p.line nd)) → w0.heap.size ≤ W.heap.size → Calls Try.prog 52 #[u, .int .i64 4, .int .i64 0, .int .i64 p.cap, .int .i64 (nd - min p.line nd)] W (GotTk w0.heap.size u (tkL (tkL L 3 0 p.line nd) 4 0 p.cap (nd - min p.line nd)) (nd - min p.line nd - min p.cap (nd - min p.line nd)) W)) := Lib.hid fun u W h1 h2 => take23_any w0.heap.size u _ 4 0 p.cap (nd - min p.line nd) W h1 h2 (by omega) (by omega) (by omega)
                  generalize tkL L 3 0 p.line nd = L2 at *
                  generalize tkL L2 4 0 p.cap (nd - min p.line nd) = L3 at *
                  generalize hnd2 : nd - min p.line nd = nd2 at *
                  generalize nd2 - min p.cap nd2 = nd3 at *
                  clear hnd2
                  go_wp2_with fail
                  refine HT1.out.mono ?_
                  rintro e w6 ⟨u6, rfl, hown6, hbel6, -, -⟩
                  have HO6 := Lib.hid hown6
                  have HB6 : Hid (Below w0.heap.size w0 w6) := Lib.hid (HB.out.trans hbel6)
                  have hsz6 := HB6.out.size
                  clear hown6 hbel6 c0 c1 c2 c3 HT1
                  obtain ⟨c0, c1, c2, c3⟩ := HX0.out _ HB6.out
                  go_wp2_with fail
                  refine (HT2.out _ _ HO6.out hsz6).mono ?_
                  rintro e w7 ⟨u7, rfl, hown7, hbel7, -, -⟩
                  obtain ⟨A7, c7, rfl⟩ := own_form hown7
                  have HS7 := Lib.hid (Seg.of_own hown7)
                  have HB7 : Hid (Below w.heap.size w w7) := Lib.hid (HB0.out.trans ((HB6.out.trans hbel7).mono (Nat.le_of_lt hlt0)))
                  clear hown7 hbel7 c0 c1 c2 c3 HT2
                  go_wp2_with fail
                  go_ret
                  exact ⟨A7, c7, by rw [HRE.out]; rfl, by rw [HRE.out]; exact HS7.out, HB7.out⟩
end Go.Proofs.Ytglpnpjjjihghaa
