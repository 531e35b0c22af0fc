/-
  What comp.Join comes to, over this seat's translation: a contract for callers. (Its map's region printed as gen_cw5.py prints Worth's.)
-/
import Derived.Test.YtglpnpjjjihghaaJn1
import Derived.Test.YtglpnpjjjihghaaCw5
namespace Go.Proofs.Ytglpnpjjjihghaa
open Go.RowKit

theorem gatE_two (f : Int → List Int) : ∀ ks : List Int, gatE f ks = 0 ∨ gatE f ks = 2
  | [] => .inl rfl
  | k :: ks => by
    unfold gatE
    split
    · exact gatE_two f ks
    · exact .inr rfl
set_option maxHeartbeats 6400000 in
set_option maxRecDepth 100000 in
theorem Join_any (X Y : List Lg) (A B : Option Addr) (c d : Nat) (w : World) (hA : LgSrc w A c X) (hB : LgSrc w B d Y) (hX : X.length ≤ 500) (hY : Y.length ≤ 500) (hIX : ∀ y ∈ X, I64 y.m ∧ I64 y.n) (hIY : ∀ y ∈ Y, I64 y.m ∧ I64 y.n) :
    Calls Try.prog 32 #[.slice A X.length c, .slice B Y.length d] w (JoinP X Y w) := by
  have HCA : Hid (∀ W, Below w.heap.size w W → Calls Try.prog 57 #[.slice A X.length c] W fun e w' => e = .returned (.int .i64 (clmE X)) ∧ Below W.heap.size W w') := Lib.hid fun W hW => clm_any X A c W (hA.below hW).seg (fun y hy => (hIX y hy).2) (by omega)
  have HCB : Hid (∀ W, Below w.heap.size w W → Calls Try.prog 57 #[.slice B Y.length d] W fun e w' => e = .returned (.int .i64 (clmE Y)) ∧ Below W.heap.size W w') := Lib.hid fun W hW => clm_any Y B d W (hB.below hW).seg (fun y hy => (hIY y hy).2) (by omega)
  have HKA : Hid (∀ W, Below w.heap.size w W → Calls Try.prog 58 #[.slice A X.length c] W fun e w' => e = .returned (.int .i64 (chkcE X)) ∧ Below W.heap.size W w') := Lib.hid fun W hW => check27_any X A c W (hA.below hW).seg (fun y hy => (hIX y hy).2) (by omega)
  have HKB : Hid (∀ W, Below w.heap.size w W → Calls Try.prog 58 #[.slice B Y.length d] W fun e w' => e = .returned (.int .i64 (chkcE Y)) ∧ Below W.heap.size W w') := Lib.hid fun W hW => check27_any Y B d W (hB.below hW).seg (fun y hy => (hIY y hy).2) (by omega)
  have HB1 : Hid (Below w.heap.size w (w.alloc (.cells #[.slice A X.length c, .slice B Y.length d] 27))) := Lib.hid ((Below.refl _ _).alloc (Nat.le_refl _) _)
  have g0 : (w.alloc (.cells #[.slice A X.length c, .slice B Y.length d] 27)).cell? ⟨w.heap.size, 0, none⟩ = some (.slice A X.length c) := by rw [cell_new _ _ _ _ rfl]; rfl
  have g1 : (w.alloc (.cells #[.slice A X.length c, .slice B Y.length d] 27)).cell? ⟨w.heap.size, 1, none⟩ = some (.slice B Y.length d) := by rw [cell_new _ _ _ _ rfl]; rfl
  have hw1s : w.heap.size < (w.alloc (.cells #[.slice A X.length c, .slice B Y.length d] 27)).heap.size := by simp
  have HA := Lib.hid hA
  have HB := Lib.hid hB
  have HIX := Lib.hid hIX
  have HIY := Lib.hid hIY
  clear hA hB hIX hIY
  have hmm := @run_makeMap Try.prog
  go_enter Try.func32, Try.ntmps32
  go_wp2_with fail
  have G0 := Lib.hid g0
  have G1 := Lib.hid g1
  generalize w.alloc (.cells #[.slice A X.length c, .slice B Y.length d] 27) = w1 at *
  refine wp_loop_rounds 3 ?_
  rw [rounds_succ]
  go_wp2_with fail
  refine (HCA.out _ HB1.out).mono ?_
  rintro e w2 ⟨rfl, hb2⟩
  have HB2 : Hid (Below w.heap.size w w2) := Lib.hid (HB1.out.trans (hb2.mono HB1.out.size))
  have r0 : w2.cell? ⟨w.heap.size, 0, none⟩ = some (.slice A X.length c) := (hb2.cell (p := ⟨w.heap.size, 0, none⟩) hw1s).trans G0.out
  have r1 : w2.cell? ⟨w.heap.size, 1, none⟩ = some (.slice B Y.length d) := (hb2.cell (p := ⟨w.heap.size, 1, none⟩) hw1s).trans G1.out
  have hw2s : w.heap.size < w2.heap.size := by have := hb2.size; omega
  have R1 := Lib.hid r1
  clear hb2 HB1 G0 G1 hw1s
  rcases jn_cases X Y with ⟨h1, h2⟩ | ⟨h1, h2, h3⟩ | ⟨h1, h2, h3, h4⟩ | ⟨h1, h2, h3, h4, h5⟩ | ⟨h1, h2, h3, h4, h5⟩
  · have HE := Lib.hid h2
    have HN : Hid (jnE X Y ≠ 0) := Lib.hid (by rw [h2]; exact h1)
    clear h2
    go_wp2_with fail
    go_ret2
    exact Or.inl ⟨HN.out, none, 0, by rw [HE.out]; rfl, Seg.nil, HB2.out⟩
  all_goals
    rw [h1]
    go_wp2_with fail
    rw [rounds_succ]
    go_wp2_with fail
    refine (HCB.out _ HB2.out).mono ?_
    rintro e w3 ⟨rfl, hb3⟩
    have HB3 : Hid (Below w.heap.size w w3) := Lib.hid (HB2.out.trans (hb3.mono HB2.out.size))
    clear hb3 HB2 r0 r1 hw2s R1
  · have HE := Lib.hid h3
    have HN : Hid (jnE X Y ≠ 0) := Lib.hid (by rw [h3]; exact h2)
    clear h3
    go_wp2_with fail
    go_ret2
    exact Or.inl ⟨HN.out, none, 0, by rw [HE.out]; rfl, Seg.nil, HB3.out⟩
  all_goals
    rw [h2]
    go_wp2_with fail
    rw [rounds_succ]
    go_wp2_with fail
    refine (HKA.out _ HB3.out).mono ?_
    rintro e w4 ⟨rfl, hb4⟩
    have HB4 : Hid (Below w.heap.size w w4) := Lib.hid (HB3.out.trans (hb4.mono HB3.out.size))
    clear hb4 HB3
  · have HK : chkcE X = 1 := by unfold chkcE; rw [if_neg (by omega), if_pos h3]
    rw [HK]
    have HE := Lib.hid h4
    have HN : Hid (jnE X Y ≠ 0) := Lib.hid (by rw [h4]; decide)
    clear h4 HK
    go_wp2_with fail
    go_ret2
    exact Or.inl ⟨HN.out, none, 0, by rw [HE.out]; rfl, Seg.nil, HB4.out⟩
  all_goals
    rw [show chkcE X = 0 from by unfold chkcE; rw [if_neg (by omega), if_neg (by rw [h3]; decide)]]
    go_wp2_with fail
    refine (HKB.out _ HB4.out).mono ?_
    rintro e w5 ⟨rfl, hb5⟩
    have HB5 : Hid (Below w.heap.size w w5) := Lib.hid (HB4.out.trans (hb5.mono HB4.out.size))
    clear hb5 HB4
  · have HK : chkcE Y = 1 := by unfold chkcE; rw [if_neg (by omega), if_pos h4]
    rw [HK]
    have HE := Lib.hid h5
    have HN : Hid (jnE X Y ≠ 0) := Lib.hid (by rw [h5]; decide)
    clear h5 HK
    go_wp2_with fail
    go_ret2
    exact Or.inl ⟨HN.out, none, 0, by rw [HE.out]; rfl, Seg.nil, HB5.out⟩
  · rw [show chkcE Y = 0 from by unfold chkcE; rw [if_neg (by omega), if_neg (by rw [h4]; decide)]]
    go_wp2_with fail
    obtain ⟨L, hL⟩ : ∃ L, L = X ++ Y := ⟨_, rfl⟩
    have HL := Lib.hid hL
    have hb6 : Below w5.heap.size w5 ((w5.alloc (.map #[] 0)).alloc (.cells #[.slice A X.length c, .slice B Y.length d] 27)) := ((Below.refl _ _).alloc (Nat.le_refl _) _).alloc (by simp) _
    have HCC := Lib.hid (concatL_any X Y A B c d (w5.heap.size + 1) _ (HA.out.below (HB5.out.trans (hb6.mono HB5.out.size))) (HB.out.below (HB5.out.trans (hb6.mono HB5.out.size))) (by rw [cell_new _ _ _ _ (by simp)]; rfl) (by rw [cell_new _ _ _ _ (by simp)]; rfl) (by simp) (by omega) (by omega))
    have hg7 := Grp.made w5
    have hs7 : ((w5.alloc (.map #[] 0)).alloc (.cells #[.slice A X.length c, .slice B Y.length d] 27)).heap.size = w5.heap.size + 2 := by simp
    have hb7 : Below w5.heap.size (w5.alloc (.map #[] 0)) ((w5.alloc (.map #[] 0)).alloc (.cells #[.slice A X.length c, .slice B Y.length d] 27)) := (Below.refl _ _).alloc (by simp) _
    have hgr7 := hg7.below (B := (w5.alloc (.map #[] 0)).heap.size) (Nat.le_refl _) ((Below.refl _ _).alloc (Nat.le_refl _) (.cells #[.slice A X.length c, .slice B Y.length d] 27))
    rw [← hL] at HCC
    have HS7 := Lib.hid hs7
    have HG7 := Lib.hid hgr7
    have HB6 := Lib.hid hb6
    clear hb6 hg7 hs7 hb7 hgr7 hL
    have hLl : L.length ≤ 1000 := by rw [HL.out, List.length_append]; omega
    have HIL : Hid (∀ y ∈ L, I64 y.m ∧ I64 y.n) := Lib.hid fun y hy => by
      rw [HL.out] at hy
      rcases List.mem_append.1 hy with h | h
      · exact HIX.out y h
      · exact HIY.out y h
    refine HCC.out.mono ?_
    rintro e w7 ⟨A7, c7, rfl, hO7, hb7⟩
    have HJ0 : Hid (JI L w w7 w5.heap.size (w5.heap.size + 2) 0 (.slice A7 L.length c7) []) := Lib.hid ⟨by
      rw [show amtF (L.take 0) = fun _ => [] from by funext q; simp [amtF]]
      exact HG7.out.below (Nat.le_refl _) hb7, Nat.le_refl _, fun q => by simp, by rw [← HS7.out]; exact hO7, by omega, HB5.out.size, HB5.out.trans ((HB6.out.trans (hb7.mono (by rw [HS7.out]; omega))).mono HB5.out.size)⟩
    have hmm2 := hmm
    clear hmm hmm2 hO7 hb7 HCC HG7 HB6 HS7
    generalize w5.heap.size = b at *
    generalize b + 2 = lo at *
    clear HB5
    go_wp2_with fail
    go_loopw [48] (fun i wr => ∃ k : Nat, k ≤ L.length ∧ i = .int .i64 k ∧ Hid (∃ m, JI L w wr b lo k (.slice A7 L.length c7) m)) (fun i _ => L.length - (intOf i).toNat)
    case atStart => exact ⟨0, Nat.zero_le _, rfl, _, HJ0.out⟩
    case round =>
      clear HJ0
      obtain ⟨k, hk, rfl, HM⟩ := hrel
      obtain ⟨m, hm⟩ := HM.out
      have HW := Lib.hid hm
      have hsz := hm.b.size
      clear hm HM
      by_cases hlt : k < L.length
      · obtain ⟨b', o, rfl, hb', d0, d1, d2⟩ := lg_at (Seg.of_own HW.out.own) hlt
        obtain ⟨hm1, hm2⟩ := HIL.out _ (List.getElem_mem hlt)
        obtain ⟨q, hq⟩ : ∃ q, q = L[k].m := ⟨_, rfl⟩
        obtain ⟨wv, hn⟩ : ∃ n, n = L[k].n := ⟨_, rfl⟩
        obtain ⟨av, hav⟩ : ∃ a, a = L[k].a := ⟨_, rfl⟩
        rw [← hq] at d0 hm1
        rw [← hn] at d2 hm2
        rw [← hav] at d1
        have HQ := Lib.hid (And.intro hq hn)
        clear hq hn hav
        go_wp2_with fail
        have hgb : wr.heap.size < (wr.alloc (.cells #[.int .i64 q, .int .i64 av, .int .i64 wv] 75)).heap.size := by simp
        have HQ2 : Hid ((wr.alloc (.cells #[.int .i64 q, .int .i64 av, .int .i64 wv] 75)).cell? ⟨wr.heap.size, 0, none⟩ = some (.int .i64 q) ∧ (wr.alloc (.cells #[.int .i64 q, .int .i64 av, .int .i64 wv] 75)).cell? ⟨wr.heap.size, 2, none⟩ = some (.int .i64 wv)) := Lib.hid ⟨by rw [cell_new _ _ _ _ rfl]; rfl, by rw [cell_new _ _ _ _ rfl]; rfl⟩
        have HW2 : Hid (JI L w (wr.alloc (.cells #[.int .i64 q, .int .i64 av, .int .i64 wv] 75)) b lo k (.slice (some ⟨b', o, none⟩) L.length c7) m) := Lib.hid (HW.out.below ((Below.refl _ _).alloc (Nat.le_refl _) _))
        have HSO : Hid (some wr.heap.size ≠ (slotV q m).ownBlock) := Lib.hid fun e => by have := ((HW.out.g.slot q).lt _ e.symm).2; omega
        have HGN : Hid (wr.heap.size ≠ b) := Lib.hid (by have := HW.out.g.map.lt; omega)
        clear d0 d1 d2
        generalize wr.alloc (.cells #[.int .i64 q, .int .i64 av, .int .i64 wv] 75) = w2 at *
        generalize wr.heap.size = gb at *
        have hM2 := HW2.out.g.map
        have HLK : Hid (∀ W, MapAt Try.prog 3 encI W b m → (Instr.lookup 79 (.map (some b)) (.int .i64 q) false).run Try.prog W = .ok (slotV q m) W) := Lib.hid fun W hW => MapAt.look (P := Try.prog) false i_enc Try.underlying79 (z := .slice none 0 0) (by kernel_rfl) hW HW2.out.g.dom hm1
        refine wp_region_held_drew (S := fun w' => w'.cell? ⟨gb, 0, none⟩ = some (.int .i64 q) ∧ w'.cell? ⟨gb, 2, none⟩ = some (.int .i64 wv)) (by kernel_rfl) ?_ (fun hHeld => ?_)
        · exact HQ2.out
        · obtain ⟨i0, hi0, hz0, hz1', hz2⟩ := info_parts i64_info4
          have hfl : (amtF (L.take k) q).length ≤ 1000 := by have := (amtF_ok (L := L.take k) (fun y hy => (HIL.out y (List.mem_of_mem_take hy)).2) q).1; rw [List.length_take] at this; omega
          have hbs : b + 1 ≤ w2.heap.size := by have := hM2.lt; omega
          refine wpAnyH_take (i := 0) (v := .map (some b)) rfl (by kernel_rfl) (by kernel_rfl) (by kernel_rfl) (fun _ _ _ h => h) (Or.inl ⟨by rfl, fun w' hSw => by obtain ⟨hSw1, hSw2⟩ := hSw; go_simp⟩) hHeld ?_
          refine wpAnyH_take (i := 1) (v := .pointer (some ⟨gb, 0, none⟩)) rfl (by kernel_rfl) (by kernel_rfl) (by kernel_rfl) (fun _ _ _ h => h) (Or.inl ⟨by rfl, fun w' hSw => by obtain ⟨hSw1, hSw2⟩ := hSw; go_simp⟩) hHeld ?_
          refine wpAnyH_take (i := 2) (v := .int .i64 q) rfl (by kernel_rfl) (by kernel_rfl) (by kernel_rfl) (fun _ _ _ h => h) (Or.inl ⟨by rfl, fun w' hSw => by obtain ⟨hSw1, hSw2⟩ := hSw; go_simp⟩) hHeld ?_
          refine wpAnyH_take (i := 3) (v := .map (some b)) rfl (by kernel_rfl) (by kernel_rfl) (by kernel_rfl) (fun _ _ _ h => h) (Or.inl ⟨by rfl, fun w' hSw => by obtain ⟨hSw1, hSw2⟩ := hSw; go_simp⟩) hHeld ?_
          refine wpAnyH_take (i := 4) (v := .pointer (some ⟨gb, 0, none⟩)) rfl (by kernel_rfl) (by kernel_rfl) (by kernel_rfl) (fun _ _ _ h => h) (Or.inl ⟨by rfl, fun w' hSw => by obtain ⟨hSw1, hSw2⟩ := hSw; go_simp⟩) hHeld ?_
          refine wpAnyH_take (i := 5) (v := .int .i64 q) rfl (by kernel_rfl) (by kernel_rfl) (by kernel_rfl) (fun _ _ _ h => h) (Or.inl ⟨by rfl, fun w' hSw => by obtain ⟨hSw1, hSw2⟩ := hSw; go_simp⟩) hHeld ?_
          refine wpAnyH_take (i := 7) (v := .pointer (some ⟨gb, 2, none⟩)) rfl (by kernel_rfl) (by kernel_rfl) (by kernel_rfl) (fun _ _ _ h => h) (Or.inl ⟨by rfl, fun w' hSw => by obtain ⟨hSw1, hSw2⟩ := hSw; go_simp⟩) hHeld ?_
          refine wpAnyH_take (i := 8) (v := .int .i64 wv) rfl (by kernel_rfl) (by kernel_rfl) (by kernel_rfl) (fun _ _ _ h => h) (Or.inl ⟨by rfl, fun w' hSw => by obtain ⟨hSw1, hSw2⟩ := hSw; go_simp⟩) hHeld ?_
          refine wpAnyH_ready (rs := [6, 9]) (by kernel_rfl) (by simp) ?_
          refine AllReadyH.cons rfl (fun K hK => ?_) (AllReadyH.cons rfl (fun K hK => ?_) AllReadyH.nil)
          · have hlk := HLK.out _ hM2.drew
            go_simp
            refine hK.out _ _ hHeld (fun hHeld => ?_)
            clear hK K hlk
            refine wpAnyH_ready (rs := [9]) (by kernel_rfl) (by simp) ?_
            refine AllReadyH.cons rfl (fun K hK => ?_) AllReadyH.nil
            go_simp
            refine hK.out _ _ ⟨(World.cell?_of_block (w := w2) (heap_alloc_old' _ _ hgb)).trans HQ2.out.1, (World.cell?_of_block (w := w2) (heap_alloc_old' _ _ hgb)).trans HQ2.out.2⟩ (fun hHeld => ?_)
            clear hK K
            refine wpAnyH_ready (rs := [10]) (by kernel_rfl) (by simp) ?_
            refine AllReadyH.cons rfl (fun K hK => ?_) AllReadyH.nil
            refine step_append_lies _ rfl (.tmp 58) (.tmp 61) 35 rfl (b + 1) 2 i0 _ 1 8 Try.underlying35 hi0 hz0 hz1' hz2 rfl (by decide) (slotV q m) _ _ rfl ((HW2.out.g.slot q).alloc _) ⟨w2.heap.size, 0, none⟩ 1 1 [.int .i64 wv] rfl rfl (new_cells _ _ #[_] (by simp)) (by intro u hu; simp at hu; rw [hu]; rfl) (by decide) (by simp only [maxLen]; omega) (by omega) (by simp; omega) (w2.heap.size + 1) (by simp) ?_
            intro g cap w4 hown4 hgr4 hat4 _
            have hg24 : w2.grownBy w4 (slotV q m).ownBlock := (World.grownBy_alloc w2 (.cells #[.int .i64 wv] 2) _).trans (c := w4) ⟨hgr4.os, hgr4.tape, hgr4.output, hgr4.size, hgr4.block⟩
            have hq4 : w4.cell? ⟨gb, 0, none⟩ = some (.int .i64 q) ∧ w4.cell? ⟨gb, 2, none⟩ = some (.int .i64 wv) := ⟨(World.cell?_of_block (a := ⟨gb, 0, none⟩) (hg24.block gb hgb HSO.out)).trans HQ2.out.1, (World.cell?_of_block (a := ⟨gb, 2, none⟩) (hg24.block gb hgb HSO.out)).trans HQ2.out.2⟩
            refine hK.out _ _ hq4 (fun hHeld => ?_)
            clear hK K
            refine wpAnyH_ready (rs := [11]) (by kernel_rfl) (by simp) ?_
            refine AllReadyH.cons rfl (fun K hK => ?_) AllReadyH.nil
            obtain ⟨w5, hrun, hG5, hg5⟩ := Grp.put (v' := .slice (some ⟨g, 0, none⟩) ((amtF (L.take k) q).length + 1) cap) (ys := amtF (L.take k) q ++ [wv]) Try.underlying79 HW2.out.g hm1 hg24 (by rw [List.length_append, List.map_append]; exact hown4) (by
              rcases hat4 with e | e
              · exact .inl e.symm
              · exact .inr ⟨g, rfl, by omega⟩)
            refine step_mapUpdate rfl _ (.tmp 52) (.tmp 54) (.tmp 62) rfl rfl rfl rfl (R := fun W => W = w5) ⟨w5, hrun, rfl⟩ ?_
            rintro w6 rfl
            refine hK.out _ _ ⟨(World.cell?_of_block (a := ⟨gb, 0, none⟩) (hg5.block gb (Nat.lt_of_lt_of_le hgb hg24.size) (fun e => HGN.out (Option.some.inj e)))).trans hq4.1, (World.cell?_of_block (a := ⟨gb, 2, none⟩) (hg5.block gb (Nat.lt_of_lt_of_le hgb hg24.size) (fun e => HGN.out (Option.some.inj e)))).trans hq4.2⟩ (fun hHeld => ?_)
            clear hK K hHeld
            refine wpAnyH_done (by kernel_rfl) ?_ _
            have HW5 : Hid (∃ m', JI L w w6 b lo (k + 1) (.slice (some ⟨b', o, none⟩) L.length c7) m') := Lib.hid ⟨_, HW2.out.step (w4 := w4) (v' := .slice (some ⟨g, 0, none⟩) ((amtF (L.take k) q).length + 1) cap) hlt (by rw [← HQ.out.1]; exact hg24) (by rw [← HQ.out.1, ← HQ.out.2]; exact hG5) hg5⟩
            clear hown4 hgr4 hat4 hg24 hq4 hG5 hg5 hrun
            go_wp2_with fail
            go_roundw
            case rel => exact ⟨k + 1, by omega, by go_num, HW5⟩
            case measure => simp [intOf]; omega
          · go_simp
            refine hK.out _ _ ⟨(World.cell?_of_block (w := w2) (heap_alloc_old' _ _ hgb)).trans HQ2.out.1, (World.cell?_of_block (w := w2) (heap_alloc_old' _ _ hgb)).trans HQ2.out.2⟩ (fun hHeld => ?_)
            clear hK K
            refine wpAnyH_ready (rs := [6]) (by kernel_rfl) (by simp) ?_
            refine AllReadyH.cons rfl (fun K hK => ?_) AllReadyH.nil
            have hlk := HLK.out _ (hM2.alloc (.cells #[.int .i64 wv] 2)).drew
            go_simp
            refine hK.out _ _ hHeld (fun hHeld => ?_)
            clear hlk
            clear hK K
            refine wpAnyH_ready (rs := [10]) (by kernel_rfl) (by simp) ?_
            refine AllReadyH.cons rfl (fun K hK => ?_) AllReadyH.nil
            refine step_append_lies _ rfl (.tmp 58) (.tmp 61) 35 rfl (b + 1) 2 i0 _ 1 8 Try.underlying35 hi0 hz0 hz1' hz2 rfl (by decide) (slotV q m) _ _ rfl ((HW2.out.g.slot q).alloc _) ⟨w2.heap.size, 0, none⟩ 1 1 [.int .i64 wv] rfl rfl (new_cells _ _ #[_] (by simp)) (by intro u hu; simp at hu; rw [hu]; rfl) (by decide) (by simp only [maxLen]; omega) (by omega) (by simp; omega) (w2.heap.size + 1) (by simp) ?_
            intro g cap w4 hown4 hgr4 hat4 _
            have hg24 : w2.grownBy w4 (slotV q m).ownBlock := (World.grownBy_alloc w2 (.cells #[.int .i64 wv] 2) _).trans (c := w4) ⟨hgr4.os, hgr4.tape, hgr4.output, hgr4.size, hgr4.block⟩
            have hq4 : w4.cell? ⟨gb, 0, none⟩ = some (.int .i64 q) ∧ w4.cell? ⟨gb, 2, none⟩ = some (.int .i64 wv) := ⟨(World.cell?_of_block (a := ⟨gb, 0, none⟩) (hg24.block gb hgb HSO.out)).trans HQ2.out.1, (World.cell?_of_block (a := ⟨gb, 2, none⟩) (hg24.block gb hgb HSO.out)).trans HQ2.out.2⟩
            refine hK.out _ _ hq4 (fun hHeld => ?_)
            clear hK K
            refine wpAnyH_ready (rs := [11]) (by kernel_rfl) (by simp) ?_
            refine AllReadyH.cons rfl (fun K hK => ?_) AllReadyH.nil
            obtain ⟨w5, hrun, hG5, hg5⟩ := Grp.put (v' := .slice (some ⟨g, 0, none⟩) ((amtF (L.take k) q).length + 1) cap) (ys := amtF (L.take k) q ++ [wv]) Try.underlying79 HW2.out.g hm1 hg24 (by rw [List.length_append, List.map_append]; exact hown4) (by
              rcases hat4 with e | e
              · exact .inl e.symm
              · exact .inr ⟨g, rfl, by omega⟩)
            refine step_mapUpdate rfl _ (.tmp 52) (.tmp 54) (.tmp 62) rfl rfl rfl rfl (R := fun W => W = w5) ⟨w5, hrun, rfl⟩ ?_
            rintro w6 rfl
            refine hK.out _ _ ⟨(World.cell?_of_block (a := ⟨gb, 0, none⟩) (hg5.block gb (Nat.lt_of_lt_of_le hgb hg24.size) (fun e => HGN.out (Option.some.inj e)))).trans hq4.1, (World.cell?_of_block (a := ⟨gb, 2, none⟩) (hg5.block gb (Nat.lt_of_lt_of_le hgb hg24.size) (fun e => HGN.out (Option.some.inj e)))).trans hq4.2⟩ (fun hHeld => ?_)
            clear hK K hHeld
            refine wpAnyH_done (by kernel_rfl) ?_ _
            have HW5 : Hid (∃ m', JI L w w6 b lo (k + 1) (.slice (some ⟨b', o, none⟩) L.length c7) m') := Lib.hid ⟨_, HW2.out.step (w4 := w4) (v' := .slice (some ⟨g, 0, none⟩) ((amtF (L.take k) q).length + 1) cap) hlt (by rw [← HQ.out.1]; exact hg24) (by rw [← HQ.out.1, ← HQ.out.2]; exact hG5) hg5⟩
            clear hown4 hgr4 hat4 hg24 hq4 hG5 hg5 hrun
            go_wp2_with fail
            go_roundw
            case rel => exact ⟨k + 1, by omega, by go_num, HW5⟩
            case measure => simp [intOf]; omega
      · obtain rfl : k = L.length := by omega
        have hg := HW.out.g
        have hml := HW.out.len
        rw [List.take_length] at hg
        have HGA := Lib.hid (gather_any hg (by omega) fun q => ⟨by have := (amtF_ok (L := L) (fun y hy => (HIL.out y hy).2) q).1; omega, (amtF_ok (L := L) (fun y hy => (HIL.out y hy).2) q).2⟩)
        have HR : Hid ((keysL m).Pairwise (· < ·) ∧ ∀ q, q ∈ keysL m ↔ ∃ y ∈ L, y.m = q) := Lib.hid ⟨keysL_rising hg.map.apart, fun q => by
          rw [keysL_mem]
          have := HW.out.ks q
          rw [List.take_length] at this
          exact this⟩
        have HSX : Hid (∀ W, Below w.heap.size w W → Calls Try.prog 60 #[.slice A X.length c] W fun e w' => e = .returned (.tuple #[.int .i64 (sumI (amts X)), .int .i64 0]) ∧ Below W.heap.size W w') := Lib.hid fun W hW => by
          have := asum_any X A c W (HA.out.below hW).seg (fun y hy => (HIX.out y hy).2) (by omega)
          rw [show sumV X = sumI (amts X) from by unfold sumV; rw [if_pos h1], h1] at this
          exact this
        have HSY : Hid (∀ W, Below w.heap.size w W → Calls Try.prog 60 #[.slice B Y.length d] W fun e w' => e = .returned (.tuple #[.int .i64 (sumI (amts Y)), .int .i64 0]) ∧ Below W.heap.size W w') := Lib.hid fun W hW => by
          have := asum_any Y B d W (HB.out.below hW).seg (fun y hy => (HIY.out y hy).2) (by omega)
          rw [show sumV Y = sumI (amts Y) from by unfold sumV; rw [if_pos h2], h2] at this
          exact this
        have HXI : Hid (I64 (sumI (amts X))) := Lib.hid (clmE_ok h1).2.2
        have HYI : Hid (I64 (sumI (amts Y))) := Lib.hid (clmE_ok h2).2.2
        have HJE := Lib.hid h5
        have HT : Hid (jnT X Y = sumI (amts X) + sumI (amts Y)) := Lib.hid rfl
        have hsz := HW.out.b.size
        by_cases hT : I64 (jnT X Y)
        · have hE := gatE_all (f := amtF L) (ks := keysL m) fun j hj => by rw [HL.out]; exact jn_sums h1 h2 hT _
          have hLL : gatL (amtF L) (keysL m) = gatR (amtF L) (keysL m) := by unfold gatL; rw [if_pos hE]
          rw [hE, hLL] at HGA
          have HJZ : Hid (jnE X Y = 0) := Lib.hid (by rw [h5]; exact (amt_in hT).2)
          have hV := (amt_in hT).1
          have hV2 := (amt_in hT).2
          rw [HT.out] at hV hV2
          have HV := Lib.hid (And.intro hV hV2)
          clear hg hml hE hLL hT hV hV2 h1 h2 h3 h4 h5
          generalize sumI (amts X) = sx at *
          generalize sumI (amts Y) = sy at *
          go_wp2_with fail
          refine HGA.out.mono ?_
          rintro e w8 ⟨A8, c8, rfl, hs8, hb8⟩
          have HS8 := Lib.hid hs8
          have HB8 : Hid (Below w.heap.size w w8) := Lib.hid (HW.out.b.trans (hb8.mono hsz))
          clear hs8 hb8
          go_wp2_with fail
          refine (HSX.out _ HB8.out).mono ?_
          rintro e w9 ⟨rfl, hb9⟩
          have HB9 : Hid (Below w.heap.size w w9) := Lib.hid (HB8.out.trans (hb9.mono HB8.out.size))
          have HS9 := Lib.hid ((HS8.out.below hb9).mono hb9.size)
          clear hb9
          go_wp2_with fail
          refine (HSY.out _ HB9.out).mono ?_
          rintro e w10 ⟨rfl, hb10⟩
          have HB10 : Hid (Below w.heap.size w w10) := Lib.hid (HB9.out.trans (hb10.mono HB9.out.size))
          have HS10 := Lib.hid ((HS9.out.below hb10).mono hb10.size)
          clear hb10
          go_wp2_with fail
          refine (add27_any _ _ _ HXI.out HYI.out).mono ?_
          rintro e w11 ⟨rfl, rfl⟩
          rw [HV.out.1, HV.out.2]
          go_wp2_with fail
          go_ret2
          exact Or.inr ⟨HJZ.out, _, HR.out.1, by rw [← HL.out]; exact HR.out.2, A8, c8, by rw [← HL.out]; rfl, by rw [← HL.out]; exact HS10.out, HB10.out⟩
        · have HJZ : Hid (jnE X Y = 2) := Lib.hid (by rw [h5]; exact (amt_out hT).2)
          have HV := Lib.hid (amt_out hT)
          rw [HT.out] at HV
          rcases gatE_two (amtF L) (keysL m) with hE | hE
          · rw [hE] at HGA
            clear hg hml hE hT h1 h2 h3 h4 h5
            generalize sumI (amts X) = sx at *
            generalize sumI (amts Y) = sy at *
            generalize gatL (amtF L) (keysL m) = gl at *
            go_wp2_with fail
            refine HGA.out.mono ?_
            rintro e w8 ⟨A8, c8, rfl, hs8, hb8⟩
            have HS8 := Lib.hid hs8
            have HB8 : Hid (Below w.heap.size w w8) := Lib.hid (HW.out.b.trans (hb8.mono hsz))
            clear hs8 hb8
            go_wp2_with fail
            refine (HSX.out _ HB8.out).mono ?_
            rintro e w9 ⟨rfl, hb9⟩
            have HB9 : Hid (Below w.heap.size w w9) := Lib.hid (HB8.out.trans (hb9.mono HB8.out.size))
            have HS9 := Lib.hid ((HS8.out.below hb9).mono hb9.size)
            clear hb9
            go_wp2_with fail
            refine (HSY.out _ HB9.out).mono ?_
            rintro e w10 ⟨rfl, hb10⟩
            have HB10 : Hid (Below w.heap.size w w10) := Lib.hid (HB9.out.trans (hb10.mono HB9.out.size))
            have HS10 := Lib.hid ((HS9.out.below hb10).mono hb10.size)
            clear hb10
            go_wp2_with fail
            refine (add27_any _ _ _ HXI.out HYI.out).mono ?_
            rintro e w11 ⟨rfl, rfl⟩
            rw [HV.out.1, HV.out.2]
            go_wp2_with fail
            go_ret2
            exact Or.inl ⟨by rw [HJZ.out]; decide, none, 0, by rw [HJZ.out]; rfl, Seg.nil, HB10.out⟩
          · rw [hE] at HGA
            have hGL : gatL (amtF L) (keysL m) = [] := by unfold gatL; rw [hE, if_neg (by decide)]
            rw [hGL] at HGA
            clear hg hml hE hT h1 h2 h3 h4 h5 hGL
            go_wp2_with fail
            refine HGA.out.mono ?_
            rintro e w8 ⟨A8, c8, rfl, hs8, hb8⟩
            have HB8 : Hid (Below w.heap.size w w8) := Lib.hid (HW.out.b.trans (hb8.mono hsz))
            clear hs8 hb8
            go_wp2_with fail
            go_ret2
            exact Or.inl ⟨by rw [HJZ.out]; decide, none, 0, by rw [HJZ.out]; rfl, Seg.nil, HB8.out⟩
end Go.Proofs.Ytglpnpjjjihghaa
