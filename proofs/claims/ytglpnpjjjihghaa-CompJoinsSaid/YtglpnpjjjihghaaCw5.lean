/-
  What comp.Worth comes to, over this seat's translation: a contract for callers. (Printed by wip/gen_cw5.py.)
-/
import Derived.Test.YtglpnpjjjihghaaCw4
import Derived.Deep.LoopGhost
import Derived.Deep.AppendLies
import Derived.Deep.RegionHeld3
import Derived.Laws.EntriesVeiled
namespace Go.Proofs.Ytglpnpjjjihghaa
open Go.RowKit

theorem keysL_rising {m : List (Int × Value)} (h : Apart m) : (keysL m).Pairwise (· < ·) := by
  have h1 : (keysL m).Pairwise fun a b => decide (a ≤ b) = true := List.pairwise_mergeSort (fun a b c h1 h2 => by simp only [decide_eq_true_eq] at *; omega) (fun a b => by simp only [Bool.or_eq_true, decide_eq_true_eq]; omega) _
  have h2 : (keysL m).Pairwise (· ≠ ·) := ((List.mergeSort_perm _ _).pairwise_iff (fun {_ _} hne => Ne.symm hne)).2 (List.pairwise_map.2 h)
  exact (h1.and h2).imp fun {a b} h => by
    have := h.1
    simp only [decide_eq_true_eq] at this
    have := h.2
    omega
theorem keysL_mem {m : List (Int × Value)} (q : Int) : q ∈ keysL m ↔ ∃ p ∈ m, p.1 = q := by
  rw [show (q ∈ keysL m) = (q ∈ m.map (·.1)) from propext (List.mergeSort_perm _ _).mem_iff, List.mem_map]
theorem wthV_I64 (x : Cfg) (a n : Int) : I64 (wthV x a n) := by
  unfold wthV
  split
  · split
    · unfold I64; omega
    · exact amtV_I64 _
  · unfold I64; omega
theorem wthF_ok (x : Cfg) (L : List Lg) (q : Int) : (wthF x L q).length ≤ L.length ∧ ∀ z ∈ wthF x L q, I64 z := by
  unfold wthF
  refine ⟨by rw [List.length_map]; exact List.length_filter_le _ _, fun z hz => ?_⟩
  obtain ⟨y, _, rfl⟩ := List.mem_map.1 hz
  exact wthV_I64 _ _ _
set_option maxHeartbeats 3200000 in
set_option maxRecDepth 100000 in
theorem Worth_any (x : Cfg) (L : List Lg) (A : Option Addr) (c : Nat) (w : World) (hc : CfOk w x) (hs : Seg w w.heap.size A (lgRows L)) (hl : L.length ≤ 1000) (hI : ∀ y ∈ L, I64 y.m ∧ I64 y.a ∧ I64 y.n) (hp : ∀ i, I64 (secP x i).a) :
    Calls Try.prog 12 #[x.val, .slice A L.length c] w (WorthP x L w) := by
  have HC := Lib.hid hc
  have HS := Lib.hid hs
  have HI := Lib.hid hI
  have HP := Lib.hid hp
  have HW0 : Hid (∀ W, W = (w.alloc (.cells #[.slice x.Am x.ms.length x.cm, .slice x.As x.ss.length x.cs, .slice x.Ac x.cy.length x.cc, .int .i64 x.line, .int .i64 x.capi, .int .i64 x.lead, .int .i64 x.tr, .int .i64 x.bids] 26)).alloc (.map #[] 0) → WI x L w W 0 []) := Lib.hid (by
    rintro W rfl
    have hg := Grp.made (w.alloc (.cells #[.slice x.Am x.ms.length x.cm, .slice x.As x.ss.length x.cs, .slice x.Ac x.cy.length x.cc, .int .i64 x.line, .int .i64 x.capi, .int .i64 x.lead, .int .i64 x.tr, .int .i64 x.bids] 26))
    rw [show (w.alloc (.cells #[.slice x.Am x.ms.length x.cm, .slice x.As x.ss.length x.cs, .slice x.Ac x.cy.length x.cc, .int .i64 x.line, .int .i64 x.capi, .int .i64 x.lead, .int .i64 x.tr, .int .i64 x.bids] 26)).heap.size = w.heap.size + 1 by simp] at hg
    exact ⟨hg, Nat.le_refl _, fun q => by simp, fun j _ h => absurd h (Nat.not_lt_zero _), (cf_new w x).below ((Below.refl _ _).alloc (Nat.le_refl _) _), (box_below w x).alloc (by simp) _⟩)
  have hmm := @run_makeMap Try.prog
  clear hc hs hI hp
  unfold Cfg.val
  go_enter Try.func12, Try.ntmps12
  go_wp2_with fail
  have HW1 := HW0.out _ rfl
  clear HW0
  generalize (w.alloc (.cells #[.slice x.Am x.ms.length x.cm, .slice x.As x.ss.length x.cs, .slice x.Ac x.cy.length x.cc, .int .i64 x.line, .int .i64 x.capi, .int .i64 x.lead, .int .i64 x.tr, .int .i64 x.bids] 26)).alloc (.map #[] 0) = w1 at HW1 ⊢
  have HW := Lib.hid HW1
  clear HW1
  go_loopw [8, 9, 10, 17] (fun _ _ _ i wr => ∃ k : Nat, k ≤ L.length ∧ i = .int .i64 k ∧ Hid (∃ m, WI x L w wr k m)) (fun _ _ _ i _ => L.length - (intOf i).toNat)
  case atStart => exact ⟨0, Nat.zero_le _, rfl, _, HW.out⟩
  case round =>
    clear HW
    obtain ⟨k, hk, rfl, HM⟩ := hrel
    obtain ⟨m, hm⟩ := HM.out
    have HW := Lib.hid hm
    have hsz := hm.b.size
    by_cases hlt : k < L.length
    · obtain ⟨b, o, rfl, hb, d0, d1, d2⟩ := lg_at (HS.out.below HW.out.b) hlt
      obtain ⟨hm1, hm2, hm3⟩ := HI.out _ (List.getElem_mem hlt)
      obtain ⟨q, hq⟩ : ∃ q, q = L[k].m := ⟨_, rfl⟩
      obtain ⟨a, ha⟩ : ∃ a, a = L[k].a := ⟨_, rfl⟩
      obtain ⟨n, hn⟩ : ∃ n, n = L[k].n := ⟨_, rfl⟩
      rw [← hq] at d0 hm1
      rw [← ha] at d1 hm2
      rw [← hn] at d2 hm3
      have HQ := Lib.hid (And.intro hq (And.intro ha hn))
      clear hq ha hn
      have HWO : Hid (∀ W, Below w.heap.size w W → Calls Try.prog 42 #[x.val, .agg #[.int .i64 q, .int .i64 a, .int .i64 n]] W fun e w' => e = .returned (.tuple #[.int .i64 (wthV x a n), .int .i64 (wthE x a n)]) ∧ Below W.heap.size W w') := Lib.hid fun W hW => worth_any x q a n W (HC.out.below hW) hm2 hm3 (HP.out a)
      unfold Cfg.val at HWO
      have hbx := HW.out.bx.lt
      have c0 := HW.out.bx.c0
      have c1 := HW.out.bx.c1
      have c2 := HW.out.bx.c2
      have c3 := HW.out.bx.c3
      have c4 := HW.out.bx.c4
      have c5 := HW.out.bx.c5
      have c6 := HW.out.bx.c6
      have c7 := HW.out.bx.c7
      have HBG : Hid (∀ o, Below w.heap.size w (wr.alloc o)) := Lib.hid fun o => HW.out.b.alloc hsz o
      obtain ⟨wv, hwv⟩ : ∃ wv, wv = wthV x a n := ⟨_, rfl⟩
      obtain ⟨ev, hev⟩ : ∃ ev, ev = wthE x a n := ⟨_, rfl⟩
      rw [← hwv, ← hev] at HWO
      have HV := Lib.hid (And.intro hwv hev)
      clear hwv hev hm hm2 hm3
      by_cases he : ev = 0
      · subst he
        go_wp2_with (go_at_call 42; refine (HWO.out _ (HBG.out _)).mono ?_; rintro e w2 ⟨rfl, hb2⟩; have HB2 := Lib.hid hb2; clear hb2)
        have HW2 : Hid (WI x L w w2 k m) := Lib.hid (HW.out.below (((Below.refl _ _).alloc (Nat.le_refl _) _).trans (HB2.out.mono (by simp))))
        have hgb : wr.heap.size < w2.heap.size := by have := HB2.out.size; simp at this; omega
        have hq2 : w2.cell? ⟨wr.heap.size, 0, none⟩ = some (.int .i64 q) := by
          rw [HB2.out.cell (p := ⟨wr.heap.size, 0, none⟩) (by simp)]
          simp
        have hM2 := HW2.out.g.map
        have HLK : Hid (∀ W, MapAt Try.prog 3 encI W (w.heap.size + 1) m → (Instr.lookup 79 (.map (some (w.heap.size + 1))) (.int .i64 q) false).run Try.prog W = .ok (slotV q m) W) := Lib.hid fun W hW => MapAt.look (P := Try.prog) false i_enc Try.underlying79 (z := .slice none 0 0) (by kernel_rfl) hW HW2.out.g.dom hm1
        clear c0 c1 c2 c3 c4 c5 c6 c7 d0 d1 d2
        have HSO : Hid (some wr.heap.size ≠ (slotV q m).ownBlock) := Lib.hid fun e => by have := ((HW.out.g.slot q).lt _ e.symm).2; omega
        have HSB : Hid (some (w.heap.size + 1) ≠ (slotV q m).ownBlock) := Lib.hid fun e => by have := ((HW.out.g.slot q).lt _ e.symm).1; omega
        have HGN : Hid (wr.heap.size ≠ w.heap.size + 1) := Lib.hid (by have := HW.out.g.map.lt; omega)
        generalize hgg : wr.heap.size = gb at *
        refine wp_region_held_drew (S := fun w' => w'.cell? ⟨gb, 0, none⟩ = some (.int .i64 q)) (by kernel_rfl) ?_ (fun hHeld => ?_)
        · exact hq2
        · obtain ⟨i0, hi0, hz0, hz1', hz2⟩ := info_parts i64_info4
          refine wpAnyH_take (i := 0) (v := .map (some (w.heap.size + 1))) rfl (by kernel_rfl) (by kernel_rfl) (by kernel_rfl) (fun _ _ _ h => h) (Or.inl ⟨by rfl, fun w' hSw => by dsimp only at hSw; go_simp⟩) hHeld ?_
          refine wpAnyH_take (i := 1) (v := .pointer (some ⟨gb, 0, none⟩)) rfl (by kernel_rfl) (by kernel_rfl) (by kernel_rfl) (fun _ _ _ h => h) (Or.inl ⟨by rfl, fun w' hSw => by dsimp only at hSw; go_simp⟩) hHeld ?_
          refine wpAnyH_take (i := 2) (v := .int .i64 q) rfl (by kernel_rfl) (by kernel_rfl) (by kernel_rfl) (fun _ _ _ h => h) (Or.inl ⟨by rfl, fun w' hSw => by dsimp only at hSw; go_simp⟩) hHeld ?_
          refine wpAnyH_take (i := 3) (v := .map (some (w.heap.size + 1))) rfl (by kernel_rfl) (by kernel_rfl) (by kernel_rfl) (fun _ _ _ h => h) (Or.inl ⟨by rfl, fun w' hSw => by dsimp only at hSw; go_simp⟩) hHeld ?_
          refine wpAnyH_take (i := 4) (v := .pointer (some ⟨gb, 0, none⟩)) rfl (by kernel_rfl) (by kernel_rfl) (by kernel_rfl) (fun _ _ _ h => h) (Or.inl ⟨by rfl, fun w' hSw => by dsimp only at hSw; go_simp⟩) hHeld ?_
          refine wpAnyH_take (i := 5) (v := .int .i64 q) rfl (by kernel_rfl) (by kernel_rfl) (by kernel_rfl) (fun _ _ _ h => h) (Or.inl ⟨by rfl, fun w' hSw => by dsimp only at hSw; go_simp⟩) hHeld ?_
          refine wpAnyH_take (i := 7) (v := .int .i64 wv) rfl (by kernel_rfl) (by kernel_rfl) (by kernel_rfl) (fun _ _ _ h => h) (Or.inl ⟨by rfl, fun w' hSw => by dsimp only at hSw; go_simp⟩) hHeld ?_
          have hfl : (wthF x (L.take k) q).length ≤ 1000 := by have := (wthF_ok x (L.take k) q).1; rw [List.length_take] at this; omega
          have hbs : w.heap.size + 2 ≤ w2.heap.size := by have := HW2.out.b.size; have := hM2.lt; omega
          refine wpAnyH_ready (rs := [6, 8]) (by kernel_rfl) (by simp) ?_
          refine AllReadyH.cons rfl (fun K hK => ?_) (AllReadyH.cons rfl (fun K hK => ?_) AllReadyH.nil)
          · have hlk := HLK.out _ hM2.drew
            go_simp
            refine hK.out _ _ hHeld (fun hHeld => ?_)
            clear hK K hlk
            refine wpAnyH_ready (rs := [8]) (by kernel_rfl) (by simp) ?_
            refine AllReadyH.cons rfl (fun K hK => ?_) AllReadyH.nil
            go_simp
            refine hK.out _ _ ((World.cell?_of_block (w := w2) (heap_alloc_old' _ _ hgb)).trans hq2) (fun hHeld => ?_)
            clear hK K
            refine wpAnyH_ready (rs := [9]) (by kernel_rfl) (by simp) ?_
            refine AllReadyH.cons rfl (fun K hK => ?_) AllReadyH.nil
            refine step_append_lies _ rfl (.tmp 36) (.tmp 38) 35 rfl (w.heap.size + 2) 2 i0 _ 1 8 Try.underlying35 hi0 hz0 hz1' hz2 rfl (by decide) (slotV q m) _ _ rfl ((HW2.out.g.slot q).alloc _) ⟨w2.heap.size, 0, none⟩ 1 1 [.int .i64 wv] rfl rfl (new_cells _ _ #[_] (by simp)) (by intro u hu; simp at hu; rw [hu]; rfl) (by decide) (by simp only [maxLen]; omega) (by omega) (by simp; omega) (w2.heap.size + 1) (by simp) ?_
            intro g cap w4 hown4 hgr4 hat4 _
            have hg24 : w2.grownBy w4 (slotV q m).ownBlock := (World.grownBy_alloc w2 (.cells #[.int .i64 wv] 2) _).trans (c := w4) ⟨hgr4.os, hgr4.tape, hgr4.output, hgr4.size, hgr4.block⟩
            have hq4 : w4.cell? ⟨gb, 0, none⟩ = some (.int .i64 q) := (World.cell?_of_block (a := ⟨gb, 0, none⟩) (hg24.block gb hgb HSO.out)).trans hq2
            refine hK.out _ _ hq4 (fun hHeld => ?_)
            clear hK K
            refine wpAnyH_ready (rs := [10]) (by kernel_rfl) (by simp) ?_
            refine AllReadyH.cons rfl (fun K hK => ?_) AllReadyH.nil
            obtain ⟨w5, hrun, hG5, hg5⟩ := Grp.put (v' := .slice (some ⟨g, 0, none⟩) ((wthF x (L.take k) q).length + 1) cap) (ys := wthF x (L.take k) q ++ [wv]) Try.underlying79 HW2.out.g hm1 hg24 (by rw [List.length_append, List.map_append]; exact hown4) (by
              rcases hat4 with e | e
              · exact .inl e.symm
              · exact .inr ⟨g, rfl, by omega⟩)
            refine step_mapUpdate rfl _ (.tmp 30) (.tmp 32) (.tmp 39) rfl rfl rfl rfl (R := fun W => W = w5) ⟨w5, hrun, rfl⟩ ?_
            rintro w6 rfl
            refine hK.out _ _ ((World.cell?_of_block (a := ⟨gb, 0, none⟩) (hg5.block gb (Nat.lt_of_lt_of_le hgb hg24.size) (fun e => HGN.out (Option.some.inj e)))).trans hq4) (fun hHeld => ?_)
            clear hK K hHeld
            refine wpAnyH_done (by kernel_rfl) ?_ _
            have HW5 : Hid (∃ m', WI x L w w6 (k + 1) m') := Lib.hid ⟨_, HW2.out.step (w4 := w4) (v' := .slice (some ⟨g, 0, none⟩) ((wthF x (L.take k) q).length + 1) cap) hlt (by rw [← HQ.out.2.1, ← HQ.out.2.2]; exact HV.out.2.symm) (by rw [← HQ.out.1]; exact hg24) (by rw [← HQ.out.1, ← HQ.out.2.1, ← HQ.out.2.2, ← HV.out.1]; exact hG5) hg5⟩
            clear hown4 hgr4 hat4 hg24 hq4 hG5 hg5 hrun
            go_wp2_with fail
            go_roundw
            case rel => exact ⟨k + 1, by omega, by go_num, HW5⟩
            case measure => simp [intOf]; omega
          · go_simp
            refine hK.out _ _ ((World.cell?_of_block (w := w2) (heap_alloc_old' _ _ hgb)).trans hq2) (fun hHeld => ?_)
            clear hK K
            refine wpAnyH_ready (rs := [6]) (by kernel_rfl) (by simp) ?_
            refine AllReadyH.cons rfl (fun K hK => ?_) AllReadyH.nil
            have hlk := HLK.out _ (hM2.alloc (.cells #[.int .i64 wv] 2)).drew
            go_simp
            refine hK.out _ _ hHeld (fun hHeld => ?_)
            clear hlk
            clear hK K
            refine wpAnyH_ready (rs := [9]) (by kernel_rfl) (by simp) ?_
            refine AllReadyH.cons rfl (fun K hK => ?_) AllReadyH.nil
            refine step_append_lies _ rfl (.tmp 36) (.tmp 38) 35 rfl (w.heap.size + 2) 2 i0 _ 1 8 Try.underlying35 hi0 hz0 hz1' hz2 rfl (by decide) (slotV q m) _ _ rfl ((HW2.out.g.slot q).alloc _) ⟨w2.heap.size, 0, none⟩ 1 1 [.int .i64 wv] rfl rfl (new_cells _ _ #[_] (by simp)) (by intro u hu; simp at hu; rw [hu]; rfl) (by decide) (by simp only [maxLen]; omega) (by omega) (by simp; omega) (w2.heap.size + 1) (by simp) ?_
            intro g cap w4 hown4 hgr4 hat4 _
            have hg24 : w2.grownBy w4 (slotV q m).ownBlock := (World.grownBy_alloc w2 (.cells #[.int .i64 wv] 2) _).trans (c := w4) ⟨hgr4.os, hgr4.tape, hgr4.output, hgr4.size, hgr4.block⟩
            have hq4 : w4.cell? ⟨gb, 0, none⟩ = some (.int .i64 q) := (World.cell?_of_block (a := ⟨gb, 0, none⟩) (hg24.block gb hgb HSO.out)).trans hq2
            refine hK.out _ _ hq4 (fun hHeld => ?_)
            clear hK K
            refine wpAnyH_ready (rs := [10]) (by kernel_rfl) (by simp) ?_
            refine AllReadyH.cons rfl (fun K hK => ?_) AllReadyH.nil
            obtain ⟨w5, hrun, hG5, hg5⟩ := Grp.put (v' := .slice (some ⟨g, 0, none⟩) ((wthF x (L.take k) q).length + 1) cap) (ys := wthF x (L.take k) q ++ [wv]) Try.underlying79 HW2.out.g hm1 hg24 (by rw [List.length_append, List.map_append]; exact hown4) (by
              rcases hat4 with e | e
              · exact .inl e.symm
              · exact .inr ⟨g, rfl, by omega⟩)
            refine step_mapUpdate rfl _ (.tmp 30) (.tmp 32) (.tmp 39) rfl rfl rfl rfl (R := fun W => W = w5) ⟨w5, hrun, rfl⟩ ?_
            rintro w6 rfl
            refine hK.out _ _ ((World.cell?_of_block (a := ⟨gb, 0, none⟩) (hg5.block gb (Nat.lt_of_lt_of_le hgb hg24.size) (fun e => HGN.out (Option.some.inj e)))).trans hq4) (fun hHeld => ?_)
            clear hK K hHeld
            refine wpAnyH_done (by kernel_rfl) ?_ _
            have HW5 : Hid (∃ m', WI x L w w6 (k + 1) m') := Lib.hid ⟨_, HW2.out.step (w4 := w4) (v' := .slice (some ⟨g, 0, none⟩) ((wthF x (L.take k) q).length + 1) cap) hlt (by rw [← HQ.out.2.1, ← HQ.out.2.2]; exact HV.out.2.symm) (by rw [← HQ.out.1]; exact hg24) (by rw [← HQ.out.1, ← HQ.out.2.1, ← HQ.out.2.2, ← HV.out.1]; exact hG5) hg5⟩
            clear hown4 hgr4 hat4 hg24 hq4 hG5 hg5 hrun
            go_wp2_with fail
            go_roundw
            case rel => exact ⟨k + 1, by omega, by go_num, HW5⟩
            case measure => simp [intOf]; omega
      · have HEE : Hid (wthsE x L = ev) := Lib.hid (by
          rw [HV.out.2, HQ.out.2.1, HQ.out.2.2]
          exact wthsE_take hlt (fun j hj => HW.out.ok j (by omega) hj) (by rw [← HQ.out.2.1, ← HQ.out.2.2, ← HV.out.2]; exact he))
        have hez : (ev = 0) = False := eq_false he
        go_wp2_with (go_at_call 42; refine (HWO.out _ (HBG.out _)).mono ?_; rintro e w2 ⟨rfl, hb2⟩; have HB2 := Lib.hid hb2; clear hb2)
        go_ret2
        refine Or.inl ⟨by rw [HEE.out]; exact he, none, 0, by rw [HEE.out]; rfl, Seg.nil, (HBG.out _).trans (HB2.out.mono (by simp; omega))⟩
    · obtain rfl : k = L.length := by omega
      have hg := HW.out.g
      have hml := HW.out.len
      rw [List.take_length] at hg
      have HGA := Lib.hid (gather_any hg (by omega) fun q => ⟨by have := (wthF_ok x L q).1; omega, (wthF_ok x L q).2⟩)
      have HE : Hid (wthsE x L = 0) := Lib.hid (wthsE_all fun j hj => HW.out.ok j hj hj)
      have HR : Hid ((keysL m).Pairwise (· < ·) ∧ ∀ q, q ∈ keysL m ↔ ∃ y ∈ L, y.m = q) := Lib.hid ⟨keysL_rising hg.map.apart, fun q => by
        rw [keysL_mem]
        have := HW.out.ks q
        rw [List.take_length] at this
        exact this⟩
      clear hg hml hm
      go_wp2_with (go_at_call 43; refine HGA.out.mono ?_; rintro e w2 ⟨A2, c2, rfl, hs2, hb2⟩; have HS2 := Lib.hid hs2; have HB2 := Lib.hid hb2; clear hs2 hb2)
      go_ret2
      exact Or.inr ⟨HE.out, _, HR.out.1, HR.out.2, A2, c2, rfl, HS2.out, HW.out.b.trans (HB2.out.mono HW.out.b.size)⟩
end Go.Proofs.Ytglpnpjjjihghaa
