/-
  The law ObligOwn returns true, over this seat's translation: its walk.
-/
import Derived.Test.YtkjkkcaiddeggaaObDoes
import Derived.Test.YtkjkkcaiddeggaaObLack
namespace Go.Proofs.Ytkjkkcaiddeggaa
open Go.RowKit

theorem ActOk.below {w w' : World} {B : Nat} {x : ActD} (h : ActOk w B x) (hb : Below B w w') : ActOk w' B x := ⟨h.seg.below hb, h.low, h.cap, h.top, h.num, h.amt⟩
theorem ActOk.up {w : World} {B B' : Nat} {x : ActD} (h : ActOk w B x) (hb : B ≤ B') : ActOk w B' x := ⟨h.seg.mono hb, fun hn p hp => Nat.lt_of_lt_of_le (h.low hn p hp) hb, h.cap, h.top, h.num, h.amt⟩
theorem same_below (L : List Ob) (A B : Option Addr) (c d : Nat) (w : World) (h1 : Seg w w.heap.size A (obRows L)) (h2 : Seg w w.heap.size B (obRows L)) (hl : L.length ≤ 1000000) :
    Calls Try.prog 17 #[.slice A L.length c, .slice B L.length d] w fun e w' => e = .returned (.bool true) ∧ Below w.heap.size w w' :=
  (same_any L A B c d w h1 h2 hl).mono fun _ _ ⟨he, n, hw⟩ => ⟨he, hw ▸ below_drewN (Below.refl _ _) n⟩
/-- Two sheets that are fine. -/
def TwoFine (w : World) (bs bq base : Nat) (L : List Ob) : Prop := (∃ v vq, Two w bs bq base v vq L) ∧ Fine L
theorem two_new (w : World) : Two ((w.alloc (.cells #[.slice none 0 0] 54)).alloc (.cells #[.slice none 0 0] 41)) w.heap.size (w.heap.size + 1) w.heap.size (.slice none 0 0) (.slice none 0 0) [] :=
  ⟨(new_at w).below ((Below.refl _ _).alloc (Nat.le_refl _) _), ⟨heap_alloc_new' _ _ (by simp), ⟨by simp [obRows], Or.inl ⟨rfl, rfl⟩⟩⟩, fun j hj => by simp [Value.ownBlock] at hj⟩
theorem rf_new (w : World) : RfAt (w.alloc (.cells #[.slice none 0 0] 41)) w.heap.size w.heap.size (.slice none 0 0) [] :=
  ⟨heap_alloc_new _ _, ⟨by simp [obRows], Or.inl ⟨rfl, rfl⟩⟩⟩

/-- One obligation more has been taken over. -/
theorem own_step {L : List Ob} {k : Nat} {hkl : k < L.length} {bp g cap : Nat} {v1 : Value} {w wr w3 : World} {o1 : Obj}
    (hon : Below bp w wr) (hb3 : w3.heap[bp]? = some (.cells #[v1] 41 (0, 0)))
    (ho3 : w3.ownsRow bp 37 6 (.slice (some ⟨g, 0, none⟩) ((L.take k).length + 1) cap) ((L.take k).length + 1) (obRows (L.take k) ++ L[k].cells))
    (hg3 : (wr.alloc o1).drew.grownBy w3 v1.ownBlock) (hv1 : ∀ j, v1.ownBlock = some j → bp ≤ j) (hbw : bp ≤ wr.heap.size) :
    RfAt (w3.setCell ⟨bp, 0, none⟩ (.slice (some ⟨g, 0, none⟩) ((L.take k).length + 1) cap)) bp bp (.slice (some ⟨g, 0, none⟩) ((L.take k).length + 1) cap) (L.take (k + 1)) ∧
      Below bp w (w3.setCell ⟨bp, 0, none⟩ (.slice (some ⟨g, 0, none⟩) ((L.take k).length + 1) cap)) := by
  have hrow : obRows (L.take (k + 1)) = obRows (L.take k) ++ L[k].cells := by rw [List.take_succ_eq_append_getElem hkl, obRows_snoc]
  have hlen1 : (L.take (k + 1)).length = (L.take k).length + 1 := by rw [List.take_succ_eq_append_getElem hkl, List.length_append, List.length_singleton]
  have hne3 : (Value.slice (some ⟨g, 0, none⟩) ((L.take k).length + 1) cap).ownBlock ≠ some bp := own_ne ho3 hb3 (by decide)
  have h4 : (wr.alloc o1).drew.heap.size = wr.heap.size + 1 := by show (wr.alloc o1).heap.size = _; simp
  have hb1 : Below bp w (wr.alloc o1).drew := (hon.alloc hbw _).drew
  refine ⟨⟨?_, ?_⟩, (hb1.grown hg3 (by omega) hv1).setCell (by simp) _⟩
  · rw [blk_set hb3]; rfl
  · rw [hrow, hlen1]
    exact own_setCell ho3 hne3 _

set_option maxRecDepth 100000 in
set_option maxHeartbeats 6400000 in
theorem own_any (l l2 : List ActD) (A A2 : Option Addr) (c c2 : Nat) (w : World) (hs : Seg w w.heap.size A (actRows l)) (hl : l.length ≤ maxLen) (hok : ∀ x ∈ l, ActOk w w.heap.size x)
    (hs2 : Seg w w.heap.size A2 (actRows l2)) (hl2 : l2.length ≤ maxLen) (hok2 : ∀ x ∈ l2, ActOk w w.heap.size x) :
    Calls Try.prog 5 #[.slice A l.length c, .slice A2 l2.length c2] w fun e w' => e = .returned (.bool true) ∧ Below w.heap.size w w' := by
  have HS := Lib.hid hs
  have HOK := Lib.hid hok
  have HS2 := Lib.hid hs2
  have HOK2 := Lib.hid hok2
  have HFW := Lib.hid (few_any l A c w.heap.size w hs hl (fun x hx => (hok x hx).top))
  have HFW2 := Lib.hid (few_any l2 A2 c2 w.heap.size w hs2 hl2 (fun x hx => (hok2 x hx).top))
  clear hs hok hl hs2 hok2 hl2
  cases hf : fewB l
  · go_enter Try.func5, Try.ntmps5
    go_wp2_with fail
    refine HFW.out.mono ?_
    rintro e w1 ⟨rfl, rfl⟩
    go_wp2_with fail
    refine (awake_any _).mono ?_
    rintro e w1 ⟨rfl, hb1⟩
    go_wp2_with fail
    go_ret
    exact ⟨rfl, hb1⟩
  cases hf2 : fewB l2
  · go_enter Try.func5, Try.ntmps5
    go_wp2_with fail
    refine HFW.out.mono ?_
    rintro e w1 ⟨rfl, rfl⟩
    go_wp2_with fail
    refine HFW2.out.mono ?_
    rintro e w1 ⟨rfl, rfl⟩
    go_wp2_with fail
    refine (awake_any _).mono ?_
    rintro e w1 ⟨rfl, hb1⟩
    go_wp2_with fail
    go_ret
    exact ⟨rfl, hb1⟩
  have h40 : l.length ≤ 40 := by unfold fewB at hf; simp at hf; exact hf.1
  have H30 : Hid (∀ x ∈ l, x.nets.length ≤ 30) := by show ∀ x ∈ l, _; unfold fewB at hf; simp at hf; exact hf.2
  have h240 : l2.length ≤ 40 := by unfold fewB at hf2; simp at hf2; exact hf2.1
  have H230 : Hid (∀ x ∈ l2, x.nets.length ≤ 30) := by show ∀ x ∈ l2, _; unfold fewB at hf2; simp at hf2; exact hf2.2
  obtain ⟨i0, hi0, hz0, hz1', hz2⟩ := info_parts ob_info
  go_enter Try.func5, Try.ntmps5
  go_wp2_with fail
  refine HFW.out.mono ?_
  rintro e w1 ⟨rfl, rfl⟩
  go_wp2_with fail
  refine HFW2.out.mono ?_
  rintro e w1 ⟨rfl, rfl⟩
  go_wp2_with fail
  refine (new_any w).mono ?_
  rintro e w0 ⟨rfl, rfl⟩
  have HB0 : Hid (Below w.heap.size w ((w.alloc (.cells #[.slice none 0 0] 54)).alloc (.cells #[.slice none 0 0] 41))) := ((Below.refl _ _).alloc (Nat.le_refl _) _).alloc (by simp) _
  have HN := Lib.hid (two_new w)
  go_wp2_with fail
  go_loopw [7] (fun i wr => ∃ k : Nat, k ≤ l.length ∧ i = .int .i64 k ∧ Hid (Below w.heap.size w wr) ∧ Hid (∃ L, TwoFine wr w.heap.size (w.heap.size + 1) w.heap.size L)) (fun i _ => l.length - (intOf i).toNat)
  case atStart => exact ⟨0, Nat.zero_le _, rfl, HB0.out, ⟨[], ⟨⟨_, _, HN.out⟩, fine_nil⟩⟩⟩
  case round =>
    obtain ⟨k, hk, rfl, HB, HX⟩ := hrel
    obtain ⟨L, ⟨v, vq, htw⟩, hfi⟩ := HX.out
    have hsz := HB.out.size
    have HT := Lib.hid htw
    have HFI := Lib.hid hfi
    have hll := hfi.len
    clear htw hfi
    by_cases hlt : k < l.length
    · obtain ⟨b, o, rfl, hb, d0, d1, d2, d3, d4, d5⟩ := act_at (HS.out.below HB.out) hlt
      have HOKk := Lib.hid (HOK.out l[k] (List.getElem_mem hlt))
      have h30k := H30.out l[k] (List.getElem_mem hlt)
      go_wp2_with fail
      refine (does_any L l[k] v vq w.heap.size (w.heap.size + 1) w.heap.size _ HT.out HFI.out (HOKk.out.below HB.out) h30k (Nat.le_refl _) (Nat.le_succ _)).mono ?_
      rintro e w1 ⟨v1, vq1, rfl, t1, t2, t3, t4⟩
      have HB1 : Hid (Below w.heap.size w w1) := HB.out.trans (t2.below (Nat.le_refl _) (Nat.le_succ _) (own_base HT.out.s.own) (own_base HT.out.q.own) hsz)
      have HT1 : Hid (∃ L, TwoFine w1 w.heap.size (w.heap.size + 1) w.heap.size L) := ⟨_, ⟨_, _, t1⟩, fine_act _ HFI.out HOKk.out.num⟩
      clear t1 t2 t3 t4
      go_wp2_with fail
      go_roundw
      case rel => exact ⟨k + 1, by omega, by go_num, HB1, HT1⟩
      case measure => simp [intOf]; omega
    · obtain rfl : k = l.length := by omega
      have hlq := HT.out.q.lt
      go_wp2_with fail
      refine (copy_any L v w.heap.size w.heap.size _ HT.out.s (by omega)).mono ?_
      rintro e w2 ⟨bc, vc, rfl, hc2, hbc, hb2⟩
      have HTQ := Lib.hid (HT.out.below hb2)
      have HC2 := Lib.hid hc2
      have HB2 := Lib.hid hb2
      have hz2' := hb2.size
      have hlc := hc2.lt
      clear hc2 hb2
      have HRN := Lib.hid (rf_new w2)
      have HBN : Hid (Below w2.heap.size w2 (w2.alloc (.cells #[.slice none 0 0] 41))) := (Below.refl _ _).alloc (Nat.le_refl _) _
      go_wp2_with fail
      obtain ⟨bp, hbp⟩ : ∃ bp, bp = w2.heap.size := ⟨_, rfl⟩
      rw [← hbp] at HRN HBN hlc ⊢
      have HBP : Hid (w2.heap.size = bp) := hbp.symm
      have hbp1 : w.heap.size + 1 < bp := by rw [hbp]; omega
      have hbp2 : wr.heap.size ≤ bp := by rw [hbp]; omega
      clear hbp
      obtain ⟨wo, rfl⟩ : ∃ wo : World, wo = wr := ⟨_, rfl⟩
      go_loopw [10] (fun i wr => ∃ k : Nat, k ≤ L.length ∧ i = .int .i64 k ∧ Hid (∃ vp, RfAt wr bp bp vp (L.take k)) ∧ Hid (Below bp w2 wr)) (fun i _ => L.length - (intOf i).toNat)
      case atStart => exact ⟨0, Nat.zero_le _, rfl, ⟨_, HRN.out⟩, HBN.out⟩
      case round =>
        obtain ⟨k, hk, rfl, HRPX, HBK⟩ := hrel
        obtain ⟨vp, hrp⟩ := HRPX.out
        have HRP := Lib.hid hrp
        have plt := hrp.lt
        have p0 := hrp.c0
        have pf := hrp.f0
        clear hrp
        have hzk := HBK.out.size
        have HTK0 := Lib.hid (HTQ.out.q.below (by rw [HBP.out]; exact HBK.out))
        have q0 := HTK0.out.c0
        by_cases hlt : k < L.length
        · obtain ⟨gq, cq, rfl, hgq, _, _, _, d0, d1, d2, d3, d4, d5⟩ := rf_at HTK0.out hlt
          have hgb : gq < bp := by have h1 := own_lt HTQ.out.q.own (k := gq) rfl; rw [HBP.out] at h1; exact h1
          have HTK : Hid ((L.take k).length = k) := by show _ = _; rw [List.length_take]; omega
          have hkb : (k : Int) < (L.length : Int) := by omega
          have hk0 : (0 : Int) ≤ (k : Int) := by omega
          have hplt : bp < wr.heap.size := plt
          go_wp2_with fail
          refine wp_region_held_drew (S := (fun w' => w'.cell? ⟨w.heap.size + 1, 0, none⟩ = some (.slice (some ⟨gq, 0, none⟩) L.length cq) ∧ w'.cell? ⟨gq, k * 6, none⟩ = some (.int .i64 L[k].c) ∧ w'.cell? ⟨gq, k * 6 + 1, none⟩ = some (.int .i64 L[k].m) ∧ w'.cell? ⟨gq, k * 6 + 2, none⟩ = some (.int .i64 L[k].a) ∧ w'.cell? ⟨gq, k * 6 + 3, none⟩ = some (.int .i64 L[k].net) ∧ w'.cell? ⟨gq, k * 6 + 4, none⟩ = some (.int .i64 L[k].done) ∧ w'.cell? ⟨gq, k * 6 + 5, none⟩ = some (.int .i64 L[k].st))) (by kernel_rfl) (by go_keep) (fun hHeld => ?_)
          refine wpAnyH_take (i := 0) (v := .pointer (some ⟨bp, 0, none⟩)) rfl (by kernel_rfl) (by kernel_rfl) (by kernel_rfl) (fun _ _ _ h => h) (Or.inl ⟨by rfl, fun w' hSw => by dsimp only at hSw; go_simp⟩) hHeld ?_
          refine wpAnyH_take (i := 1) (v := .pointer (some ⟨bp, 0, none⟩)) rfl (by kernel_rfl) (by kernel_rfl) (by kernel_rfl) (fun _ _ _ h => h) (Or.inl ⟨by rfl, fun w' hSw => by dsimp only at hSw; go_simp⟩) hHeld ?_
          refine wpAnyH_take (i := 2) (v := .pointer (some ⟨bp, 0, none⟩)) rfl (by kernel_rfl) (by kernel_rfl) (by kernel_rfl) (fun _ _ _ h => h) (Or.inl ⟨by rfl, fun w' hSw => by dsimp only at hSw; go_simp⟩) hHeld ?_
          refine wpAnyH_take (i := 3) (v := .pointer (some ⟨bp, 0, none⟩)) rfl (by kernel_rfl) (by kernel_rfl) (by kernel_rfl) (fun _ _ _ h => h) (Or.inl ⟨by rfl, fun w' hSw => by dsimp only at hSw; go_simp⟩) hHeld ?_
          refine wpAnyH_take (i := 5) (v := .pointer (some ⟨w.heap.size + 1, 0, none⟩)) rfl (by kernel_rfl) (by kernel_rfl) (by kernel_rfl) (fun _ _ _ h => h) (Or.inl ⟨by rfl, fun w' hSw => by dsimp only at hSw; go_simp⟩) hHeld ?_
          refine wpAnyH_take (i := 6) (v := .pointer (some ⟨w.heap.size + 1, 0, none⟩)) rfl (by kernel_rfl) (by kernel_rfl) (by kernel_rfl) (fun _ _ _ h => h) (Or.inl ⟨by rfl, fun w' hSw => by dsimp only at hSw; go_simp⟩) hHeld ?_
          refine wpAnyH_take (i := 7) (v := .pointer (some ⟨w.heap.size + 1, 0, none⟩)) rfl (by kernel_rfl) (by kernel_rfl) (by kernel_rfl) (fun _ _ _ h => h) (Or.inl ⟨by rfl, fun w' hSw => by dsimp only at hSw; go_simp⟩) hHeld ?_
          refine wpAnyH_take (i := 8) (v := .slice (some ⟨gq, 0, none⟩) L.length cq) rfl (by kernel_rfl) (by kernel_rfl) (by kernel_rfl) (fun _ _ _ h => h) (Or.inl ⟨by rfl, fun w' hSw => by dsimp only at hSw; go_simp⟩) hHeld ?_
          refine wpAnyH_take (i := 9) (v := .int .i64 k) rfl (by kernel_rfl) (by kernel_rfl) (by kernel_rfl) (fun _ _ _ h => h) (Or.inl ⟨by rfl, fun w' hSw => by dsimp only at hSw; go_simp⟩) hHeld ?_
          refine wpAnyH_take (i := 10) (v := .pointer (some ⟨gq, k * 6, none⟩)) rfl (by kernel_rfl) (by kernel_rfl) (by kernel_rfl) (fun _ _ _ h => h) (Or.inl ⟨by rfl, fun w' hSw => by dsimp only at hSw; go_simp⟩) hHeld ?_
          refine wpAnyH_take (i := 11) (v := .agg #[.int .i64 L[k].c, .int .i64 L[k].m, .int .i64 L[k].a, .int .i64 L[k].net, .int .i64 L[k].done, .int .i64 L[k].st]) rfl (by kernel_rfl) (by kernel_rfl) (by kernel_rfl) (fun _ _ _ h => h) (Or.inl ⟨by rfl, fun w' hSw => by dsimp only at hSw; go_simp⟩) hHeld ?_
          refine wpAnyH_ready (rs := [4, 12]) (by kernel_rfl) (by simp) ?_
          refine AllReadyH.cons rfl (fun K hK => ?_) (AllReadyH.cons rfl (fun K hK => ?_) AllReadyH.nil)
          · go_simp
            refine hK.out _ _ hHeld (fun hHeld => ?_)
            clear hK K
            refine wpAnyH_ready (rs := [12]) (by kernel_rfl) (by simp) ?_
            refine AllReadyH.cons rfl (fun K hK => ?_) AllReadyH.nil
            go_simp
            refine hK.out _ _ (by go_keep) (fun hHeld => ?_)
            clear hK K
            refine wpAnyH_ready (rs := [13]) (by kernel_rfl) (by simp) ?_
            refine AllReadyH.cons rfl (fun K hK => ?_) AllReadyH.nil
            refine step_append_lies _ rfl (.tmp 57) (.tmp 65) 27 rfl bp 37 i0 _ 6 48 Try.underlying27 hi0 hz0 hz1' hz2 rfl (by decide) vp _ _ rfl (HRP.out.own.alloc _) ⟨wr.heap.size, 0, none⟩ 1 1 L[k].cells rfl rfl (new_cells _ _ #[_, _, _, _, _, _] rfl) (by intro u hu; simp [Ob.cells] at hu; rcases hu with rfl | rfl | rfl | rfl | rfl | rfl <;> rfl) (by decide) (by rw [HTK.out]; simp only [maxLen]; omega) (by rw [HTK.out]; omega) (by simp; omega) (wr.heap.size + 1) (by simp) ?_
            intro g cap w3 hown3 hgr3 hat3 _
            have b3 := (grown_far1 hgr3 plt (fun e => HRP.out.ne e.symm)).trans HRP.out.s
            have q3 : w3.heap[gq]? = wr.heap[gq]? := grown_far1 hgr3 (by omega) (fun e => by have := own_base HRP.out.own _ e.symm; omega)
            have q4 : w3.heap[w.heap.size + 1]? = wr.heap[w.heap.size + 1]? := grown_far1 hgr3 (by omega) (fun e => by have := own_base HRP.out.own _ e.symm; omega)
            have s3 : w3.cell? ⟨bp, 0, none⟩ = some vp := cell_of_row _ _ _ _ _ (0, 0) b3
            have f3 : w3.frozen? ⟨bp, 0, none⟩ = false := by simp [World.frozen?, b3]
            have HH3 : Hid ((fun w' => w'.cell? ⟨w.heap.size + 1, 0, none⟩ = some (.slice (some ⟨gq, 0, none⟩) L.length cq) ∧ w'.cell? ⟨gq, k * 6, none⟩ = some (.int .i64 L[k].c) ∧ w'.cell? ⟨gq, k * 6 + 1, none⟩ = some (.int .i64 L[k].m) ∧ w'.cell? ⟨gq, k * 6 + 2, none⟩ = some (.int .i64 L[k].a) ∧ w'.cell? ⟨gq, k * 6 + 3, none⟩ = some (.int .i64 L[k].net) ∧ w'.cell? ⟨gq, k * 6 + 4, none⟩ = some (.int .i64 L[k].done) ∧ w'.cell? ⟨gq, k * 6 + 5, none⟩ = some (.int .i64 L[k].st)) w3) := ⟨(World.cell?_of_block (w := wr) (a := ⟨w.heap.size + 1, 0, none⟩) q4).trans q0, (World.cell?_of_block (w := wr) (a := ⟨gq, k * 6, none⟩) q3).trans d0, (World.cell?_of_block (w := wr) (a := ⟨gq, k * 6 + 1, none⟩) q3).trans d1, (World.cell?_of_block (w := wr) (a := ⟨gq, k * 6 + 2, none⟩) q3).trans d2, (World.cell?_of_block (w := wr) (a := ⟨gq, k * 6 + 3, none⟩) q3).trans d3, (World.cell?_of_block (w := wr) (a := ⟨gq, k * 6 + 4, none⟩) q3).trans d4, (World.cell?_of_block (w := wr) (a := ⟨gq, k * 6 + 5, none⟩) q3).trans d5⟩
            have HO3 := Lib.hid hown3
            have HG3 := Lib.hid hgr3
            have HB3 := Lib.hid b3
            clear hown3 hgr3 hat3 b3 q3 q4
            refine hK.out _ _ HH3.out (fun hHeld => ?_)
            clear hK K
            refine wpAnyH_take (i := 14) (v := .pointer (some ⟨bp, 0, none⟩)) rfl (by kernel_rfl) (by kernel_rfl) (by kernel_rfl) (fun _ _ _ h => h) (Or.inl ⟨by rfl, fun w' hSw => by dsimp only at hSw; go_simp⟩) hHeld ?_
            refine wpAnyH_take (i := 15) (v := .pointer (some ⟨bp, 0, none⟩)) rfl (by kernel_rfl) (by kernel_rfl) (by kernel_rfl) (fun _ _ _ h => h) (Or.inl ⟨by rfl, fun w' hSw => by dsimp only at hSw; go_simp⟩) hHeld ?_
            refine wpAnyH_ready (rs := [16]) (by kernel_rfl) (by simp) ?_
            refine AllReadyH.cons rfl (fun K hK => ?_) AllReadyH.nil
            go_simp
            refine hK.out _ _ (by obtain ⟨z, z0, z1, z2, z3, z4, z5⟩ := HH3.out; exact ⟨(World.cell?_setCell_other _ _ _ _ (fun e => by have e1 := congrArg Addr.block e; simp at e1; omega)).trans z, (World.cell?_setCell_other _ _ _ _ (fun e => by have e1 := congrArg Addr.block e; simp at e1; omega)).trans z0, (World.cell?_setCell_other _ _ _ _ (fun e => by have e1 := congrArg Addr.block e; simp at e1; omega)).trans z1, (World.cell?_setCell_other _ _ _ _ (fun e => by have e1 := congrArg Addr.block e; simp at e1; omega)).trans z2, (World.cell?_setCell_other _ _ _ _ (fun e => by have e1 := congrArg Addr.block e; simp at e1; omega)).trans z3, (World.cell?_setCell_other _ _ _ _ (fun e => by have e1 := congrArg Addr.block e; simp at e1; omega)).trans z4, (World.cell?_setCell_other _ _ _ _ (fun e => by have e1 := congrArg Addr.block e; simp at e1; omega)).trans z5⟩) (fun hHeld => ?_)
            clear hK K hHeld
            refine wpAnyH_done (by kernel_rfl) ?_ _
            have hrel2 := own_step HBK.out HB3.out HO3.out HG3.out (own_base HRP.out.own) (by omega)
            rw [HTK.out] at hrel2
            have HREL := Lib.hid hrel2
            clear hrel2
            clear s3 f3 p0 pf q0 d0 d1 d2 d3 d4 d5
            go_wp2_with fail
            go_roundw
            case rel => exact ⟨k + 1, by omega, by go_num, ⟨_, HREL.out.1⟩, HREL.out.2⟩
            case measure => simp [intOf]; omega
          · go_simp
            refine hK.out _ _ (by go_keep) (fun hHeld => ?_)
            clear hK K
            refine wpAnyH_ready (rs := [4]) (by kernel_rfl) (by simp) ?_
            refine AllReadyH.cons rfl (fun K hK => ?_) AllReadyH.nil
            go_simp
            refine hK.out _ _ hHeld (fun hHeld => ?_)
            clear hK K
            refine wpAnyH_ready (rs := [13]) (by kernel_rfl) (by simp) ?_
            refine AllReadyH.cons rfl (fun K hK => ?_) AllReadyH.nil
            refine step_append_lies _ rfl (.tmp 57) (.tmp 65) 27 rfl bp 37 i0 _ 6 48 Try.underlying27 hi0 hz0 hz1' hz2 rfl (by decide) vp _ _ rfl (HRP.out.own.alloc _) ⟨wr.heap.size, 0, none⟩ 1 1 L[k].cells rfl rfl (new_cells _ _ #[_, _, _, _, _, _] rfl) (by intro u hu; simp [Ob.cells] at hu; rcases hu with rfl | rfl | rfl | rfl | rfl | rfl <;> rfl) (by decide) (by rw [HTK.out]; simp only [maxLen]; omega) (by rw [HTK.out]; omega) (by simp; omega) (wr.heap.size + 1) (by simp) ?_
            intro g cap w3 hown3 hgr3 hat3 _
            have b3 := (grown_far1 hgr3 plt (fun e => HRP.out.ne e.symm)).trans HRP.out.s
            have q3 : w3.heap[gq]? = wr.heap[gq]? := grown_far1 hgr3 (by omega) (fun e => by have := own_base HRP.out.own _ e.symm; omega)
            have q4 : w3.heap[w.heap.size + 1]? = wr.heap[w.heap.size + 1]? := grown_far1 hgr3 (by omega) (fun e => by have := own_base HRP.out.own _ e.symm; omega)
            have s3 : w3.cell? ⟨bp, 0, none⟩ = some vp := cell_of_row _ _ _ _ _ (0, 0) b3
            have f3 : w3.frozen? ⟨bp, 0, none⟩ = false := by simp [World.frozen?, b3]
            have HH3 : Hid ((fun w' => w'.cell? ⟨w.heap.size + 1, 0, none⟩ = some (.slice (some ⟨gq, 0, none⟩) L.length cq) ∧ w'.cell? ⟨gq, k * 6, none⟩ = some (.int .i64 L[k].c) ∧ w'.cell? ⟨gq, k * 6 + 1, none⟩ = some (.int .i64 L[k].m) ∧ w'.cell? ⟨gq, k * 6 + 2, none⟩ = some (.int .i64 L[k].a) ∧ w'.cell? ⟨gq, k * 6 + 3, none⟩ = some (.int .i64 L[k].net) ∧ w'.cell? ⟨gq, k * 6 + 4, none⟩ = some (.int .i64 L[k].done) ∧ w'.cell? ⟨gq, k * 6 + 5, none⟩ = some (.int .i64 L[k].st)) w3) := ⟨(World.cell?_of_block (w := wr) (a := ⟨w.heap.size + 1, 0, none⟩) q4).trans q0, (World.cell?_of_block (w := wr) (a := ⟨gq, k * 6, none⟩) q3).trans d0, (World.cell?_of_block (w := wr) (a := ⟨gq, k * 6 + 1, none⟩) q3).trans d1, (World.cell?_of_block (w := wr) (a := ⟨gq, k * 6 + 2, none⟩) q3).trans d2, (World.cell?_of_block (w := wr) (a := ⟨gq, k * 6 + 3, none⟩) q3).trans d3, (World.cell?_of_block (w := wr) (a := ⟨gq, k * 6 + 4, none⟩) q3).trans d4, (World.cell?_of_block (w := wr) (a := ⟨gq, k * 6 + 5, none⟩) q3).trans d5⟩
            have HO3 := Lib.hid hown3
            have HG3 := Lib.hid hgr3
            have HB3 := Lib.hid b3
            clear hown3 hgr3 hat3 b3 q3 q4
            refine hK.out _ _ HH3.out (fun hHeld => ?_)
            clear hK K
            refine wpAnyH_take (i := 14) (v := .pointer (some ⟨bp, 0, none⟩)) rfl (by kernel_rfl) (by kernel_rfl) (by kernel_rfl) (fun _ _ _ h => h) (Or.inl ⟨by rfl, fun w' hSw => by dsimp only at hSw; go_simp⟩) hHeld ?_
            refine wpAnyH_take (i := 15) (v := .pointer (some ⟨bp, 0, none⟩)) rfl (by kernel_rfl) (by kernel_rfl) (by kernel_rfl) (fun _ _ _ h => h) (Or.inl ⟨by rfl, fun w' hSw => by dsimp only at hSw; go_simp⟩) hHeld ?_
            refine wpAnyH_ready (rs := [16]) (by kernel_rfl) (by simp) ?_
            refine AllReadyH.cons rfl (fun K hK => ?_) AllReadyH.nil
            go_simp
            refine hK.out _ _ (by obtain ⟨z, z0, z1, z2, z3, z4, z5⟩ := HH3.out; exact ⟨(World.cell?_setCell_other _ _ _ _ (fun e => by have e1 := congrArg Addr.block e; simp at e1; omega)).trans z, (World.cell?_setCell_other _ _ _ _ (fun e => by have e1 := congrArg Addr.block e; simp at e1; omega)).trans z0, (World.cell?_setCell_other _ _ _ _ (fun e => by have e1 := congrArg Addr.block e; simp at e1; omega)).trans z1, (World.cell?_setCell_other _ _ _ _ (fun e => by have e1 := congrArg Addr.block e; simp at e1; omega)).trans z2, (World.cell?_setCell_other _ _ _ _ (fun e => by have e1 := congrArg Addr.block e; simp at e1; omega)).trans z3, (World.cell?_setCell_other _ _ _ _ (fun e => by have e1 := congrArg Addr.block e; simp at e1; omega)).trans z4, (World.cell?_setCell_other _ _ _ _ (fun e => by have e1 := congrArg Addr.block e; simp at e1; omega)).trans z5⟩) (fun hHeld => ?_)
            clear hK K hHeld
            refine wpAnyH_done (by kernel_rfl) ?_ _
            have hrel2 := own_step HBK.out HB3.out HO3.out HG3.out (own_base HRP.out.own) (by omega)
            rw [HTK.out] at hrel2
            have HREL := Lib.hid hrel2
            clear hrel2
            clear s3 f3 p0 pf q0 d0 d1 d2 d3 d4 d5
            go_wp2_with fail
            go_roundw
            case rel => exact ⟨k + 1, by omega, by go_num, ⟨_, HREL.out.1⟩, HREL.out.2⟩
            case measure => simp [intOf]; omega
        · obtain rfl : k = L.length := by omega
          obtain ⟨Aq, cq, rfl⟩ := own_form HTK0.out.own
          have HRL : Hid (RfAt wr bp wo.heap.size vp L) := by
            have h1 := HRP.out
            rw [List.take_length] at h1
            exact ⟨h1.s, own_mono h1.own hbp2⟩
          have HCL := Lib.hid (HC2.out.below (by rw [HBP.out]; exact HBK.out))
          have HTC : Hid (Two wr bc bp wo.heap.size vc vp L) := ⟨HCL.out, HRL.out, fun j hj e => by
            have h1 := own_lt HC2.out.own hj
            rw [HBP.out] at h1
            have h2 := own_base HRP.out.own j e
            omega⟩
          have HBW : Hid (Below wo.heap.size wo wr) := HB2.out.trans (HBK.out.mono hbp2)
          go_wp2_with fail
          clear p0 pf q0
          obtain ⟨wp, rfl⟩ : ∃ wp : World, wp = wr := ⟨_, rfl⟩
          go_loopw [11] (fun i wr => ∃ j : Nat, j ≤ l2.length ∧ i = .int .i64 j ∧ Hid (Below wo.heap.size wo wr) ∧ Hid (∃ L', TwoFine wr bc bp wo.heap.size L')) (fun i _ => l2.length - (intOf i).toNat)
          case atStart => exact ⟨0, Nat.zero_le _, rfl, HBW, ⟨L, ⟨_, _, HTC.out⟩, HFI.out⟩⟩
          case round =>
            obtain ⟨j, hj, rfl, HBL, HX2⟩ := hrel
            obtain ⟨L', ⟨vc', vp', htw⟩, hfi⟩ := HX2.out
            have hszl := HBL.out.size
            have HT2 := Lib.hid htw
            have HFI2 := Lib.hid hfi
            have hll2 := hfi.len
            clear htw hfi
            have HBA : Hid (Below w.heap.size w wr) := HB.out.trans (HBL.out.mono hsz)
            by_cases hlt2 : j < l2.length
            · obtain ⟨b2, o2, rfl, hb2', d0, d1, d2, d3, d4, d5⟩ := act_at (HS2.out.below HBA.out) hlt2
              have HOKk := Lib.hid (HOK2.out l2[j] (List.getElem_mem hlt2))
              have h30k := H230.out l2[j] (List.getElem_mem hlt2)
              go_wp2_with fail
              refine (does_any L' l2[j] vc' vp' bc bp wo.heap.size _ HT2.out HFI2.out ((HOKk.out.below HBA.out).up hsz) h30k hbc hbp2).mono ?_
              rintro e w5 ⟨v5, vq5, rfl, t1, t2, t3, t4⟩
              have HB5 : Hid (Below wo.heap.size wo w5) := HBL.out.trans (t2.below hbc hbp2 (own_base HT2.out.s.own) (own_base HT2.out.q.own) hszl)
              have HT5 : Hid (∃ L', TwoFine w5 bc bp wo.heap.size L') := ⟨_, ⟨_, _, t1⟩, fine_act _ HFI2.out HOKk.out.num⟩
              clear t1 t2 t3 t4
              go_wp2_with fail
              go_roundw
              case rel => exact ⟨j + 1, by omega, by go_num, HB5, HT5⟩
              case measure => simp [intOf]; omega
            · obtain rfl : j = l2.length := by omega
              have HT1 := Lib.hid (HT.out.below HBL.out)
              go_wp2_with fail
              refine (nil_left 1 0 _).mono ?_
              rintro e w6 ⟨rfl, hb6⟩
              have HT1 := Lib.hid (HT1.out.below hb6)
              have HT2 := Lib.hid (HT2.out.below hb6)
              have HBA : Hid (Below w.heap.size w w6) := HBA.out.trans (hb6.mono HBA.out.size)
              clear hb6
              go_wp2_with fail
              obtain ⟨Ap, cp, rfl⟩ := own_form HT2.out.q.own
              have HT1 := Lib.hid (HT1.out.below (Below.refl _ _).drew)
              have HT2 := Lib.hid (HT2.out.below (Below.refl _ _).drew)
              have HBA := Lib.hid HBA.out.drew
              simp only [List.append]
              go_region_held3 (fun w' => w'.cell? ⟨w.heap.size + 1, 0, none⟩ = some (.slice Aq L.length cq) ∧ w'.cell? ⟨bp, 0, none⟩ = some (.slice Ap L'.length cp)) (exact ⟨HT1.out.q.c0, HT2.out.q.c0⟩)
                (first | (go_at_call 7; ((with_reducible refine (awake_any _).mono ?_)); rintro e w7 ⟨rfl, hb⟩; have HT1 := Lib.hid (HT1.out.below hb); have HT2 := Lib.hid (HT2.out.below hb); have HBA : Hid (Below w.heap.size w w7) := HBA.out.trans (hb.mono HBA.out.size); clear hb) | (go_at_call 9; ((with_reducible refine (all_any L _ w.heap.size w.heap.size _ HT1.out.s (by omega)).mono ?_)); rintro e w8 ⟨va, rfl, ho, hb⟩; obtain ⟨Aa, ca, rfl⟩ := own_form ho; have HSA := Lib.hid (Seg.of_own ho); have HT1 := Lib.hid (HT1.out.below hb); have HT2 := Lib.hid (HT2.out.below hb); have HBA : Hid (Below w.heap.size w w8) := HBA.out.trans (hb.mono HBA.out.size); clear ho hb) | (go_at_call 17; ((with_reducible refine (same_below L Aa Aq ca cq _ HSA.out (Seg.of_own HT1.out.q.own) (by omega)).mono ?_)); rintro e w9 ⟨rfl, hb⟩; have HT1 := Lib.hid (HT1.out.below hb); have HT2 := Lib.hid (HT2.out.below hb); have HBA : Hid (Below w.heap.size w w9) := HBA.out.trans (hb.mono HBA.out.size); clear hb) | (go_at_call 9; ((with_reducible refine (all_any L' vc' bc wo.heap.size _ HT2.out.s (by omega)).mono ?_)); rintro e w10 ⟨va, rfl, ho, hb⟩; obtain ⟨Aa, ca, rfl⟩ := own_form ho; have HSA := Lib.hid (Seg.of_own ho); have HT1 := Lib.hid (HT1.out.below hb); have HT2 := Lib.hid (HT2.out.below hb); have HBA : Hid (Below w.heap.size w w10) := HBA.out.trans (hb.mono HBA.out.size); clear ho hb) | (go_at_call 17; ((with_reducible refine (same_below L' Aa Ap ca cp _ HSA.out (Seg.of_own HT2.out.q.own) (by omega)).mono ?_)); rintro e w11 ⟨rfl, hb⟩; have HT1 := Lib.hid (HT1.out.below hb); have HT2 := Lib.hid (HT2.out.below hb); have HBA : Hid (Below w.heap.size w w11) := HBA.out.trans (hb.mono HBA.out.size); clear hb) | (go_at_call 9; ((with_reducible refine (nil_all _).mono ?_)); rintro e w16 ⟨rfl, hb⟩; have HT1 := Lib.hid (HT1.out.below hb); have HT2 := Lib.hid (HT2.out.below hb); have HBA : Hid (Below w.heap.size w w16) := HBA.out.trans (hb.mono HBA.out.size); clear hb) | (go_at_call 10; ((with_reducible refine (nil_open 1 _).mono ?_)); rintro e w12 ⟨rfl, hb⟩; have HT1 := Lib.hid (HT1.out.below hb); have HT2 := Lib.hid (HT2.out.below hb); have HBA : Hid (Below w.heap.size w w12) := HBA.out.trans (hb.mono HBA.out.size); clear hb) | (go_at_call 11; ((with_reducible refine (nil_pay 1 0 1 _).mono ?_)); rintro e w13 ⟨rfl, hb⟩; have HT1 := Lib.hid (HT1.out.below hb); have HT2 := Lib.hid (HT2.out.below hb); have HBA : Hid (Below w.heap.size w w13) := HBA.out.trans (hb.mono HBA.out.size); clear hb) | (go_at_call 12; ((with_reducible refine (nil_take 1 0 1 _).mono ?_)); rintro e w14 ⟨rfl, hb⟩; have HT1 := Lib.hid (HT1.out.below hb); have HT2 := Lib.hid (HT2.out.below hb); have HBA : Hid (Below w.heap.size w w14) := HBA.out.trans (hb.mono HBA.out.size); clear hb) | (go_at_call 13; ((with_reducible refine (nil_mark 1 0 2 0 _).mono ?_)); rintro e w15 ⟨rfl, hb⟩; have HT1 := Lib.hid (HT1.out.below hb); have HT2 := Lib.hid (HT2.out.below hb); have HBA : Hid (Below w.heap.size w w15) := HBA.out.trans (hb.mono HBA.out.size); clear hb) | (go_at_call 20; ((with_reducible refine (nil_debts _).mono ?_)); rintro e w17 ⟨rfl, hb⟩; have HT1 := Lib.hid (HT1.out.below hb); have HT2 := Lib.hid (HT2.out.below hb); have HBA : Hid (Below w.heap.size w w17) := HBA.out.trans (hb.mono HBA.out.size); clear hb) | (go_at_call 21; ((with_reducible refine (nil_claims _).mono ?_)); rintro e w18 ⟨rfl, hb⟩; have HT1 := Lib.hid (HT1.out.below hb); have HT2 := Lib.hid (HT2.out.below hb); have HBA : Hid (Below w.heap.size w w18) := HBA.out.trans (hb.mono HBA.out.size); clear hb) | (go_at_call 22; ((with_reducible refine (nil_lacking _).mono ?_)); rintro e w19 ⟨rfl, hb⟩; have HT1 := Lib.hid (HT1.out.below hb); have HT2 := Lib.hid (HT2.out.below hb); have HBA : Hid (Below w.heap.size w w19) := HBA.out.trans (hb.mono HBA.out.size); clear hb) | (go_at_call 23; ((with_reducible refine (nil_count 1 _).mono ?_)); rintro e w20 ⟨rfl, hb⟩; have HT1 := Lib.hid (HT1.out.below hb); have HT2 := Lib.hid (HT2.out.below hb); have HBA : Hid (Below w.heap.size w w20) := HBA.out.trans (hb.mono HBA.out.size); clear hb) | (go_at_call 18; ((with_reducible refine (nil_copy _).mono ?_)); rintro e w21 ⟨rfl, hb⟩; have HT1 := Lib.hid (HT1.out.below hb); have HT2 := Lib.hid (HT2.out.below hb); have HBA : Hid (Below w.heap.size w w21) := HBA.out.trans (hb.mono HBA.out.size); clear hb))
              go_wp2_with fail
              go_ret
              exact ⟨rfl, HBA.out⟩
end Go.Proofs.Ytkjkkcaiddeggaa
