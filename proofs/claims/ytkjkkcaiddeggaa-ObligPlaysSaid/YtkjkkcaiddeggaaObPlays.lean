/-
  The law ObligPlays returns true, over this seat's translation: its walk.
-/
import Derived.Test.YtkjkkcaiddeggaaObTells
namespace Go.Proofs.Ytkjkkcaiddeggaa
open Go.RowKit

theorem ActOk.below {w w' : World} {B : Nat} {x : ActD} (h : ActOk w B x) (hb : Below B w w') : ActOk w' B x := ⟨h.seg.below hb, h.low, h.cap, h.top, h.num, h.amt⟩
theorem ActOk.up {w : World} {B B' : Nat} {x : ActD} (h : ActOk w B x) (hb : B ≤ B') : ActOk w B' x := ⟨h.seg.mono hb, fun hn p hp => Nat.lt_of_lt_of_le (h.low hn p hp) hb, h.cap, h.top, h.num, h.amt⟩
/-- Two sheets that are fine. -/
def TwoFine (w : World) (bs bq base : Nat) (L : List Ob) : Prop := (∃ v vq, Two w bs bq base v vq L) ∧ Fine L
theorem two_new (w : World) : Two ((w.alloc (.cells #[.slice none 0 0] 54)).alloc (.cells #[.slice none 0 0] 41)) w.heap.size (w.heap.size + 1) w.heap.size (.slice none 0 0) (.slice none 0 0) [] :=
  ⟨(new_at w).below ((Below.refl _ _).alloc (Nat.le_refl _) _), ⟨heap_alloc_new' _ _ (by simp), ⟨by simp [obRows], Or.inl ⟨rfl, rfl⟩⟩⟩, fun j hj => by simp [Value.ownBlock] at hj⟩

set_option maxRecDepth 100000 in
set_option maxHeartbeats 3200000 in
theorem plays_any (l : List ActD) (A : Option Addr) (c : Nat) (w : World) (hs : Seg w w.heap.size A (actRows l)) (hl : l.length ≤ maxLen) (hok : ∀ x ∈ l, ActOk w w.heap.size x) :
    Calls Try.prog 4 #[.slice A l.length c] w fun e w' => e = .returned (.bool true) ∧ Below w.heap.size w w' := by
  have HS := Lib.hid hs
  have HOK := Lib.hid hok
  have HFW := Lib.hid (few_any l A c w.heap.size w hs hl (fun x hx => (hok x hx).top))
  clear hs hok hl
  cases hf : fewB l
  · go_enter Try.func4, Try.ntmps4
    go_wp2_with fail
    refine HFW.out.mono ?_
    rintro e w1 ⟨rfl, rfl⟩
    go_wp2_with fail
    refine (awake_any _).mono ?_
    rintro e w1 ⟨rfl, hb1⟩
    go_wp2_with fail
    go_ret
    exact ⟨rfl, hb1⟩
  have h40 : l.length ≤ 40 := by unfold fewB at hf; simp at hf; exact hf.1
  have H30 : Hid (∀ x ∈ l, x.nets.length ≤ 30) := by show ∀ x ∈ l, _; unfold fewB at hf; simp at hf; exact hf.2
  go_enter Try.func4, Try.ntmps4
  go_wp2_with fail
  refine HFW.out.mono ?_
  rintro e w1 ⟨rfl, rfl⟩
  go_wp2_with fail
  refine (new_any w).mono ?_
  rintro e w0 ⟨rfl, rfl⟩
  have HB0 : Hid (Below w.heap.size w ((w.alloc (.cells #[.slice none 0 0] 54)).alloc (.cells #[.slice none 0 0] 41))) := ((Below.refl _ _).alloc (Nat.le_refl _) _).alloc (by simp) _
  have HN := Lib.hid (two_new w)
  go_wp2_with fail
  go_loopw [5] (fun i wr => ∃ k : Nat, k ≤ l.length ∧ i = .int .i64 k ∧ Hid (Below w.heap.size w wr) ∧ Hid (∃ L, TwoFine wr w.heap.size (w.heap.size + 1) w.heap.size L)) (fun i _ => l.length - (intOf i).toNat)
  case atStart => exact ⟨0, Nat.zero_le _, rfl, HB0.out, ⟨[], ⟨⟨_, _, HN.out⟩, fine_nil⟩⟩⟩
  case round =>
    obtain ⟨k, hk, rfl, HB, HX⟩ := hrel
    obtain ⟨L, ⟨v, vq, htw⟩, hfi⟩ := HX.out
    have hsz := HB.out.size
    have HT := Lib.hid htw
    have HFI := Lib.hid hfi
    have hll := hfi.len
    clear htw hfi
    by_cases hlt : k < l.length
    · obtain ⟨b, o, rfl, hb, d0, d1, d2, d3, d4, d5⟩ := act_at (HS.out.below HB.out) hlt
      have HOKk := Lib.hid (HOK.out l[k] (List.getElem_mem hlt))
      have h30k := H30.out l[k] (List.getElem_mem hlt)
      have HTd := Lib.hid (HT.out.below (Below.refl _ _).drew)
      have HBd := Lib.hid HB.out.drew
      have HKEEP : Hid (∀ w', Below w.heap.size w w' → w'.cell? ⟨b, o + k * 6, none⟩ = some (.int .i64 l[k].kind) ∧ w'.cell? ⟨b, o + k * 6 + 1, none⟩ = some (.slice l[k].A l[k].nets.length l[k].cap) ∧ w'.cell? ⟨b, o + k * 6 + 2, none⟩ = some (.int .i64 l[k].m) ∧ w'.cell? ⟨b, o + k * 6 + 3, none⟩ = some (.int .i64 l[k].a) ∧ w'.cell? ⟨b, o + k * 6 + 4, none⟩ = some (.int .i64 l[k].st) ∧ w'.cell? ⟨b, o + k * 6 + 5, none⟩ = some (.int .i64 l[k].n)) := fun w' hw' => by
        obtain ⟨b', o', e', _, z⟩ := act_at (HS.out.below hw') hlt
        injection e' with e'
        injection e' with e1 e2
        subst e1 e2
        exact z
      have hkb : (k : Int) < (l.length : Int) := by omega
      have hk0 : (0 : Int) ≤ (k : Int) := by omega
      go_upto_region 7 with fail
      go_region_held3 (fun w' => w'.cell? ⟨b, o + k * 6, none⟩ = some (.int .i64 l[k].kind) ∧ w'.cell? ⟨b, o + k * 6 + 1, none⟩ = some (.slice l[k].A l[k].nets.length l[k].cap) ∧ w'.cell? ⟨b, o + k * 6 + 2, none⟩ = some (.int .i64 l[k].m) ∧ w'.cell? ⟨b, o + k * 6 + 3, none⟩ = some (.int .i64 l[k].a) ∧ w'.cell? ⟨b, o + k * 6 + 4, none⟩ = some (.int .i64 l[k].st) ∧ w'.cell? ⟨b, o + k * 6 + 5, none⟩ = some (.int .i64 l[k].n)) (first | exact HKEEP.out _ HBd.out | exact HKEEP.out _ HB1.out | exact HKEEP.out _ HB2.out)
        (first | (go_at_call 15; refine (does_any L l[k] v vq w.heap.size (w.heap.size + 1) w.heap.size _ HTd.out HFI.out (HOKk.out.below HBd.out) h30k (Nat.le_refl _) (Nat.le_succ _)).mono ?_; rintro e w1 ⟨v1, vq1, rfl, t1, t2, t3, t4⟩; have HB1 : Hid (Below w.heap.size w w1) := HBd.out.trans (t2.below (Nat.le_refl _) (Nat.le_succ _) (own_base HTd.out.s.own) (own_base HTd.out.q.own) hsz); have HT1 := Lib.hid t1; have HF1 := Lib.hid (fine_act _ HFI.out HOKk.out.num); clear t1 t2 t3 t4) | (go_at_call 16; refine (tells_any _ l[k].m l[k].a l[k].st v1 vq1 w.heap.size (w.heap.size + 1) w.heap.size _ HT1.out HF1.out).mono ?_; rintro e w2 ⟨rfl, hb2⟩; have HT2 := Lib.hid (HT1.out.below hb2); have HB2 : Hid (Below w.heap.size w w2) := HB1.out.trans (hb2.mono HB1.out.size); clear hb2))
      have HT3 : Hid (∃ L, TwoFine w2 w.heap.size (w.heap.size + 1) w.heap.size L) := ⟨_, ⟨_, _, HT2.out⟩, HF1.out⟩
      clear d0 d1 d2 d3 d4 d5
      go_wp2_with fail
      go_roundw
      case rel => exact ⟨k + 1, by omega, by go_num, HB2, HT3⟩
      case measure => simp [intOf]; omega
    · obtain rfl : k = l.length := by omega
      have hl6 : L.length ≤ 1000000 := by omega
      have HTd := Lib.hid (HT.out.below (Below.refl _ _).drew)
      have HBd := Lib.hid HB.out.drew
      obtain ⟨Aq, cq, rfl⟩ := own_form HT.out.q.own
      go_upto_region 9 with fail
      go_region_held3 (fun w' => w'.cell? ⟨w.heap.size + 1, 0, none⟩ = some (.slice Aq L.length cq)) (first | exact HTd.out.q.c0 | exact HT1.out.q.c0 | exact HT2.out.q.c0 | exact HT3.out.q.c0)
        (first | (go_at_call 7; refine (awake_any _).mono ?_; rintro e w1 ⟨rfl, hb1⟩; have HT1 := Lib.hid (HTd.out.below hb1); have HB1 : Hid (Below w.heap.size w w1) := HBd.out.trans (hb1.mono HBd.out.size); clear hb1) | (go_at_call 9; refine (all_any L v w.heap.size w.heap.size _ HT1.out.s hl6).mono ?_; rintro e w2 ⟨va, rfl, ho, hb⟩; obtain ⟨Aa, ca, rfl⟩ := own_form ho; have HSA := Lib.hid (Seg.of_own ho); have HT2 := Lib.hid (HT1.out.below hb); have HB2 : Hid (Below w.heap.size w w2) := HB1.out.trans (hb.mono HB1.out.size); clear ho hb) | (go_at_call 17; refine (same_below Aa Aq ca cq _ HSA.out (Seg.of_own HT2.out.q.own) hl6).mono ?_; rintro e w3 ⟨rfl, hb3⟩; have HT3 := Lib.hid (HT2.out.below hb3); have HB3 : Hid (Below w.heap.size w w3) := HB2.out.trans (hb3.mono HB2.out.size); clear hb3))
      go_wp2_with fail
      go_ret
      exact ⟨rfl, HB3.out⟩
end Go.Proofs.Ytkjkkcaiddeggaa
