/-
  What fall.sources and fall.Room come to, over this seat's translation: contracts for callers.
-/
import Derived.Test.YtglpnpjjjihghaaFl4
import Derived.TacticsIn
import Derived.RegionIn
namespace Go.Proofs.Ytglpnpjjjihghaa
open Go.RowKit Go.Shelf
attribute [local go_sem] Oper.semAt_some

set_option maxHeartbeats 400000 in
theorem sources_any (p : Pol) (A : Option Addr) (n c : Nat) (w : World) :
    Calls Try.prog 49 #[p.val, .slice A n c] w fun e w' => e = .returned (.func (.func 72) #[] #[.pointer (some ⟨w.heap.size + 1, 0, none⟩), .pointer (some ⟨w.heap.size, 0, none⟩)]) ∧ (w.alloc (.cells #[.slice p.Ac p.co.length p.cc, .slice p.Af p.fu.length p.cf, .int .i64 p.line, .int .i64 p.cap] 37)).alloc (.cells #[.slice A n c] 38) = w' := by
  unfold Pol.val
  go_enter Try.func49, Try.ntmps49
  go_wp2_with fail
  go_ret
  exact ⟨rfl, rfl⟩
/-- The pool's boxes, once fall.sources has been called. -/
theorem polAt_new (p : Pol) (os : List Int) (A : Option Addr) (c n1 : Nat) (w : World) (h : PolOk w p) (hs : Seg w w.heap.size A (os.map (Value.int .i64))) (hn : w.heap.size = n1) :
    ∀ W, KpP n1 n1 n1 w W → PolAt n1 ((W.alloc (.cells #[.slice p.Ac p.co.length p.cc, .slice p.Af p.fu.length p.cf, .int .i64 p.line, .int .i64 p.cap] 37)).alloc (.cells #[.slice A os.length c] 38)) (W.heap.size + 1) W.heap.size p os A c := by
  intro W hW
  subst hn
  have hsz := hW.size
  have hk : ∀ q : Addr, q.block < w.heap.size → ((W.alloc (.cells #[.slice p.Ac p.co.length p.cc, .slice p.Af p.fu.length p.cf, .int .i64 p.line, .int .i64 p.cap] 37)).alloc (.cells #[.slice A os.length c] 38)).cell? q = w.cell? q := fun q hq => by
    rw [World.cell?_alloc_lt _ _ _ (by simp; omega), World.cell?_alloc_lt _ _ _ (by omega)]
    exact World.cell?_of_block (hW.keep q.block (.inl hq) hq)
  refine ⟨by rw [cell_new _ _ _ _ (by simp)]; rfl, ?_, ?_, ?_, ?_, hs.keep hk, h.c.seg.keep hk, h.f.seg.keep hk, by simp, by simp; omega, by simp; omega⟩
  all_goals
    rw [cell_old _ _ _ (by simp), cell_new _ _ _ _ rfl]
    rfl
/-- What all sources come to, as the loop adds it. -/
def rmF (ys : List (List Dw)) : Int := ys.foldl (fun n y => IntKind.i64.wrap (n + totV y)) 0
theorem rmF_snoc (ys : List (List Dw)) (y : List Dw) : rmF (ys ++ [y]) = IntKind.i64.wrap (rmF ys + totV y) := by simp [rmF]
def roomV (p : Pol) (os : List Int) : Int := if mayE p os = 0 then rmF (srcs p os) else 0
/-- A pool that may be, and who is out. -/
structure MayF (p : Pol) (os : List Int) : Prop where
  len : p.fu.length = p.co.length
  big : p.co.length ≤ 16
  os1 : ∀ m ∈ os, 1 ≤ m ∧ m ≤ p.co.length
  all : ∀ x ∈ polL p, 0 ≤ x ∧ x ≤ 1099511627776
theorem mayF_of {p : Pol} {os : List Int} (h : mayE p os = 0) : MayF p os := by
  have h0 : polE p = 0 := by
    unfold mayE at h
    by_cases h0 : polE p = 0
    · exact h0
    · rw [if_pos h0] at h; exact h
  have hb : polB p = true := by
    unfold polE at h0
    by_cases hb : polB p = true
    · exact hb
    · rw [if_neg hb] at h0; exact absurd h0 (by decide)
  unfold polB at hb
  simp only [Bool.and_eq_true, decide_eq_true_eq] at hb
  refine ⟨hb.1.symm, hb.2.1, fun m hm => ?_, fun x hx => ?_⟩
  · obtain ⟨k, hk, rfl⟩ := List.getElem_of_mem hm
    by_cases hbad : obad p.co.length os k = true
    · rw [mayE_bad h0 hk hbad] at h
      exact absurd h (by decide)
    · have hf : obad p.co.length os k = false := by simpa using hbad
      unfold obad at hf
      rw [getD_at hk] at hf
      simp only [Bool.or_eq_false_iff, decide_eq_false_iff_not] at hf
      omega
  · have := List.all_eq_true.1 hb.2.2 x hx
    unfold okN at this
    simp only [Bool.and_eq_true, decide_eq_true_eq] at this
    exact this
theorem MayF.i64 {p : Pol} {os : List Int} (h : MayF p os) : (∀ x ∈ p.co, I64 x) ∧ (∀ x ∈ p.fu, I64 x) ∧ I64 p.line ∧ I64 p.cap := by
  have k : ∀ x ∈ polL p, I64 x := fun x hx => by have := h.all x hx; unfold I64; omega
  exact ⟨fun x hx => k x (by simp [polL, hx]), fun x hx => k x (by simp [polL, hx]), k _ (by simp [polL]), k _ (by simp [polL])⟩
theorem kpp_t {n1 bo bp : Nat} {A B C : World} (h : KpP n1 bo bp A B) (k : KpP n1 bo bp B C) : KpP n1 bo bp A C := h.trans k
theorem kpp_b {n1 bo bp B : Nat} (h1 : n1 ≤ B) (h2 : bo < B) (h3 : bp < B) : ∀ (W : World) (l : Nat) (o o' : Obj), B ≤ l → W.heap[l]? = some o → o.isCells = false → o.isWalk = false → KpP n1 bo bp W (W.putObj l o') := fun _ _ _ _ hl _ _ _ =>
  ⟨by simp [World.putObj], fun _ hk _ => World.putObj_heap_other (by omega)⟩
theorem hd_b (v : Value) (y : List Dw) (W : World) (l : Nat) (o o' : Obj) (h : HdDw v y W) (hl : W.heap[l]? = some o) (ho : o.isCells = false) : HdDw v y (W.putObj l o') := by
  obtain ⟨A, c, e, hs, h1, h2⟩ := h
  refine ⟨A, c, e, fun j u hu => ?_, h1, h2⟩
  obtain ⟨b, o9, e9, hb, hc⟩ := hs j u hu
  refine ⟨b, o9, e9, by simpa [World.putObj] using hb, ?_⟩
  have hne : b ≠ l := fun e => by
    subst e
    unfold World.cell? at hc
    rw [hl] at hc
    cases o <;> simp [Obj.isCells] at ho hc
  rw [← hc]
  exact World.cell?_of_block (w := W) (w' := W.putObj l o') (a := ⟨b, o9 + j, none⟩) (World.putObj_heap_other (by simpa using hne))
theorem keeps_below {W W' : World} (h : Below W.heap.size W W') : KeepsOthers W W' := ⟨h.size, fun k _ hk _ => (h.block k (Array.getElem?_eq_some_iff.1 hk).1).trans hk⟩
theorem room_round {w W w' : World} {bn : Nat} {pre : List (List Dw)} {y : List Dw} {a : Act} {z : Int} (hb : Below W.heap.size W w') (hw : w.heap.size ≤ bn) (hb9 : Below w.heap.size w W) (hcw : ∃ u, w'.cell? ⟨bn, 0, none⟩ = some u) (hfw : w'.frozen? ⟨bn, 0, none⟩ = false) (hz : rmF (pre ++ [y]) = z) :
    handPost (KpP w.heap.size (bn + 1 + 1) (bn + 1)) (fun pre W => (W.cell? ⟨bn, 0, none⟩ = some (.int .i64 (rmF pre)) ∧ W.frozen? ⟨bn, 0, none⟩ = false) ∧ Below w.heap.size w W) (pre ++ [y]) W .normal a (w'.setCell ⟨bn, 0, none⟩ (.int .i64 z)) := by
  obtain ⟨u, hu⟩ := hcw
  refine ⟨(keeps_below hb).trans (KeepsOthers.setCell _ _ _), (KpP.of_below hb).trans ⟨by simp [World.setCell], fun k hk _ => Below.heap_setCell _ _ _ _ (by simp only [ne_eq]; omega)⟩, ⟨?_, ?_⟩, (hb9.trans (hb.mono hb9.size)).setCell (by simpa using hw) _⟩
  · rw [hz]
    exact World.cell?_setCell_same' _ _ _ (by rw [hu]; rfl)
  · rw [World.frozen?_setCell]
    exact hfw
set_option maxRecDepth 100000 in
set_option maxHeartbeats 3200000 in
theorem room_any (p : Pol) (os : List Int) (A : Option Addr) (c : Nat) (w : World) (h : PolOk w p) (hc : p.co.length ≤ maxLen) (hs : Seg w w.heap.size A (os.map (Value.int .i64))) (hl : os.length ≤ 1000) (hI : ∀ x ∈ os, I64 x) :
    Calls Try.prog 22 #[p.val, .slice A os.length c] w fun e w' => e = .returned (.tuple #[.int .i64 (roomV p os), .int .i64 (mayE p os)]) ∧ Below w.heap.size w w' := by
  have HB0 : Hid (Below w.heap.size w (w.alloc (.cells #[.slice p.Ac p.co.length p.cc, .slice p.Af p.fu.length p.cf, .int .i64 p.line, .int .i64 p.cap] 37))) := Lib.hid ((Below.refl _ _).alloc (Nat.le_refl _) _)
  have HM : Hid (∀ W, Below w.heap.size w W → Calls Try.prog 46 #[p.val, .slice A os.length c] W fun e w' => e = .returned (.int .i64 (mayE p os)) ∧ Below W.heap.size W w') := Lib.hid fun W hW => may_any p os A c W (h.below hW) hc ((hs.below hW).mono hW.size) (by omega) hI
  have HPN := Lib.hid (polAt_new p os A c w.heap.size w h hs rfl)
  have HSO : Hid (∀ W, Calls Try.prog 49 #[p.val, .slice A os.length c] W fun e w' => e = .returned (.func (.func 72) #[] #[.pointer (some ⟨W.heap.size + 1, 0, none⟩), .pointer (some ⟨W.heap.size, 0, none⟩)]) ∧ (W.alloc (.cells #[.slice p.Ac p.co.length p.cc, .slice p.Af p.fu.length p.cf, .int .i64 p.line, .int .i64 p.cap] 37)).alloc (.cells #[.slice A os.length c] 38) = w') := Lib.hid fun W => sources_any p A os.length c W
  have HRV : Hid (roomV p os = if mayE p os = 0 then rmF (srcs p os) else 0) := Lib.hid rfl
  have HMF := Lib.hid (fun h => mayF_of (p := p) (os := os) h)
  clear h hs hI
  generalize roomV p os = rv at *
  unfold Pol.val at *
  by_cases h0 : mayE p os = 0
  · have F := HMF.out h0
    rw [h0] at HM ⊢
    rw [if_pos h0] at HRV
    have HF := Lib.hid F
    clear F h0 HMF
    refine (callsIn_wide (n := 9)).1 ?_
    refine callsIn_of_wp_marks Try.func22 rfl trivial ?_ rfl
    simp only [Try.ntmps22, List.size_toArray, List.length_cons, List.length_nil, Nat.reduceAdd, Nat.reduceSub, Array.replicate_succ, Array.replicate_zero, List.push_toArray, List.append_toArray, List.nil_append, List.cons_append]
    gi_wp2
    refine ⟨trivial, ?_⟩
    refine (callsIn_wide.2 (HM.out _ HB0.out)).mono ?_
    rintro e w1 ⟨rfl, hb1⟩
    have HB1 : Hid (Below w.heap.size w w1) := Lib.hid (HB0.out.trans (hb1.mono HB0.out.size))
    have q0 : w1.cell? ⟨w.heap.size, 0, none⟩ = some (.slice p.Ac p.co.length p.cc) := (hb1.cell (p := ⟨w.heap.size, 0, none⟩) (by simp)).trans (by rw [cell_new _ _ _ _ rfl]; rfl)
    have q1 : w1.cell? ⟨w.heap.size, 1, none⟩ = some (.slice p.Af p.fu.length p.cf) := (hb1.cell (p := ⟨w.heap.size, 1, none⟩) (by simp)).trans (by rw [cell_new _ _ _ _ rfl]; rfl)
    have q2 : w1.cell? ⟨w.heap.size, 2, none⟩ = some (.int .i64 p.line) := (hb1.cell (p := ⟨w.heap.size, 2, none⟩) (by simp)).trans (by rw [cell_new _ _ _ _ rfl]; rfl)
    have q3 : w1.cell? ⟨w.heap.size, 3, none⟩ = some (.int .i64 p.cap) := (hb1.cell (p := ⟨w.heap.size, 3, none⟩) (by simp)).trans (by rw [cell_new _ _ _ _ rfl]; rfl)
    have hlt1 : w.heap.size < w1.heap.size := by have := hb1.size; simp at this; omega
    clear hb1 HB0
    gi_wp2
    refine ⟨trivial, ?_⟩
    refine (callsIn_wide.2 (HSO.out _)).mono ?_
    rintro e w3 ⟨rfl, hw3⟩
    have hzn : (w1.alloc (.cells #[.int .i64 0] 2)).heap.size = w1.heap.size + 1 := by simp
    have HBN : Hid (Below w.heap.size w (w1.alloc (.cells #[.int .i64 0] 2))) := Lib.hid (HB1.out.alloc HB1.out.size _)
    have HPA := HPN.out _ (KpP.of_below HBN.out)
    rw [hw3, hzn] at HPA
    have hsz3 : w3.heap.size = w1.heap.size + 3 := by rw [← hw3]; simp
    have HB3 : Hid (Below w.heap.size w w3) := Lib.hid (by
      rw [← hw3]
      exact (HBN.out.alloc HBN.out.size _).alloc (Nat.le_trans HBN.out.size (by simp)) _)
    have hn3 : w3.cell? ⟨w1.heap.size, 0, none⟩ = some (.int .i64 0) := by
      rw [← hw3, World.cell?_alloc_lt _ _ _ (by simp; omega), World.cell?_alloc_lt _ _ _ (by simp), cell_new _ _ _ _ rfl]
      rfl
    have hf3 : w3.frozen? ⟨w1.heap.size, 0, none⟩ = false := by
      rw [← hw3, World.frozen?_alloc_past _ _ _ (by simp; omega), World.frozen?_alloc_past _ _ _ (by simp), World.frozen?_alloc_at _ _ _ _ rfl]
    have hw1s := HB1.out.size
    clear hw3 HBN
    rw [hzn]
    gi_wp2
    refine wpIn_rangeFunc_hand (β := List Dw) rfl (by omega) (gf := 72) (lb := #[.pointer (some ⟨w1.heap.size + 1 + 1, 0, none⟩), .pointer (some ⟨w1.heap.size + 1, 0, none⟩)]) rfl trivial (enters_of Try.func72 (by kernel_rfl) rfl)
      (sources_hands 8 w.heap.size (w1.heap.size + 1 + 1) (w1.heap.size + 1) (by omega) p os A c w3 HPA HF.out.os1 HF.out.len (by have := HF.out.big; omega) hl HF.out.i64.1 HF.out.i64.2.1 HF.out.i64.2.2.1 HF.out.i64.2.2.2)
      kpp_t (kpp_b (by omega) (by omega) (by omega)) (Below.refl _ _) hd_b
      (fun pre W => (W.cell? ⟨w1.heap.size, 0, none⟩ = some (.int .i64 (rmF pre)) ∧ W.frozen? ⟨w1.heap.size, 0, none⟩ = false) ∧ Below w.heap.size w W)
      (OwnFrom.and (Own.from (fun s A B row hs hg hr => ⟨cell_kept hs.1 hg hr, (frozen_kept hs.1 hg hr).trans hs.2⟩) _) (ownFrom_below (Nat.le_refl _) (by omega)))
      ⟨⟨hn3, hf3⟩, HB3.out⟩ ?a1 ?assign ?body ?done
    case assign =>
      intro l v W K hK
      gi_wp2
      exact hK
    case body =>
      rintro l pre y v W ⟨⟨hc9, hf9⟩, hb9⟩ ⟨Ay, cy, rfl, hsy, hIy, hly⟩ _
      have hmx : Try.prog.follows .mixedOrders = true := by kernel_rfl
      have hnW : w1.heap.size < W.heap.size := by
        rcases Nat.lt_or_ge w1.heap.size W.heap.size with hh | hh
        · exact hh
        · unfold World.cell? at hc9
          rw [Array.getElem?_eq_none hh] at hc9
          cases hc9
      have HTT : Hid (∀ W2, Below W.heap.size W W2 → Calls Try.prog 30 #[.slice Ay y.length cy] W2 fun e w' => e = .returned (.int .i64 (totV y)) ∧ Below W2.heap.size W2 w') := Lib.hid fun W2 hW2 => total_any y Ay cy W2 ((hsy.below hW2).mono hW2.size) hIy (by omega)
      have HSY := Lib.hid (rmF_snoc pre y)
      clear hsy hIy
      generalize rmF pre = rp at *
      generalize totV y = ty at *
      gi_wp2
      gi_region_with_o (refine ⟨trivial, ?_⟩; gi_at_call 30; refine (CallsIn.inRound l (callsIn_wide.2 (HTT.out _ (by first | exact Below.refl _ _ | exact (Below.refl _ _).drew | exact (Below.refl _ _).drew.drew)))).mono ?_; rintro e w' ⟨rfl, hbw⟩; have hcw := (hbw.cell (p := ⟨w1.heap.size, 0, none⟩) hnW).trans hc9; have hfw := (hbw.frozen (p := ⟨w1.heap.size, 0, none⟩) hnW).trans hf9)
      all_goals gi_wp2
      all_goals exact room_round (((Below.refl _ _).drew).trans hbw) hw1s hb9 ⟨_, hcw⟩ hfw HSY.out
    case done =>
      rintro D W hD ⟨⟨hc9, hf9⟩, hb9⟩ hK
      gi_wp2
      refine ⟨by simp, .inl ⟨_, _, rfl, run_takeDeferred hK, ?_⟩⟩
      exact ⟨_, results_tmp2 rfl _ _ _, by rw [HRV.out]; rfl, hb9.trans (belowK_b (w := w) (Nat.le_refl _) W D _ _ (by omega) hK rfl rfl)⟩
  · have HE := Lib.hid h0
    rw [if_neg h0] at HRV
    have hen : (mayE p os != 0) = true := by simpa [bne] using h0
    clear h0 HMF HSO HPN
    generalize mayE p os = me at *
    go_enter Try.func22, Try.ntmps22
    go_wp2_with fail
    refine (HM.out _ HB0.out).mono ?_
    rintro e w1 ⟨rfl, hb1⟩
    have HB1 : Hid (Below w.heap.size w w1) := Lib.hid (HB0.out.trans (hb1.mono HB0.out.size))
    clear hb1
    go_wp2_with fail
    go_ret2
    exact ⟨by rw [HRV.out]; rfl, HB1.out⟩
end Go.Proofs.Ytglpnpjjjihghaa
