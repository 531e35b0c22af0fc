/-
  What audit.state.wrong comes to, over this seat's translation: contracts for callers.
-/
import Derived.Test.YtikcodnmlenpeaaDoorAudit2
import Derived.Test.YtikcodnmlenpeaaDoorRef34a
import Derived.Deep.RegionHeld3
import Derived.Deep.QuietTactic
import Derived.BigQuiet
import Derived.BigRegion
namespace Go.Proofs.YtikcodnmlenpeaaDoor
open Go.RowKit

/-- The words of the phases lie in their variable. -/
def WordsAt (w : World) : Prop := ∀ n, n < 6 → ∃ s : ByteArray, w.cell? ⟨0, n, none⟩ = some (.string s) ∧ s.toList ≠ []

/-- A state lies in two blocks. -/
structure StAt (w : World) (bs bh bo : Nat) (h : List Int) (ph : Int) : Prop where
  s : w.heap[bs]? = some (.cells #[.slice (some ⟨bh, 0, none⟩) h.length h.length, .int .i64 ph, .map (some bo)] 55 (0, 0))
  h : w.heap[bh]? = some (.cells (h.map (Value.int .i64)).toArray 2 (0, 0))

section
variable {w w' : World} {bs bh bo : Nat} {h : List Int} {ph : Int}
theorem lt_of_blk {g : Nat} {o : Obj} (hh : w.heap[g]? = some o) : g < w.heap.size := (Array.getElem?_eq_some_iff.1 hh).1
theorem StAt.below (x : StAt w bs bh bo h ph) (hb : Below w.heap.size w w') : StAt w' bs bh bo h ph :=
  ⟨(hb.block _ (lt_of_blk x.s)).trans x.s, (hb.block _ (lt_of_blk x.h)).trans x.h⟩
theorem StAt.c0 (x : StAt w bs bh bo h ph) : w.cell? ⟨bs, 0, none⟩ = some (.slice (some ⟨bh, 0, none⟩) h.length h.length) := cell_of_row _ _ _ _ _ (0, 0) x.s
theorem StAt.c1 (x : StAt w bs bh bo h ph) : w.cell? ⟨bs, 1, none⟩ = some (.int .i64 ph) := cell_of_row _ _ _ _ _ (0, 0) x.s
theorem StAt.c2 (x : StAt w bs bh bo h ph) : w.cell? ⟨bs, 2, none⟩ = some (.map (some bo)) := cell_of_row _ _ _ _ _ (0, 0) x.s
theorem StAt.ch (x : StAt w bs bh bo h ph) {i : Nat} (hi : i < h.length) : w.cell? ⟨bh, i, none⟩ = some (.int .i64 h[i]) := by
  rw [cell_of_row _ _ _ _ _ (0, 0) x.h]; simp [hi]
theorem StAt.f1 (x : StAt w bs bh bo h ph) (i : Nat) : w.frozen? ⟨bs, i, none⟩ = false := by simp [World.frozen?, x.s]
theorem StAt.fh (x : StAt w bs bh bo h ph) (i : Nat) : w.frozen? ⟨bh, i, none⟩ = false := by simp [World.frozen?, x.h]
end

set_option maxHeartbeats 400000 in
theorem word_at (n : Nat) (s : ByteArray) (w : World) (hc : w.cell? ⟨0, n, none⟩ = some (.string s)) (hn : n < 6) :
    Calls Tryd.prog 37 #[.int .i64 n] w fun e w' => e = .returned (.string s) ∧ w = w' := by
  have h0 : decide ((n : Int) < 0) = false := by simp
  have h6 : decide (6 ≤ (n : Int)) = false := by simp; omega
  go_enter Tryd.func37, Tryd.ntmps37
  go_wp2
  go_ret
  exact ⟨rfl, rfl⟩

set_option maxHeartbeats 800000 in
theorem wrong_form (ms ss : Int) (x : Ev) (bs : Nat) (w : World) (hr : rightB ms ss x = false) :
    Calls Tryd.prog 29 #[.pointer (some ⟨bs, 0, none⟩), .int .i64 ms, .int .i64 ss, x.val] w fun e w' => e = .returned (.int .i64 1) ∧ Below w.heap.size w w' := by
  obtain ⟨k, m, a, n, o⟩ := x
  show Calls Tryd.prog _ #[_, _, _, .agg #[.int .i64 k, .int .i64 m, .int .i64 a, .int .i64 n, .int .i64 o]] w _
  go_enter Tryd.func29, Tryd.ntmps29
  go_wp2_with (go_at_call 8; refine (right_any ms ss ⟨k, m, a, n, o⟩ _).mono ?_; rintro e w1 ⟨rfl, hb1⟩)
  go_ret
  exact ⟨rfl, ((Below.refl _ _).alloc (Nat.le_refl _) _).trans (hb1.mono (by simp))⟩

theorem blk_set {w : World} {g : Nat} {cs : Array Value} {t : TypeId} (h : w.heap[g]? = some (.cells cs t (0, 0))) (i : Nat) (u : Value) : (w.setCell ⟨g, i, none⟩ u).heap[g]? = some (.cells (cs.setIfInBounds i u) t (0, 0)) := by
  simp [World.setCell, Array.getElem?_modify, h]
theorem StAt.drewN {w : World} {bs bh bo : Nat} {h : List Int} {ph : Int} (x : StAt w bs bh bo h ph) (q : Nat) : StAt (w.drewN q) bs bh bo h ph := ⟨x.s, x.h⟩
theorem StAt.set {w : World} {bs bh bo : Nat} {h : List Int} {ph : Int} (x : StAt w bs bh bo h ph) (hne : bs ≠ bh) (i : Nat) (v : Int) :
    StAt (w.setCell ⟨bh, i, none⟩ (.int .i64 v)) bs bh bo (h.set i v) ph := by
  refine ⟨?_, ?_⟩
  · rw [Below.heap_setCell _ _ _ _ hne, List.length_set]; exact x.s
  · rw [blk_set x.h]
    have e : (h.map (Value.int .i64)).toArray.setIfInBounds i (.int .i64 v) = ((h.set i v).map (Value.int .i64)).toArray := by simp [List.map_set]
    rw [e]
theorem StAt.phase {w : World} {bs bh bo : Nat} {h : List Int} {ph : Int} (x : StAt w bs bh bo h ph) (hne : bs ≠ bh) (v : Int) :
    StAt (w.setCell ⟨bs, 1, none⟩ (.int .i64 v)) bs bh bo h v := by
  refine ⟨?_, ?_⟩
  · rw [blk_set x.s]; rfl
  · rw [Below.heap_setCell _ _ _ _ (fun e => hne e.symm)]; exact x.h

theorem flow_I64 (x : Ev) (h : I64 x.n) : I64 (flowI x) := by
  unfold flowI
  split
  · exact h
  · split
    · exact amtV_I64 _
    · unfold I64; omega

set_option maxRecDepth 100000 in
set_option maxHeartbeats 800000 in
theorem wrong_house (ms ss : Int) (x : Ev) (bs bh bo : Nat) (h : List Int) (ph : Int) (i : Nat) (w : World) (hs : StAt w bs bh bo h ph) (hr : rightB ms ss x = true) (hi : x.a = i) (hil : i < h.length)
   (hx : I64 x.n) (hI : I64 h[i]) (hno : ¬ (I64 (h[i] + flowI x) ∧ 0 ≤ h[i] + flowI x)) :
    Calls Tryd.prog 29 #[.pointer (some ⟨bs, 0, none⟩), .int .i64 ms, .int .i64 ss, x.val] w fun e w' => e = .returned (.int .i64 2) ∧ Below w.heap.size w w' := by
  obtain ⟨k, m, a, n, o⟩ := x
  simp only at hi hx
  subst hi
  show Calls Tryd.prog _ #[_, _, _, .agg #[.int .i64 k, .int .i64 m, .int .i64 i, .int .i64 n, .int .i64 o]] w _
  have HS := Lib.hid hs
  have HX := Lib.hid hx
  have HFI := Lib.hid (flow_I64 ⟨k, m, i, n, o⟩ hx)
  have hlt1 := lt_of_blk hs.s
  have hlt2 := lt_of_blk hs.h
  have HN := Lib.hid hno
  have HI := Lib.hid hI
  clear hs hx hno hI
  go_enter Tryd.func29, Tryd.ntmps29
  go_wp2_with (go_at_call 8; refine (right_any ms ss ⟨k, m, i, n, o⟩ _).mono ?_; rintro e w1 ⟨rfl, hb1⟩; have HB1 := Lib.hid hb1; clear hb1)
  have hsz1 : w.heap.size + 1 ≤ w1.heap.size := by have := HB1.out.size; simpa using this
  have HS1 := Lib.hid (StAt.below (HS.out.below ((Below.refl _ _).alloc (Nat.le_refl _) _)) HB1.out)
  have HE1 := Lib.hid (EvAt.keep (W := w.alloc (.cells #[.int .i64 k, .int .i64 m, .int .i64 i, .int .i64 n, .int .i64 o] 23)) (W' := w1) (b := w.heap.size) (x := ⟨k, m, i, n, o⟩) ⟨by rw [cell_new _ _ _ _ rfl]; rfl, by rw [cell_new _ _ _ _ rfl]; rfl, by rw [cell_new _ _ _ _ rfl]; rfl, by rw [cell_new _ _ _ _ rfl]; rfl, by rw [cell_new _ _ _ _ rfl]; rfl⟩ fun o => HB1.out.cell (p := ⟨_, o, none⟩) (by simp))
  have s0 := HS1.out.c0
  have sh := HS1.out.ch hil
  obtain ⟨e0, e1, e2, e3, e4⟩ := HE1.out
  have HK : Hid (∀ w', Below w1.heap.size w1 w' → w'.cell? ⟨bs, 0, none⟩ = some (.slice (some ⟨bh, 0, none⟩) h.length h.length) ∧ w'.cell? ⟨bh, i, none⟩ = some (.int .i64 h[i]) ∧ w'.cell? ⟨w.heap.size, 0, none⟩ = some (.int .i64 k) ∧ w'.cell? ⟨w.heap.size, 1, none⟩ = some (.int .i64 m) ∧ w'.cell? ⟨w.heap.size, 2, none⟩ = some (.int .i64 i) ∧ w'.cell? ⟨w.heap.size, 3, none⟩ = some (.int .i64 n) ∧ w'.cell? ⟨w.heap.size, 4, none⟩ = some (.int .i64 o) ∧ Below w1.heap.size w1 w') := fun w' hb => by
    have hS := HS1.out.below hb
    obtain ⟨q0, q1, q2, q3, q4⟩ := HE1.out.keep (W' := w') fun o => hb.cell (p := ⟨_, o, none⟩) (by simp; omega)
    exact ⟨hS.c0, hS.ch hil, q0, q1, q2, q3, q4, hb⟩
  go_region_held3 (fun w' => w'.cell? ⟨bs, 0, none⟩ = some (.slice (some ⟨bh, 0, none⟩) h.length h.length) ∧ w'.cell? ⟨bh, i, none⟩ = some (.int .i64 h[i]) ∧ w'.cell? ⟨w.heap.size, 0, none⟩ = some (.int .i64 k) ∧ w'.cell? ⟨w.heap.size, 1, none⟩ = some (.int .i64 m) ∧ w'.cell? ⟨w.heap.size, 2, none⟩ = some (.int .i64 i) ∧ w'.cell? ⟨w.heap.size, 3, none⟩ = some (.int .i64 n) ∧ w'.cell? ⟨w.heap.size, 4, none⟩ = some (.int .i64 o) ∧ Below w1.heap.size w1 w') (first | exact HK.out _ ((Below.refl _ _).drew) | exact HK.out _ (by assumption) | exact HK.out _ hb2)
    (first | (go_at_call 10; refine (flow_any ⟨k, m, i, n, o⟩ _ HX.out).mono ?_; rintro e w2 ⟨rfl, hb2'⟩; have hb2 : Below w1.heap.size w1 w2 := ((Below.refl _ _).drew).trans hb2'; clear hb2') | (go_at_call 35; refine (add_any _ _ _ HI.out HFI.out).mono ?_; rintro e w3 ⟨rfl, rfl⟩))
  have hne : ((amtE (h[i] + flowI ⟨k, m, i, n, o⟩) != 0) = true) ∨ ((amtE (h[i] + flowI ⟨k, m, i, n, o⟩) != 0) = false ∧ amtV (h[i] + flowI ⟨k, m, i, n, o⟩) < 0) := by
    have := HN.out
    by_cases hI : I64 (h[i] + flowI ⟨k, m, i, n, o⟩)
    · right
      rw [(amt_in hI).1, (amt_in hI).2]
      refine ⟨rfl, ?_⟩
      have : ¬ 0 ≤ h[i] + flowI ⟨k, m, i, n, o⟩ := fun h0 => this ⟨hI, h0⟩
      omega
    · left
      rw [(amt_out hI).2]
      rfl
  have HB2 := Lib.hid hb2
  clear hb2 s0 sh e0 e1 e2 e3 e4
  rcases hne with h1 | ⟨h1, h2⟩
  · go_wp2
    go_ret
    exact ⟨rfl, (((Below.refl _ _).alloc (Nat.le_refl _) _).trans (HB1.out.mono (by simp))).trans (HB2.out.mono (by omega))⟩
  · go_wp2
    go_ret
    exact ⟨rfl, (((Below.refl _ _).alloc (Nat.le_refl _) _).trans (HB1.out.mono (by simp))).trans (HB2.out.mono (by omega))⟩

set_option maxRecDepth 100000 in
set_option maxHeartbeats 1600000 in
theorem wrong_plain (ms ss : Int) (x : Ev) (bs bh bo : Nat) (h : List Int) (ph : Int) (i : Nat) (w : World) (hs : StAt w bs bh bo h ph) (hr : rightB ms ss x = true) (hi : x.a = i) (hil : i < h.length)
   (hx : I64 x.n) (hI : I64 h[i]) (hno : I64 (h[i] + flowI x) ∧ 0 ≤ h[i] + flowI x) (hk1 : (x.k == 1) = false) (hk8 : (x.k == 8) = false) (hbb : bs ≠ bh) :
    Calls Tryd.prog 29 #[.pointer (some ⟨bs, 0, none⟩), .int .i64 ms, .int .i64 ss, x.val] w fun e w' => e = .returned (.int .i64 0) ∧
      StAt w' bs bh bo (h.set i (h[i] + flowI x)) ph ∧ (∀ B, B ≤ bs → B ≤ bh → B ≤ w.heap.size → Below B w w') ∧ (∀ g, g < w.heap.size → g ≠ bs → g ≠ bh → w'.heap[g]? = w.heap[g]?) := by
  obtain ⟨k, m, a, n, o⟩ := x
  simp only at hi hx hk1 hk8
  subst hi
  show Calls Tryd.prog _ #[_, _, _, .agg #[.int .i64 k, .int .i64 m, .int .i64 i, .int .i64 n, .int .i64 o]] w _
  have HS := Lib.hid hs
  have HX := Lib.hid hx
  have HFI := Lib.hid (flow_I64 ⟨k, m, i, n, o⟩ hx)
  have hlt1 := lt_of_blk hs.s
  have hlt2 := lt_of_blk hs.h
  have HN := Lib.hid hno
  have HI := Lib.hid hI
  clear hs hx hno hI
  go_enter Tryd.func29, Tryd.ntmps29
  go_wp2_with (go_at_call 8; refine (right_any ms ss ⟨k, m, i, n, o⟩ _).mono ?_; rintro e w1 ⟨rfl, hb1⟩; have HB1 := Lib.hid hb1; clear hb1)
  have hsz1 : w.heap.size + 1 ≤ w1.heap.size := by have := HB1.out.size; simpa using this
  have HS1 := Lib.hid (StAt.below (HS.out.below ((Below.refl _ _).alloc (Nat.le_refl _) _)) HB1.out)
  have HE1 := Lib.hid (EvAt.keep (W := w.alloc (.cells #[.int .i64 k, .int .i64 m, .int .i64 i, .int .i64 n, .int .i64 o] 23)) (W' := w1) (b := w.heap.size) (x := ⟨k, m, i, n, o⟩) ⟨by rw [cell_new _ _ _ _ rfl]; rfl, by rw [cell_new _ _ _ _ rfl]; rfl, by rw [cell_new _ _ _ _ rfl]; rfl, by rw [cell_new _ _ _ _ rfl]; rfl, by rw [cell_new _ _ _ _ rfl]; rfl⟩ fun o => HB1.out.cell (p := ⟨_, o, none⟩) (by simp))
  have s0 := HS1.out.c0
  have sh := HS1.out.ch hil
  obtain ⟨e0, e1, e2, e3, e4⟩ := HE1.out
  have HK : Hid (∀ w', Below w1.heap.size w1 w' → w'.cell? ⟨bs, 0, none⟩ = some (.slice (some ⟨bh, 0, none⟩) h.length h.length) ∧ w'.cell? ⟨bh, i, none⟩ = some (.int .i64 h[i]) ∧ w'.cell? ⟨w.heap.size, 0, none⟩ = some (.int .i64 k) ∧ w'.cell? ⟨w.heap.size, 1, none⟩ = some (.int .i64 m) ∧ w'.cell? ⟨w.heap.size, 2, none⟩ = some (.int .i64 i) ∧ w'.cell? ⟨w.heap.size, 3, none⟩ = some (.int .i64 n) ∧ w'.cell? ⟨w.heap.size, 4, none⟩ = some (.int .i64 o) ∧ Below w1.heap.size w1 w') := fun w' hb => by
    have hS := HS1.out.below hb
    obtain ⟨q0, q1, q2, q3, q4⟩ := HE1.out.keep (W' := w') fun o => hb.cell (p := ⟨_, o, none⟩) (by simp; omega)
    exact ⟨hS.c0, hS.ch hil, q0, q1, q2, q3, q4, hb⟩
  go_region_held3 (fun w' => w'.cell? ⟨bs, 0, none⟩ = some (.slice (some ⟨bh, 0, none⟩) h.length h.length) ∧ w'.cell? ⟨bh, i, none⟩ = some (.int .i64 h[i]) ∧ w'.cell? ⟨w.heap.size, 0, none⟩ = some (.int .i64 k) ∧ w'.cell? ⟨w.heap.size, 1, none⟩ = some (.int .i64 m) ∧ w'.cell? ⟨w.heap.size, 2, none⟩ = some (.int .i64 i) ∧ w'.cell? ⟨w.heap.size, 3, none⟩ = some (.int .i64 n) ∧ w'.cell? ⟨w.heap.size, 4, none⟩ = some (.int .i64 o) ∧ Below w1.heap.size w1 w') (first | exact HK.out _ ((Below.refl _ _).drew) | exact HK.out _ (by assumption) | exact HK.out _ hb2)
    (first | (go_at_call 10; refine (flow_any ⟨k, m, i, n, o⟩ _ HX.out).mono ?_; rintro e w2 ⟨rfl, hb2'⟩; have hb2 : Below w1.heap.size w1 w2 := ((Below.refl _ _).drew).trans hb2'; clear hb2') | (go_at_call 35; refine (add_any _ _ _ HI.out HFI.out).mono ?_; rintro e w3 ⟨rfl, rfl⟩))
  have HB2 := Lib.hid hb2
  clear hb2 s0 sh e0 e1 e2 e3 e4
  have hE : amtE (h[i] + flowI ⟨k, m, i, n, o⟩) = 0 := (amt_in HN.out.1).2
  have hV : amtV (h[i] + flowI ⟨k, m, i, n, o⟩) = h[i] + flowI ⟨k, m, i, n, o⟩ := (amt_in HN.out.1).1
  have h0 : 0 ≤ h[i] + flowI ⟨k, m, i, n, o⟩ := HN.out.2
  generalize hnw : h[i] + flowI ⟨k, m, i, n, o⟩ = nw at *
  have HNW := Lib.hid hnw
  clear hnw
  obtain ⟨s0, sh, e0, e1, e2, e3, e4, _⟩ := HK.out _ HB2.out
  have HS2 := Lib.hid (HS1.out.below HB2.out)
  have fz := HS2.out.fh i
  have hx1 : bh ≠ w.heap.size := by omega
  have hx2 : w.heap.size ≠ bh := by omega
  go_wp2
  go_quiet (fail)
  go_wp2
  go_quiet (fail)
  go_wp2
  go_region
  go_wp2
  go_ret
  have hbw : Below (w.heap.size + 1) (w.alloc _) w2 := (HB1.out.mono (by simp)).trans (HB2.out.mono (by omega))
  have hbw' : Below w.heap.size w w2 := ((Below.refl _ _).alloc (Nat.le_refl _) _).trans (hbw.mono (by omega))
  refine ⟨rfl, ?_, fun B h1 h2 h3 => ?_, fun g h1 h2 h3 => ?_⟩
  · rw [HNW.out]
    exact (HS2.out.drewN _).set hbb i nw
  · exact (below_drewN (hbw'.mono h3) _).setCell h2 _
  · rw [Below.heap_setCell _ _ _ _ h3]
    exact hbw'.block g h1
set_option maxRecDepth 100000 in
set_option maxHeartbeats 1600000 in
theorem wrong_phase (ms ss : Int) (x : Ev) (bs bh bo : Nat) (h : List Int) (ph : Int) (i : Nat) (w : World) (hs : StAt w bs bh bo h ph) (hr : rightB ms ss x = true) (hi : x.a = i) (hil : i < h.length)
   (hx : I64 x.n) (hI : I64 h[i]) (hno : I64 (h[i] + flowI x) ∧ 0 ≤ h[i] + flowI x) (hk1 : x.k = 1) (hn0 : 0 ≤ x.n) (hn5 : x.n ≤ 5) (hw : WordsAt w) (hw0 : 0 < w.heap.size) (_hbs : bs ≠ 0) (hbh : bh ≠ 0)
   (hfol : ∀ W, Below w.heap.size w W → Calls Tryd.prog 36 #[.int .i64 ph, .int .i64 x.n] W fun e w' => e = .returned (.bool true) ∧ Below W.heap.size W w') (hbb : bs ≠ bh) :
    Calls Tryd.prog 29 #[.pointer (some ⟨bs, 0, none⟩), .int .i64 ms, .int .i64 ss, x.val] w fun e w' => e = .returned (.int .i64 0) ∧
      StAt w' bs bh bo (h.set i (h[i] + flowI x)) x.n ∧ (∀ B, B ≤ bs → B ≤ bh → B ≤ w.heap.size → Below B w w') ∧ (∀ g, g < w.heap.size → g ≠ bs → g ≠ bh → w'.heap[g]? = w.heap[g]?) := by
  obtain ⟨k, m, a, n, o⟩ := x
  simp only at hi hx hk1 hn0 hn5 hfol
  subst hi hk1
  have HF := Lib.hid hfol
  have HW := Lib.hid hw
  clear hfol hw
  show Calls Tryd.prog _ #[_, _, _, .agg #[.int .i64 1, .int .i64 m, .int .i64 i, .int .i64 n, .int .i64 o]] w _
  have HS := Lib.hid hs
  have HX := Lib.hid hx
  have HFI := Lib.hid (flow_I64 ⟨1, m, i, n, o⟩ hx)
  have hlt1 := lt_of_blk hs.s
  have hlt2 := lt_of_blk hs.h
  have HN := Lib.hid hno
  have HI := Lib.hid hI
  clear hs hx hno hI
  go_enter Tryd.func29, Tryd.ntmps29
  go_wp2_with (go_at_call 8; refine (right_any ms ss ⟨1, m, i, n, o⟩ _).mono ?_; rintro e w1 ⟨rfl, hb1⟩; have HB1 := Lib.hid hb1; clear hb1)
  have hsz1 : w.heap.size + 1 ≤ w1.heap.size := by have := HB1.out.size; simpa using this
  have HS1 := Lib.hid (StAt.below (HS.out.below ((Below.refl _ _).alloc (Nat.le_refl _) _)) HB1.out)
  have HE1 := Lib.hid (EvAt.keep (W := w.alloc (.cells #[.int .i64 1, .int .i64 m, .int .i64 i, .int .i64 n, .int .i64 o] 23)) (W' := w1) (b := w.heap.size) (x := ⟨1, m, i, n, o⟩) ⟨by rw [cell_new _ _ _ _ rfl]; rfl, by rw [cell_new _ _ _ _ rfl]; rfl, by rw [cell_new _ _ _ _ rfl]; rfl, by rw [cell_new _ _ _ _ rfl]; rfl, by rw [cell_new _ _ _ _ rfl]; rfl⟩ fun o => HB1.out.cell (p := ⟨_, o, none⟩) (by simp))
  have s0 := HS1.out.c0
  have sh := HS1.out.ch hil
  obtain ⟨e0, e1, e2, e3, e4⟩ := HE1.out
  have HK : Hid (∀ w', Below w1.heap.size w1 w' → w'.cell? ⟨bs, 0, none⟩ = some (.slice (some ⟨bh, 0, none⟩) h.length h.length) ∧ w'.cell? ⟨bh, i, none⟩ = some (.int .i64 h[i]) ∧ w'.cell? ⟨w.heap.size, 0, none⟩ = some (.int .i64 1) ∧ w'.cell? ⟨w.heap.size, 1, none⟩ = some (.int .i64 m) ∧ w'.cell? ⟨w.heap.size, 2, none⟩ = some (.int .i64 i) ∧ w'.cell? ⟨w.heap.size, 3, none⟩ = some (.int .i64 n) ∧ w'.cell? ⟨w.heap.size, 4, none⟩ = some (.int .i64 o) ∧ Below w1.heap.size w1 w') := fun w' hb => by
    have hS := HS1.out.below hb
    obtain ⟨q0, q1, q2, q3, q4⟩ := HE1.out.keep (W' := w') fun o => hb.cell (p := ⟨_, o, none⟩) (by simp; omega)
    exact ⟨hS.c0, hS.ch hil, q0, q1, q2, q3, q4, hb⟩
  go_region_held3 (fun w' => w'.cell? ⟨bs, 0, none⟩ = some (.slice (some ⟨bh, 0, none⟩) h.length h.length) ∧ w'.cell? ⟨bh, i, none⟩ = some (.int .i64 h[i]) ∧ w'.cell? ⟨w.heap.size, 0, none⟩ = some (.int .i64 1) ∧ w'.cell? ⟨w.heap.size, 1, none⟩ = some (.int .i64 m) ∧ w'.cell? ⟨w.heap.size, 2, none⟩ = some (.int .i64 i) ∧ w'.cell? ⟨w.heap.size, 3, none⟩ = some (.int .i64 n) ∧ w'.cell? ⟨w.heap.size, 4, none⟩ = some (.int .i64 o) ∧ Below w1.heap.size w1 w') (first | exact HK.out _ ((Below.refl _ _).drew) | exact HK.out _ (by assumption) | exact HK.out _ hb2)
    (first | (go_at_call 10; refine (flow_any ⟨1, m, i, n, o⟩ _ HX.out).mono ?_; rintro e w2 ⟨rfl, hb2'⟩; have hb2 : Below w1.heap.size w1 w2 := ((Below.refl _ _).drew).trans hb2'; clear hb2') | (go_at_call 35; refine (add_any _ _ _ HI.out HFI.out).mono ?_; rintro e w3 ⟨rfl, rfl⟩))
  have HB2 := Lib.hid hb2
  clear hb2 s0 sh e0 e1 e2 e3 e4
  have hE : amtE (h[i] + flowI ⟨1, m, i, n, o⟩) = 0 := (amt_in HN.out.1).2
  have hV : amtV (h[i] + flowI ⟨1, m, i, n, o⟩) = h[i] + flowI ⟨1, m, i, n, o⟩ := (amt_in HN.out.1).1
  have h0 : 0 ≤ h[i] + flowI ⟨1, m, i, n, o⟩ := HN.out.2
  generalize hnw : h[i] + flowI ⟨1, m, i, n, o⟩ = nw at *
  have HNW := Lib.hid hnw
  clear hnw
  obtain ⟨s0, sh, e0, e1, e2, e3, e4, _⟩ := HK.out _ HB2.out
  have HS2 := Lib.hid (HS1.out.below HB2.out)
  have fz := HS2.out.fh i
  have hx1 : bh ≠ w.heap.size := by omega
  have hx2 : w.heap.size ≠ bh := by omega
  have hbw : Below (w.heap.size + 1) (w.alloc _) w2 := (HB1.out.mono (by simp)).trans (HB2.out.mono (by omega))
  have hbw' : Below w.heap.size w w2 := ((Below.refl _ _).alloc (Nat.le_refl _) _).trans (hbw.mono (by omega))
  have HBW := Lib.hid hbw'
  clear hbw hbw'
  have s1 := HS2.out.c1
  have hsz2 : w1.heap.size ≤ w2.heap.size := HB2.out.size
  go_wp2
  go_region_held3 (fun w' => w'.cell? ⟨bs, 1, none⟩ = some (.int .i64 ph) ∧ w'.cell? ⟨w.heap.size, 0, none⟩ = some (.int .i64 1) ∧ w'.cell? ⟨w.heap.size, 3, none⟩ = some (.int .i64 n)) (first | exact ⟨s1, e0, e3⟩ | exact ⟨(hb3.cell (p := ⟨bs, 1, none⟩) (by simp; omega)).trans s1, (hb3.cell (p := ⟨w.heap.size, 0, none⟩) (by simp; omega)).trans e0, (hb3.cell (p := ⟨w.heap.size, 3, none⟩) (by simp; omega)).trans e3⟩)
    (first | (go_at_call 36; refine (HF.out _ HBW.out.drew).mono ?_; rintro e w3 ⟨rfl, hb3'⟩; have hb3 : Below w2.heap.size w2 w3 := ((Below.refl _ _).drew).trans hb3'; clear hb3'))
  have HB3 := Lib.hid hb3
  clear hb3 s0 s1 sh e0 e1 e2 e3 e4 fz
  have HS3 := Lib.hid (HS2.out.below HB3.out)
  obtain ⟨s0, sh, e0, e1, e2, e3, e4, _⟩ := HK.out _ (HB2.out.trans (HB3.out.mono hsz2))
  have fz := HS3.out.fh i
  have fs := HS3.out.f1 1
  have s1 := HS3.out.c1
  obtain ⟨N, rfl⟩ := Int.eq_ofNat_of_zero_le hn0
  obtain ⟨sw, hsw, hsne⟩ := HW.out N (by omega)
  have hsw3 : w3.cell? ⟨0, N, none⟩ = some (.string sw) := ((HBW.out.trans (HB3.out.mono (by omega))).cell (p := ⟨_, N, none⟩) hw0).trans hsw
  have HSW : Hid (∀ q v, ((w3.drewN q).setCell ⟨bh, i, none⟩ v).cell? ⟨0, N, none⟩ = some (.string sw)) := fun q v => (World.cell?_setCell_other _ _ _ _ (fun e => by have e1 := congrArg Addr.block e; simp only at e1; omega)).trans hsw3
  have hse : sw.toList.isEmpty = false := by simpa using hsne
  have hN6 : N < 6 := by omega
  clear hsw hsne hsw3
  have hbs1 : bs ≠ w.heap.size := by omega
  have hbs2 : w.heap.size ≠ bs := by omega
  have hbb2 : bh ≠ bs := fun e => hbb e.symm
  go_wp2
  go_quiet (fail)
  go_wp2
  go_region
  go_wp2_with (go_at_call 37; refine (word_at N sw _ (HSW.out _ _) hN6).mono ?_; rintro e w4 ⟨rfl, rfl⟩)
  go_ret
  have hbw3 : Below w.heap.size w w3 := HBW.out.trans (HB3.out.mono (by omega))
  refine ⟨rfl, ?_, fun B h1 h2 h3 => ?_, fun g h1 h2 h3 => ?_⟩
  · rw [HNW.out]
    exact ((HS3.out.drewN _).set hbb i nw).phase hbb N
  · exact ((below_drewN (hbw3.mono h3) _).setCell h2 _).setCell h1 _
  · rw [Below.heap_setCell _ _ _ _ h2, Below.heap_setCell _ _ _ _ h3]
    exact hbw3.block g h1
end Go.Proofs.YtikcodnmlenpeaaDoor
