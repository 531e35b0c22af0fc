/-
  What audit.state.wrong comes to where a member is out, or is out again, and where a phase does not follow, over this seat's translation: contracts for callers.
-/
import Derived.Test.YtikcodnmlenpeaaDoorPhase4
import Derived.StillTailTactics
namespace Go.Proofs.YtikcodnmlenpeaaDoor
open Go.RowKit

def encI (n : Int) : Value := .int .i64 n
theorem i_enc : EncOk Tryd.prog 3 encI I64 where
  keyed := Go.Maps.int_keyed Tryd.underlying3
  key := fun q hq => ⟨_, Go.Maps.keyOf_int_mk Tryd.underlying3 (wf_I64 hq)⟩
  inj := fun q q' h => by
    unfold encI at h
    simpa using h
set_option maxRecDepth 100000 in
set_option maxHeartbeats 1600000 in
theorem wrong_path (ms ss : Int) (x : Ev) (bs bh bo : Nat) (h : List Int) (ph : Int) (i : Nat) (w : World) (hs : StAt w bs bh bo h ph) (hr : rightB ms ss x = true) (hi : x.a = i) (hil : i < h.length)
   (hx : I64 x.n) (hI : I64 h[i]) (hno : I64 (h[i] + flowI x) ∧ 0 ≤ h[i] + flowI x) (hk1 : x.k = 1)
   (hfol : ∀ W, Below w.heap.size w W → Calls Tryd.prog 36 #[.int .i64 ph, .int .i64 x.n] W fun e w' => e = .returned (.bool false) ∧ Below W.heap.size W w') :
    Calls Tryd.prog 29 #[.pointer (some ⟨bs, 0, none⟩), .int .i64 ms, .int .i64 ss, x.val] w fun e w' => e = .returned (.int .i64 3) ∧ Below w.heap.size w w' := by
  obtain ⟨k, m, a, n, o⟩ := x
  simp only at hi hx hk1 hfol
  subst hi hk1
  have HF := Lib.hid hfol
  clear hfol
  show Calls Tryd.prog _ #[_, _, _, .agg #[.int .i64 1, .int .i64 m, .int .i64 i, .int .i64 n, .int .i64 o]] w _
  have HS := Lib.hid hs
  have HX := Lib.hid hx
  have HFI := Lib.hid (flow_I64 ⟨1, m, i, n, o⟩ hx)
  have hlt1 := lt_of_blk hs.s
  have hlt2 := lt_of_blk hs.h
  have HN := Lib.hid hno
  have HI := Lib.hid hI
  clear hs hx hno hI
  go_enter Tryd.func29, Tryd.ntmps29
  go_wp2_with (go_at_call 8; refine (right_any ms ss ⟨1, m, i, n, o⟩ _).mono ?_; rintro e w1 ⟨rfl, hb1⟩; have HB1 := Lib.hid hb1; clear hb1)
  have hsz1 : w.heap.size + 1 ≤ w1.heap.size := by have := HB1.out.size; simpa using this
  have HS1 := Lib.hid (StAt.below (HS.out.below ((Below.refl _ _).alloc (Nat.le_refl _) _)) HB1.out)
  have HE1 := Lib.hid (EvAt.keep (W := w.alloc (.cells #[.int .i64 1, .int .i64 m, .int .i64 i, .int .i64 n, .int .i64 o] 23)) (W' := w1) (b := w.heap.size) (x := ⟨1, m, i, n, o⟩) ⟨by rw [cell_new _ _ _ _ rfl]; rfl, by rw [cell_new _ _ _ _ rfl]; rfl, by rw [cell_new _ _ _ _ rfl]; rfl, by rw [cell_new _ _ _ _ rfl]; rfl, by rw [cell_new _ _ _ _ rfl]; rfl⟩ fun o => HB1.out.cell (p := ⟨_, o, none⟩) (by simp))
  have s0 := HS1.out.c0
  have sh := HS1.out.ch hil
  obtain ⟨e0, e1, e2, e3, e4⟩ := HE1.out
  have HK : Hid (∀ w', Below w1.heap.size w1 w' → w'.cell? ⟨bs, 0, none⟩ = some (.slice (some ⟨bh, 0, none⟩) h.length h.length) ∧ w'.cell? ⟨bh, i, none⟩ = some (.int .i64 h[i]) ∧ w'.cell? ⟨w.heap.size, 0, none⟩ = some (.int .i64 1) ∧ w'.cell? ⟨w.heap.size, 1, none⟩ = some (.int .i64 m) ∧ w'.cell? ⟨w.heap.size, 2, none⟩ = some (.int .i64 i) ∧ w'.cell? ⟨w.heap.size, 3, none⟩ = some (.int .i64 n) ∧ w'.cell? ⟨w.heap.size, 4, none⟩ = some (.int .i64 o) ∧ Below w1.heap.size w1 w') := fun w' hb => by
    have hS := HS1.out.below hb
    obtain ⟨q0, q1, q2, q3, q4⟩ := HE1.out.keep (W' := w') fun o => hb.cell (p := ⟨_, o, none⟩) (by simp; omega)
    exact ⟨hS.c0, hS.ch hil, q0, q1, q2, q3, q4, hb⟩
  go_region_held3 (fun w' => w'.cell? ⟨bs, 0, none⟩ = some (.slice (some ⟨bh, 0, none⟩) h.length h.length) ∧ w'.cell? ⟨bh, i, none⟩ = some (.int .i64 h[i]) ∧ w'.cell? ⟨w.heap.size, 0, none⟩ = some (.int .i64 1) ∧ w'.cell? ⟨w.heap.size, 1, none⟩ = some (.int .i64 m) ∧ w'.cell? ⟨w.heap.size, 2, none⟩ = some (.int .i64 i) ∧ w'.cell? ⟨w.heap.size, 3, none⟩ = some (.int .i64 n) ∧ w'.cell? ⟨w.heap.size, 4, none⟩ = some (.int .i64 o) ∧ Below w1.heap.size w1 w') (first | exact HK.out _ ((Below.refl _ _).drew) | exact HK.out _ (by assumption) | exact HK.out _ hb2)
    (first | (go_at_call 10; refine (flow_any ⟨1, m, i, n, o⟩ _ HX.out).mono ?_; rintro e w2 ⟨rfl, hb2'⟩; have hb2 : Below w1.heap.size w1 w2 := ((Below.refl _ _).drew).trans hb2'; clear hb2') | (go_at_call 35; refine (add_any _ _ _ HI.out HFI.out).mono ?_; rintro e w3 ⟨rfl, rfl⟩))
  have HB2 := Lib.hid hb2
  clear hb2 s0 sh e0 e1 e2 e3 e4
  have hE : amtE (h[i] + flowI ⟨1, m, i, n, o⟩) = 0 := (amt_in HN.out.1).2
  have hV : amtV (h[i] + flowI ⟨1, m, i, n, o⟩) = h[i] + flowI ⟨1, m, i, n, o⟩ := (amt_in HN.out.1).1
  have h0 : 0 ≤ h[i] + flowI ⟨1, m, i, n, o⟩ := HN.out.2
  generalize hnw : h[i] + flowI ⟨1, m, i, n, o⟩ = nw at *
  have HNW := Lib.hid hnw
  clear hnw
  obtain ⟨s0, sh, e0, e1, e2, e3, e4, _⟩ := HK.out _ HB2.out
  have HS2 := Lib.hid (HS1.out.below HB2.out)
  have fz := HS2.out.fh i
  have hx1 : bh ≠ w.heap.size := by omega
  have hx2 : w.heap.size ≠ bh := by omega
  have hbw : Below (w.heap.size + 1) (w.alloc _) w2 := (HB1.out.mono (by simp)).trans (HB2.out.mono (by omega))
  have hbw' : Below w.heap.size w w2 := ((Below.refl _ _).alloc (Nat.le_refl _) _).trans (hbw.mono (by omega))
  have HBW := Lib.hid hbw'
  clear hbw hbw'
  have s1 := HS2.out.c1
  have hsz2 : w1.heap.size ≤ w2.heap.size := HB2.out.size
  go_wp2
  go_region_held3 (fun w' => w'.cell? ⟨bs, 1, none⟩ = some (.int .i64 ph) ∧ w'.cell? ⟨w.heap.size, 0, none⟩ = some (.int .i64 1) ∧ w'.cell? ⟨w.heap.size, 3, none⟩ = some (.int .i64 n)) (first | exact ⟨s1, e0, e3⟩ | exact ⟨(hb3.cell (p := ⟨bs, 1, none⟩) (by simp; omega)).trans s1, (hb3.cell (p := ⟨w.heap.size, 0, none⟩) (by simp; omega)).trans e0, (hb3.cell (p := ⟨w.heap.size, 3, none⟩) (by simp; omega)).trans e3⟩)
    (first | (go_at_call 36; refine (HF.out _ HBW.out.drew).mono ?_; rintro e w3 ⟨rfl, hb3'⟩; have hb3 : Below w2.heap.size w2 w3 := ((Below.refl _ _).drew).trans hb3'; clear hb3'))
  have HB3 : Hid (Below w.heap.size w w3) := HBW.out.trans (hb3.mono (by omega))
  clear hb3
  go_wp2
  go_ret
  exact ⟨rfl, HB3.out⟩
set_option maxRecDepth 100000 in
set_option maxHeartbeats 3200000 in
theorem wrong_twice (ms ss : Int) (x : Ev) (bs bh bo : Nat) (h : List Int) (ph : Int) (i : Nat) (w : World) (hs : StAt w bs bh bo h ph) (hr : rightB ms ss x = true) (hi : x.a = i) (hil : i < h.length)
   (hx : I64 x.n) (hI : I64 h[i]) (hno : I64 (h[i] + flowI x) ∧ 0 ≤ h[i] + flowI x) (hk8 : x.k = 8) (outs : List (Int × Value)) (hM : MapAt Tryd.prog 3 encI w bo outs) (hD : ∀ p ∈ outs, I64 p.1) (hm : I64 x.m) (hg : getM x.m outs = some (.int .i64 1)) (_hbb : bs ≠ bh) :
    Calls Tryd.prog 29 #[.pointer (some ⟨bs, 0, none⟩), .int .i64 ms, .int .i64 ss, x.val] w fun e w' => e = .returned (.int .i64 4) ∧ Below w.heap.size w w' := by
  obtain ⟨k, m, a, n, o⟩ := x
  simp only at hi hx hk8 hm hg
  subst hi hk8
  have HM := Lib.hid hM
  have HD := Lib.hid hD
  have HMI := Lib.hid hm
  have HG := Lib.hid hg
  clear hM hD hm hg

  show Calls Tryd.prog _ #[_, _, _, .agg #[.int .i64 8, .int .i64 m, .int .i64 i, .int .i64 n, .int .i64 o]] w _
  have HS := Lib.hid hs
  have HX := Lib.hid hx
  have HFI := Lib.hid (flow_I64 ⟨8, m, i, n, o⟩ hx)
  have hlt1 := lt_of_blk hs.s
  have hlt2 := lt_of_blk hs.h
  have HN := Lib.hid hno
  have HI := Lib.hid hI
  clear hs hx hno hI
  go_enter Tryd.func29, Tryd.ntmps29
  go_wp2_with (go_at_call 8; refine (right_any ms ss ⟨8, m, i, n, o⟩ _).mono ?_; rintro e w1 ⟨rfl, hb1⟩; have HB1 := Lib.hid hb1; clear hb1)
  have hsz1 : w.heap.size + 1 ≤ w1.heap.size := by have := HB1.out.size; simpa using this
  have HS1 := Lib.hid (StAt.below (HS.out.below ((Below.refl _ _).alloc (Nat.le_refl _) _)) HB1.out)
  have HE1 := Lib.hid (EvAt.keep (W := w.alloc (.cells #[.int .i64 8, .int .i64 m, .int .i64 i, .int .i64 n, .int .i64 o] 23)) (W' := w1) (b := w.heap.size) (x := ⟨8, m, i, n, o⟩) ⟨by rw [cell_new _ _ _ _ rfl]; rfl, by rw [cell_new _ _ _ _ rfl]; rfl, by rw [cell_new _ _ _ _ rfl]; rfl, by rw [cell_new _ _ _ _ rfl]; rfl, by rw [cell_new _ _ _ _ rfl]; rfl⟩ fun o => HB1.out.cell (p := ⟨_, o, none⟩) (by simp))
  have s0 := HS1.out.c0
  have sh := HS1.out.ch hil
  obtain ⟨e0, e1, e2, e3, e4⟩ := HE1.out
  have HK : Hid (∀ w', Below w1.heap.size w1 w' → w'.cell? ⟨bs, 0, none⟩ = some (.slice (some ⟨bh, 0, none⟩) h.length h.length) ∧ w'.cell? ⟨bh, i, none⟩ = some (.int .i64 h[i]) ∧ w'.cell? ⟨w.heap.size, 0, none⟩ = some (.int .i64 8) ∧ w'.cell? ⟨w.heap.size, 1, none⟩ = some (.int .i64 m) ∧ w'.cell? ⟨w.heap.size, 2, none⟩ = some (.int .i64 i) ∧ w'.cell? ⟨w.heap.size, 3, none⟩ = some (.int .i64 n) ∧ w'.cell? ⟨w.heap.size, 4, none⟩ = some (.int .i64 o) ∧ Below w1.heap.size w1 w') := fun w' hb => by
    have hS := HS1.out.below hb
    obtain ⟨q0, q1, q2, q3, q4⟩ := HE1.out.keep (W' := w') fun o => hb.cell (p := ⟨_, o, none⟩) (by simp; omega)
    exact ⟨hS.c0, hS.ch hil, q0, q1, q2, q3, q4, hb⟩
  go_region_held3 (fun w' => w'.cell? ⟨bs, 0, none⟩ = some (.slice (some ⟨bh, 0, none⟩) h.length h.length) ∧ w'.cell? ⟨bh, i, none⟩ = some (.int .i64 h[i]) ∧ w'.cell? ⟨w.heap.size, 0, none⟩ = some (.int .i64 8) ∧ w'.cell? ⟨w.heap.size, 1, none⟩ = some (.int .i64 m) ∧ w'.cell? ⟨w.heap.size, 2, none⟩ = some (.int .i64 i) ∧ w'.cell? ⟨w.heap.size, 3, none⟩ = some (.int .i64 n) ∧ w'.cell? ⟨w.heap.size, 4, none⟩ = some (.int .i64 o) ∧ Below w1.heap.size w1 w') (first | exact HK.out _ ((Below.refl _ _).drew) | exact HK.out _ (by assumption) | exact HK.out _ hb2)
    (first | (go_at_call 10; refine (flow_any ⟨8, m, i, n, o⟩ _ HX.out).mono ?_; rintro e w2 ⟨rfl, hb2'⟩; have hb2 : Below w1.heap.size w1 w2 := ((Below.refl _ _).drew).trans hb2'; clear hb2') | (go_at_call 35; refine (add_any _ _ _ HI.out HFI.out).mono ?_; rintro e w3 ⟨rfl, rfl⟩))
  have HB2 := Lib.hid hb2
  clear hb2 s0 sh e0 e1 e2 e3 e4
  have hE : amtE (h[i] + flowI ⟨8, m, i, n, o⟩) = 0 := (amt_in HN.out.1).2
  have hV : amtV (h[i] + flowI ⟨8, m, i, n, o⟩) = h[i] + flowI ⟨8, m, i, n, o⟩ := (amt_in HN.out.1).1
  have h0 : 0 ≤ h[i] + flowI ⟨8, m, i, n, o⟩ := HN.out.2
  generalize hnw : h[i] + flowI ⟨8, m, i, n, o⟩ = nw at *
  have HNW := Lib.hid hnw
  clear hnw
  obtain ⟨s0, sh, e0, e1, e2, e3, e4, _⟩ := HK.out _ HB2.out
  have HS2 := Lib.hid (HS1.out.below HB2.out)
  have fz := HS2.out.fh i
  have hx1 : bh ≠ w.heap.size := by omega
  have hx2 : w.heap.size ≠ bh := by omega
  have s2 := HS2.out.c2
  have hbw : Below (w.heap.size + 1) (w.alloc _) w2 := (HB1.out.mono (by simp)).trans (HB2.out.mono (by omega))
  have hbw' : Below w.heap.size w w2 := ((Below.refl _ _).alloc (Nat.le_refl _) _).trans (hbw.mono (by omega))
  have HBW := Lib.hid hbw'
  have HM2 : Hid (MapAt Tryd.prog 3 encI w2 bo outs) := HM.out.below HM.out.lt hbw'
  have hr0 : ∀ q, (Instr.lookup 53 (.map (some bo)) (.int .i64 m) false).run Tryd.prog (w2.drewN q) = .ok (.int .i64 1) (w2.drewN q) := fun q => by
    have h9 := (show MapAt Tryd.prog 3 encI (w2.drewN q) bo outs from ⟨HM2.out.blk, HM2.out.apart⟩).look false i_enc Tryd.underlying53 (z := .int .i64 0) (by kernel_rfl) HD.out HMI.out
    rw [HG.out] at h9
    exact h9
  clear hbw hbw'
  go_wp2
  go_quiet (fail)
  go_wp2
  go_quiet (fail)
  go_wp2
  go_ret
  exact ⟨rfl, below_drewN (below_drewN HBW.out _) _⟩
set_option maxRecDepth 100000 in
set_option maxHeartbeats 3200000 in
theorem wrong_out (ms ss : Int) (x : Ev) (bs bh bo : Nat) (h : List Int) (ph : Int) (i : Nat) (w : World) (hs : StAt w bs bh bo h ph) (hr : rightB ms ss x = true) (hi : x.a = i) (hil : i < h.length)
   (hx : I64 x.n) (hI : I64 h[i]) (hno : I64 (h[i] + flowI x) ∧ 0 ≤ h[i] + flowI x) (hk8 : x.k = 8) (outs : List (Int × Value)) (hM : MapAt Tryd.prog 3 encI w bo outs) (hD : ∀ p ∈ outs, I64 p.1) (hm : I64 x.m) (hg : getM x.m outs = none) (hob1 : bo ≠ bs) (hob2 : bo ≠ bh) (hbb : bs ≠ bh) :
    Calls Tryd.prog 29 #[.pointer (some ⟨bs, 0, none⟩), .int .i64 ms, .int .i64 ss, x.val] w fun e w' => e = .returned (.int .i64 0) ∧ StAt w' bs bh bo (h.set i (h[i] + flowI x)) ph ∧ MapAt Tryd.prog 3 encI w' bo (putM x.m (.int .i64 1) outs) ∧ (∀ B, B ≤ bs → B ≤ bh → B ≤ bo → B ≤ w.heap.size → Below B w w') := by
  obtain ⟨k, m, a, n, o⟩ := x
  simp only at hi hx hk8 hm hg
  subst hi hk8
  have HM := Lib.hid hM
  have HD := Lib.hid hD
  have HMI := Lib.hid hm
  have HG := Lib.hid hg
  clear hM hD hm hg

  show Calls Tryd.prog _ #[_, _, _, .agg #[.int .i64 8, .int .i64 m, .int .i64 i, .int .i64 n, .int .i64 o]] w _
  have HS := Lib.hid hs
  have HX := Lib.hid hx
  have HFI := Lib.hid (flow_I64 ⟨8, m, i, n, o⟩ hx)
  have hlt1 := lt_of_blk hs.s
  have hlt2 := lt_of_blk hs.h
  have HN := Lib.hid hno
  have HI := Lib.hid hI
  clear hs hx hno hI
  go_enter Tryd.func29, Tryd.ntmps29
  go_wp2_with (go_at_call 8; refine (right_any ms ss ⟨8, m, i, n, o⟩ _).mono ?_; rintro e w1 ⟨rfl, hb1⟩; have HB1 := Lib.hid hb1; clear hb1)
  have hsz1 : w.heap.size + 1 ≤ w1.heap.size := by have := HB1.out.size; simpa using this
  have HS1 := Lib.hid (StAt.below (HS.out.below ((Below.refl _ _).alloc (Nat.le_refl _) _)) HB1.out)
  have HE1 := Lib.hid (EvAt.keep (W := w.alloc (.cells #[.int .i64 8, .int .i64 m, .int .i64 i, .int .i64 n, .int .i64 o] 23)) (W' := w1) (b := w.heap.size) (x := ⟨8, m, i, n, o⟩) ⟨by rw [cell_new _ _ _ _ rfl]; rfl, by rw [cell_new _ _ _ _ rfl]; rfl, by rw [cell_new _ _ _ _ rfl]; rfl, by rw [cell_new _ _ _ _ rfl]; rfl, by rw [cell_new _ _ _ _ rfl]; rfl⟩ fun o => HB1.out.cell (p := ⟨_, o, none⟩) (by simp))
  have s0 := HS1.out.c0
  have sh := HS1.out.ch hil
  obtain ⟨e0, e1, e2, e3, e4⟩ := HE1.out
  have HK : Hid (∀ w', Below w1.heap.size w1 w' → w'.cell? ⟨bs, 0, none⟩ = some (.slice (some ⟨bh, 0, none⟩) h.length h.length) ∧ w'.cell? ⟨bh, i, none⟩ = some (.int .i64 h[i]) ∧ w'.cell? ⟨w.heap.size, 0, none⟩ = some (.int .i64 8) ∧ w'.cell? ⟨w.heap.size, 1, none⟩ = some (.int .i64 m) ∧ w'.cell? ⟨w.heap.size, 2, none⟩ = some (.int .i64 i) ∧ w'.cell? ⟨w.heap.size, 3, none⟩ = some (.int .i64 n) ∧ w'.cell? ⟨w.heap.size, 4, none⟩ = some (.int .i64 o) ∧ Below w1.heap.size w1 w') := fun w' hb => by
    have hS := HS1.out.below hb
    obtain ⟨q0, q1, q2, q3, q4⟩ := HE1.out.keep (W' := w') fun o => hb.cell (p := ⟨_, o, none⟩) (by simp; omega)
    exact ⟨hS.c0, hS.ch hil, q0, q1, q2, q3, q4, hb⟩
  go_region_held3 (fun w' => w'.cell? ⟨bs, 0, none⟩ = some (.slice (some ⟨bh, 0, none⟩) h.length h.length) ∧ w'.cell? ⟨bh, i, none⟩ = some (.int .i64 h[i]) ∧ w'.cell? ⟨w.heap.size, 0, none⟩ = some (.int .i64 8) ∧ w'.cell? ⟨w.heap.size, 1, none⟩ = some (.int .i64 m) ∧ w'.cell? ⟨w.heap.size, 2, none⟩ = some (.int .i64 i) ∧ w'.cell? ⟨w.heap.size, 3, none⟩ = some (.int .i64 n) ∧ w'.cell? ⟨w.heap.size, 4, none⟩ = some (.int .i64 o) ∧ Below w1.heap.size w1 w') (first | exact HK.out _ ((Below.refl _ _).drew) | exact HK.out _ (by assumption) | exact HK.out _ hb2)
    (first | (go_at_call 10; refine (flow_any ⟨8, m, i, n, o⟩ _ HX.out).mono ?_; rintro e w2 ⟨rfl, hb2'⟩; have hb2 : Below w1.heap.size w1 w2 := ((Below.refl _ _).drew).trans hb2'; clear hb2') | (go_at_call 35; refine (add_any _ _ _ HI.out HFI.out).mono ?_; rintro e w3 ⟨rfl, rfl⟩))
  have HB2 := Lib.hid hb2
  clear hb2 s0 sh e0 e1 e2 e3 e4
  have hE : amtE (h[i] + flowI ⟨8, m, i, n, o⟩) = 0 := (amt_in HN.out.1).2
  have hV : amtV (h[i] + flowI ⟨8, m, i, n, o⟩) = h[i] + flowI ⟨8, m, i, n, o⟩ := (amt_in HN.out.1).1
  have h0 : 0 ≤ h[i] + flowI ⟨8, m, i, n, o⟩ := HN.out.2
  generalize hnw : h[i] + flowI ⟨8, m, i, n, o⟩ = nw at *
  have HNW := Lib.hid hnw
  clear hnw
  obtain ⟨s0, sh, e0, e1, e2, e3, e4, _⟩ := HK.out _ HB2.out
  have HS2 := Lib.hid (HS1.out.below HB2.out)
  have fz := HS2.out.fh i
  have hx1 : bh ≠ w.heap.size := by omega
  have hx2 : w.heap.size ≠ bh := by omega
  have s2 := HS2.out.c2
  have hbw : Below (w.heap.size + 1) (w.alloc _) w2 := (HB1.out.mono (by simp)).trans (HB2.out.mono (by omega))
  have hbw' : Below w.heap.size w w2 := ((Below.refl _ _).alloc (Nat.le_refl _) _).trans (hbw.mono (by omega))
  have HBW := Lib.hid hbw'
  have HM2 : Hid (MapAt Tryd.prog 3 encI w2 bo outs) := HM.out.below HM.out.lt hbw'
  have hr0 : ∀ q, (Instr.lookup 53 (.map (some bo)) (.int .i64 m) false).run Tryd.prog (w2.drewN q) = .ok (.int .i64 0) (w2.drewN q) := fun q => by
    have h9 := (show MapAt Tryd.prog 3 encI (w2.drewN q) bo outs from ⟨HM2.out.blk, HM2.out.apart⟩).look false i_enc Tryd.underlying53 (z := .int .i64 0) (by kernel_rfl) HD.out HMI.out
    rw [HG.out] at h9
    exact h9
  clear hbw hbw'
  go_wp2
  go_quiet (fail)
  generalize nq = q1 at *
  go_wp2
  go_quiet (fail)
  generalize nq = q2 at *
  go_wp2
  go_region
  have HM3 : Hid (MapAt Tryd.prog 3 encI ((w2.drewN (q1 + q2 + 1)).setCell ⟨bh, i, none⟩ (.int .i64 nw)) bo outs) := (show MapAt Tryd.prog 3 encI (w2.drewN (q1 + q2 + 1)) bo outs from ⟨HM2.out.blk, HM2.out.apart⟩).setCell hob2 _
  have HS3 : Hid (StAt ((w2.drewN (q1 + q2 + 1)).setCell ⟨bh, i, none⟩ (.int .i64 nw)) bs bh bo (h.set i nw) ph) := (HS2.out.drewN _).set hbb i nw
  have HB3 : Hid (∀ B, B ≤ bh → B ≤ w.heap.size → Below B w ((w2.drewN (q1 + q2 + 1)).setCell ⟨bh, i, none⟩ (.int .i64 nw))) := fun B h2 h3 => (below_drewN (HBW.out.mono h3) _).setCell h2 _
  have e0' : ((w2.drewN (q1 + q2 + 1)).setCell ⟨bh, i, none⟩ (.int .i64 nw)).cell? ⟨w.heap.size, 0, none⟩ = some (.int .i64 8) := (World.cell?_setCell_other _ _ _ _ (fun e => hx1 (congrArg Addr.block e))).trans e0
  have e1' : ((w2.drewN (q1 + q2 + 1)).setCell ⟨bh, i, none⟩ (.int .i64 nw)).cell? ⟨w.heap.size, 1, none⟩ = some (.int .i64 m) := (World.cell?_setCell_other _ _ _ _ (fun e => hx1 (congrArg Addr.block e))).trans e1
  have hs3 : w.heap.size ≤ ((w2.drewN (q1 + q2 + 1)).setCell ⟨bh, i, none⟩ (.int .i64 nw)).heap.size := by have := HBW.out.size; simp only [World.setCell, Array.size_modify]; exact this
  clear s0 sh s2 e0 e1 e2 e3 e4 hr0 HK HS2 HM2 HE1 HS1 HB1 HB2 fz
  generalize (w2.drewN (q1 + q2 + 1)).setCell ⟨bh, i, none⟩ (.int .i64 nw) = w5 at *
  have s2 := HS3.out.c2
  have hr5 : (Instr.lookup 53 (.map (some bo)) (.int .i64 m) false).run Tryd.prog w5.drew = .ok (.int .i64 0) w5.drew := by
    have h9 := HM3.out.drew.look false i_enc Tryd.underlying53 (z := .int .i64 0) (by kernel_rfl) HD.out HMI.out
    rw [HG.out] at h9
    exact h9
  go_wp2
  go_still_tail 8, (by kernel_rfl)
  change wpList _ _ _ _ _ w5.drew
  have HM6 := Lib.hid HM3.out.drew
  have HS6 : Hid (StAt w5.drew bs bh bo (h.set i nw) ph) := HS3.out.drewN 1
  have HB6 : Hid (∀ B, B ≤ bh → B ≤ w.heap.size → Below B w w5.drew) := fun B h2 h3 => (HB3.out B h2 h3).drew
  have hs6 : w.heap.size ≤ w5.drew.heap.size := hs3
  clear hr5 HM3 HS3 HB3 s2 e0' e1' hs3
  generalize w5.drew = w6 at *
  go_wp2_with (at_mapUpdate; refine wpList_store _ rfl _ _ _ _ rfl i_enc Tryd.underlying53 (b := bo) (q := m) (v := .int .i64 1) rfl rfl rfl HM6.out HD.out HMI.out ?_)
  intro w7 hM7 hg7
  have HM7 := Lib.hid hM7
  have HS7 : Hid (StAt w7 bs bh bo (h.set i nw) ph) := ⟨(hg7.block bs (lt_of_blk HS6.out.s) (fun e => by injection e with e; exact hob1 e.symm)).trans HS6.out.s, (hg7.block bh (lt_of_blk HS6.out.h) (fun e => by injection e with e; exact hob2 e.symm)).trans HS6.out.h⟩
  have HB7 : Hid (∀ B, B ≤ bs → B ≤ bh → B ≤ bo → B ≤ w.heap.size → Below B w w7) := fun B h1 h2 h3 h4 => (HB6.out B h2 h4).grown hg7 (by omega) (fun k hk => by injection hk with hk; omega)
  clear hM7 hg7
  go_wp2
  go_ret
  exact ⟨rfl, by rw [HNW.out]; exact HS7.out, HM7.out, HB7.out⟩
end Go.Proofs.YtikcodnmlenpeaaDoor
