/-
  What census.tally comes to, over this seat's translation: a contract for callers.
-/
import Derived.Test.YtgkidjjijgegmaaCW2
namespace Go.Proofs.Ytgkidjjijgegmaa
open Go.RowKit

/-- Cells turned one behind the other. -/
def setAll (b : Nat) : World → Nat → List Value → World
  | W, _, [] => W
  | W, i, v :: vs => setAll b (W.setCell ⟨b, i, none⟩ v) (i + 1) vs
theorem setAll_low {b : Nat} : ∀ (vs : List Value) (W : World) (i j : Nat), j < i → (setAll b W i vs).cell? ⟨b, j, none⟩ = W.cell? ⟨b, j, none⟩
  | [], _, _, _, _ => rfl
  | v :: vs, W, i, j, h => by
    unfold setAll
    rw [setAll_low vs _ (i + 1) j (by omega)]
    exact World.cell?_setCell_other _ _ _ _ (fun e => by injection e with _ e _; omega)
theorem setAll_other {b : Nat} (b' : Nat) (hb : b' ≠ b) (j : Nat) : ∀ (vs : List Value) (W : World) (i : Nat), (setAll b W i vs).cell? ⟨b', j, none⟩ = W.cell? ⟨b', j, none⟩
  | [], _, _ => rfl
  | v :: vs, W, i => by
    unfold setAll
    rw [setAll_other b' hb j vs _ (i + 1)]
    exact World.cell?_setCell_other _ _ _ _ (fun e => by injection e with e _ _; exact hb e.symm)
theorem setAll_at {b : Nat} : ∀ (vs : List Value) (W : World) (i : Nat), (∀ j, j < vs.length → ∃ u, W.cell? ⟨b, i + j, none⟩ = some u) → ∀ j (h : j < vs.length), (setAll b W i vs).cell? ⟨b, i + j, none⟩ = some vs[j]
  | [], _, _, _, _, h => absurd h (by simp)
  | v :: vs, W, i, hW, 0, _ => by
    unfold setAll
    rw [setAll_low vs _ (i + 1) (i + 0) (by omega)]
    obtain ⟨u, hu⟩ := hW 0 (by simp)
    exact World.cell?_setCell_same' _ _ _ (by rw [show W.cell? ⟨b, i, none⟩ = some u from hu]; rfl)
  | v :: vs, W, i, hW, j + 1, h => by
    unfold setAll
    have e : i + (j + 1) = (i + 1) + j := by omega
    rw [e]
    refine (setAll_at vs _ (i + 1) (fun j' hj' => ?_) j (by simpa using h)).trans (by simp)
    obtain ⟨u, hu⟩ := hW (j' + 1) (by simpa using hj')
    exact ⟨u, (World.cell?_setCell_other _ _ _ _ (fun e => by injection e with _ e _; omega)).trans (by rw [← hu]; congr 2; omega)⟩
theorem setAll_frozen {b : Nat} (p : Addr) : ∀ (vs : List Value) (W : World) (i : Nat), (setAll b W i vs).frozen? p = W.frozen? p
  | [], _, _ => rfl
  | v :: vs, W, i => by unfold setAll; rw [setAll_frozen p vs]; simp
theorem setAll_size {b : Nat} : ∀ (vs : List Value) (W : World) (i : Nat), (setAll b W i vs).heap.size = W.heap.size
  | [], _, _ => rfl
  | v :: vs, W, i => by unfold setAll; rw [setAll_size vs]; simp
theorem setAll_below {b B : Nat} {w : World} (hb : B ≤ b) : ∀ (vs : List Value) (W : World) (i : Nat), Below B w W → Below B w (setAll b W i vs)
  | [], _, _, h => h
  | v :: vs, W, i, h => by unfold setAll; exact setAll_below hb vs _ _ (h.setCell (p := ⟨b, i, none⟩) hb _)
/-- The tally of a side's five sums; and whether all of them are amounts. -/
def okR (g : Nat → Int) : Bool := (List.range 5).all fun j => decide (I64 (g j))
def tlOf (q : Int × Int) (g : Nat → Int) : Tl := ⟨q, g 0, g 1, g 2, g 3, g 4⟩
def noTl : Tl := ⟨(0, 0), 0, 0, 0, 0, 0⟩
def tlV (q : Int × Int) (g : Nat → Int) : Tl := if okR g then tlOf q g else noTl
def tlE (g : Nat → Int) : Int := if okR g then 0 else 2
theorem okR_bad {g : Nat → Int} {j : Nat} (hj : j < 5) (h : ¬ I64 (g j)) : okR g = false := by
  unfold okR
  rw [List.all_eq_false]
  exact ⟨j, List.mem_range.2 hj, by simpa using h⟩
theorem okR_good {g : Nat → Int} (h : ∀ j, j < 5 → I64 (g j)) : okR g = true := by
  unfold okR
  rw [List.all_eq_true]
  exact fun j hj => by simpa using h j (List.mem_range.1 hj)
theorem okR_at {g : Nat → Int} (h : okR g = true) {j : Nat} (hj : j < 5) : I64 (g j) := by
  unfold okR at h
  rw [List.all_eq_true] at h
  simpa using h j (List.mem_range.2 hj)
/-- The blocks of census.tally, while it has gone over k of the sums. -/
structure TyI (w : World) (q : Int × Int) (c : Nat → Value) (g : Nat → Int) (k : Nat) (W : World) : Prop where
  b : Below w.heap.size w W
  sz : w.heap.size + 4 ≤ W.heap.size
  q0 : W.cell? ⟨w.heap.size, 0, none⟩ = some (.int .i64 q.1)
  q1 : W.cell? ⟨w.heap.size, 1, none⟩ = some (.int .i64 q.2)
  c : ∀ j, j < 5 → W.cell? ⟨w.heap.size + 1, j, none⟩ = some (c j)
  r : ∀ j, j < 7 → W.cell? ⟨w.heap.size + 2, j, none⟩ = some (.int .i64 0)
  rf : ∀ j, W.frozen? ⟨w.heap.size + 2, j, none⟩ = false
  n : ∀ j, j < 5 → W.cell? ⟨w.heap.size + 3, j, none⟩ = some (.int .i64 (if j < k then g j else 0))
  nf : ∀ j, W.frozen? ⟨w.heap.size + 3, j, none⟩ = false
theorem TyI.below {w W W' : World} {q : Int × Int} {c : Nat → Value} {g : Nat → Int} {k : Nat} (h : TyI w q c g k W) (hb : Below W.heap.size W W') : TyI w q c g k W' := by
  have hs := h.sz
  exact ⟨h.b.trans (hb.mono h.b.size), Nat.le_trans h.sz hb.size, (hb.cell (p := ⟨_, 0, none⟩) (by show w.heap.size < _; omega)).trans h.q0, (hb.cell (p := ⟨_, 1, none⟩) (by show w.heap.size < _; omega)).trans h.q1, fun j hj => (hb.cell (p := ⟨_, j, none⟩) (by show w.heap.size + 1 < _; omega)).trans (h.c j hj), fun j hj => (hb.cell (p := ⟨_, j, none⟩) (by show w.heap.size + 2 < _; omega)).trans (h.r j hj), fun j => (hb.frozen (p := ⟨_, j, none⟩) (by show w.heap.size + 2 < _; omega)).trans (h.rf j), fun j hj => (hb.cell (p := ⟨_, j, none⟩) (by show w.heap.size + 3 < _; omega)).trans (h.n j hj), fun j => (hb.frozen (p := ⟨_, j, none⟩) (by show w.heap.size + 3 < _; omega)).trans (h.nf j)⟩
theorem TyI.put {w W : World} {q : Int × Int} {c : Nat → Value} {g : Nat → Int} {k : Nat} (h : TyI w q c g k W) (hk : k < 5) : TyI w q c g (k + 1) (W.setCell ⟨w.heap.size + 3, k, none⟩ (.int .i64 (g k))) := by
  have ot : ∀ (b j : Nat), b ≠ w.heap.size + 3 → (W.setCell ⟨w.heap.size + 3, k, none⟩ (.int .i64 (g k))).cell? ⟨b, j, none⟩ = W.cell? ⟨b, j, none⟩ := fun b j hb => World.cell?_setCell_other _ _ _ _ (fun e => hb (by injection e with e _ _; exact e.symm))
  refine ⟨h.b.setCell (p := ⟨_, k, none⟩) (by show w.heap.size ≤ w.heap.size + 3; omega) _, by simpa using h.sz, (ot _ _ (by omega)).trans h.q0, (ot _ _ (by omega)).trans h.q1, fun j hj => (ot _ _ (by omega)).trans (h.c j hj), fun j hj => (ot _ _ (by omega)).trans (h.r j hj), fun j => by simpa using h.rf j, fun j hj => ?_, fun j => by simpa using h.nf j⟩
  by_cases e : j = k
  · subst e
    rw [if_pos (by omega)]
    exact World.cell?_setCell_same' _ _ _ (by rw [h.n j hj]; rfl)
  · rw [World.cell?_setCell_other _ _ _ _ (fun e' => e (by injection e' with _ e' _; exact e'.symm)), h.n j hj]
    have : (j < k + 1) = (j < k) := by simp; omega
    simp only [this]
theorem seven_at {W : World} {b : Nat} {u0 u1 u2 u3 u4 u5 u6 : Value} {n : Nat} (r0 : W.cell? ⟨b, 0, none⟩ = some u0) (r1 : W.cell? ⟨b, 1, none⟩ = some u1) (r2 : W.cell? ⟨b, 2, none⟩ = some u2) (r3 : W.cell? ⟨b, 3, none⟩ = some u3) (r4 : W.cell? ⟨b, 4, none⟩ = some u4) (r5 : W.cell? ⟨b, 5, none⟩ = some u5) (r6 : W.cell? ⟨b, 6, none⟩ = some u6) (hn : n = 7) : ∀ j, j < n → ∃ u, W.cell? ⟨b, 0 + j, none⟩ = some u := by
  subst hn
  intro j hj
  rw [Nat.zero_add]
  obtain rfl | rfl | rfl | rfl | rfl | rfl | rfl : j = 0 ∨ j = 1 ∨ j = 2 ∨ j = 3 ∨ j = 4 ∨ j = 5 ∨ j = 6 := by omega
  · exact ⟨_, r0⟩
  · exact ⟨_, r1⟩
  · exact ⟨_, r2⟩
  · exact ⟨_, r3⟩
  · exact ⟨_, r4⟩
  · exact ⟨_, r5⟩
  · exact ⟨_, r6⟩
set_option maxRecDepth 100000 in
set_option maxHeartbeats 3200000 in
theorem tally_any (q : Int × Int) (c : Nat → Value) (f : Nat → List Int) (w : World) (hc : ∀ j, j < 5 → ∃ A d, c j = .slice A (f j).length d ∧ Seg w w.heap.size A ((f j).map (Value.int .i64))) (hI : ∀ j, j < 5 → ∀ x ∈ f j, I64 x) (hn : ∀ j, j < 5 → (f j).length ≤ 4611686018427387904) :
    Calls Try.prog 30 #[encS q, agg5 c] w fun e w' => e = .returned (.tuple #[(tlV q fun j => sumI (f j)).val, .int .i64 (tlE fun j => sumI (f j))]) ∧ Below w.heap.size w w' := by
  have HC := Lib.hid hc
  have HI := Lib.hid hI
  have HN := Lib.hid hn
  clear hc hI hn
  unfold encS agg5
  go_enter Try.func30, Try.ntmps30
  go_wp2_with fail
  have HT : Hid (TyI w q c (fun j => sumI (f j)) 0 ((((w.alloc (.cells #[.int .i64 q.1, .int .i64 q.2] 60)).alloc (.cells #[c 0, c 1, c 2, c 3, c 4] 62)).alloc (.cells #[.int .i64 0, .int .i64 0, .int .i64 0, .int .i64 0, .int .i64 0, .int .i64 0, .int .i64 0] 42)).alloc (.cells #[.int .i64 0, .int .i64 0, .int .i64 0, .int .i64 0, .int .i64 0] 35))) := Lib.hid (by
    refine ⟨((((Below.refl _ _).alloc (Nat.le_refl _) _).alloc (by simp) _).alloc (by simp; omega) _).alloc (by simp; omega) _, by simp, ?_, ?_, fun j hj => ?_, fun j hj => ?_, fun j => by go_simp, fun j hj => ?_, fun j => by go_simp⟩
    · rw [cell_old _ _ _ (by simp; omega), cell_old _ _ _ (by simp; omega), cell_old _ _ _ (by simp), cell_new _ _ _ _ rfl]; rfl
    · rw [cell_old _ _ _ (by simp; omega), cell_old _ _ _ (by simp; omega), cell_old _ _ _ (by simp), cell_new _ _ _ _ rfl]; rfl
    · rw [cell_old _ _ _ (by simp), cell_old _ _ _ (by simp), cell_new _ _ _ _ (by simp)]
      obtain rfl | rfl | rfl | rfl | rfl : j = 0 ∨ j = 1 ∨ j = 2 ∨ j = 3 ∨ j = 4 := by omega
      all_goals rfl
    · rw [cell_old _ _ _ (by simp), cell_new _ _ _ _ (by simp)]
      obtain rfl | rfl | rfl | rfl | rfl | rfl | rfl : j = 0 ∨ j = 1 ∨ j = 2 ∨ j = 3 ∨ j = 4 ∨ j = 5 ∨ j = 6 := by omega
      all_goals rfl
    · rw [cell_new _ _ _ _ (by simp), if_neg (by omega)]
      obtain rfl | rfl | rfl | rfl | rfl : j = 0 ∨ j = 1 ∨ j = 2 ∨ j = 3 ∨ j = 4 := by omega
      all_goals rfl)
  generalize (((w.alloc (.cells #[.int .i64 q.1, .int .i64 q.2] 60)).alloc (.cells #[c 0, c 1, c 2, c 3, c 4] 62)).alloc (.cells #[.int .i64 0, .int .i64 0, .int .i64 0, .int .i64 0, .int .i64 0, .int .i64 0, .int .i64 0] 42)).alloc (.cells #[.int .i64 0, .int .i64 0, .int .i64 0, .int .i64 0, .int .i64 0] 35) = w0 at *
  go_loopw [7, 8, 9, 10] (fun _ _ _ i wr => ∃ k : Nat, k ≤ 5 ∧ i = .int .i64 k ∧ Hid (TyI w q c (fun j => sumI (f j)) k wr) ∧ Hid (∀ j, j < k → I64 (sumI (f j)))) (fun _ _ _ i _ => 5 - (intOf i).toNat)
  case atStart => exact ⟨0, by omega, rfl, HT, fun j hj => absurd hj (by omega)⟩
  case round =>
    obtain ⟨k, hk, rfl, HT, HA⟩ := hrel
    by_cases hlt : k < 5
    · have hcc := HT.out.c k hlt
      obtain ⟨A, d, hcs, hsg⟩ := HC.out k hlt
      rw [hcs] at hcc
      have HSU : Hid (Calls Try.prog 25 #[.slice A (f k).length d] wr fun e w' => e = .returned (.tuple #[.int .i64 (amtV (sumI (f k))), .int .i64 (amtE (sumI (f k)))]) ∧ Below wr.heap.size wr w') := Lib.hid (sum_any (f k) A d wr (HI.out k hlt) (hsg.below HT.out.b |>.mono HT.out.b.size) (HN.out k hlt))
      have hk0 : (0 : Int) ≤ (k : Int) := by omega
      have hkb : (k : Int) < 5 := by omega
      clear hcs hsg
      by_cases hi : I64 (sumI (f k))
      · obtain ⟨hV, hE⟩ := amt_in hi
        rw [hV, hE] at HSU
        have HA1 : Hid (∀ j, j < k + 1 → I64 (sumI (f j))) := Lib.hid fun j hj => by
          by_cases e : j = k
          · subst e; exact hi
          · exact HA.out j (by omega)
        clear hV hE hi HA
        generalize hsk : sumI (f k) = sk at *
        go_wp2_with (go_at_call 25; refine HSU.out.mono ?_; rintro e w2 ⟨rfl, hb2⟩; have HT2 := Lib.hid (HT.out.below hb2); have hn2 := HT2.out.n k hlt; have hnf2 := HT2.out.nf k; clear hb2)
        have HTK : Hid (TyI w q c (fun j => sumI (f j)) (k + 1) (w2.setCell ⟨w.heap.size + 1 + 1 + 1, k, none⟩ (.int .i64 sk))) := Lib.hid (by rw [← hsk]; exact HT2.out.put hlt)
        clear HT2 hn2 hnf2
        go_roundw
        case rel => exact ⟨k + 1, by omega, by go_num, HTK, HA1⟩
        case measure => simp [intOf]; omega
      · obtain ⟨hV, hE⟩ := amt_out hi
        rw [hV, hE] at HSU
        have HB := Lib.hid (okR_bad (g := fun j => sumI (f j)) hlt hi)
        clear hV hE hi HA
        have hx0 := HT.out
        go_wp2_with (go_at_call 25; refine HSU.out.mono ?_; rintro e w2 ⟨rfl, hb2⟩; have HT2 := Lib.hid (HT.out.below hb2); have r0 := HT2.out.r 0 (by omega); have r1 := HT2.out.r 1 (by omega); have r2 := HT2.out.r 2 (by omega); have r3 := HT2.out.r 3 (by omega); have r4 := HT2.out.r 4 (by omega); have r5 := HT2.out.r 5 (by omega); have r6 := HT2.out.r 6 (by omega); have g := HT2.out.rf; clear hb2)
        obtain ⟨W5, hW5⟩ : ∃ W5, W5 = (((((((w2).setCell ⟨w.heap.size + 1 + 1, 0, none⟩ (Value.int .i64 0)).setCell ⟨w.heap.size + 1 + 1, 1, none⟩ (Value.int .i64 0)).setCell ⟨w.heap.size + 1 + 1, 2, none⟩ (Value.int .i64 0)).setCell ⟨w.heap.size + 1 + 1, 3, none⟩ (Value.int .i64 0)).setCell ⟨w.heap.size + 1 + 1, 4, none⟩ (Value.int .i64 0)).setCell ⟨w.heap.size + 1 + 1, 5, none⟩ (Value.int .i64 0)).setCell ⟨w.heap.size + 1 + 1, 6, none⟩ (Value.int .i64 0) := ⟨_, rfl⟩
        rw [← hW5]
        have HS := setAll_at (b := w.heap.size + 1 + 1) [Value.int .i64 0, Value.int .i64 0, Value.int .i64 0, Value.int .i64 0, Value.int .i64 0, Value.int .i64 0, Value.int .i64 0] w2 0 (seven_at r0 r1 r2 r3 r4 r5 r6 rfl)
        have s0 : W5.cell? ⟨w.heap.size + 1 + 1, 0, none⟩ = some (Value.int .i64 0) := by rw [hW5]; exact HS 0 (by simp)
        have s1 : W5.cell? ⟨w.heap.size + 1 + 1, 1, none⟩ = some (Value.int .i64 0) := by rw [hW5]; exact HS 1 (by simp)
        have s2 : W5.cell? ⟨w.heap.size + 1 + 1, 2, none⟩ = some (Value.int .i64 0) := by rw [hW5]; exact HS 2 (by simp)
        have s3 : W5.cell? ⟨w.heap.size + 1 + 1, 3, none⟩ = some (Value.int .i64 0) := by rw [hW5]; exact HS 3 (by simp)
        have s4 : W5.cell? ⟨w.heap.size + 1 + 1, 4, none⟩ = some (Value.int .i64 0) := by rw [hW5]; exact HS 4 (by simp)
        have s5 : W5.cell? ⟨w.heap.size + 1 + 1, 5, none⟩ = some (Value.int .i64 0) := by rw [hW5]; exact HS 5 (by simp)
        have s6 : W5.cell? ⟨w.heap.size + 1 + 1, 6, none⟩ = some (Value.int .i64 0) := by rw [hW5]; exact HS 6 (by simp)
        have HBX : Hid (Below w.heap.size w W5) := Lib.hid (by rw [hW5]; exact setAll_below (by omega) [Value.int .i64 0, Value.int .i64 0, Value.int .i64 0, Value.int .i64 0, Value.int .i64 0, Value.int .i64 0, Value.int .i64 0] w2 0 HT2.out.b)
        clear HS hW5
        refine bodyPost_ret (v := .tuple #[.agg #[Value.int .i64 0, Value.int .i64 0, Value.int .i64 0, Value.int .i64 0, Value.int .i64 0, Value.int .i64 0, Value.int .i64 0], .int .i64 2]) (by simp [results, Try.results30, go_sem, s0, s1, s2, s3, s4, s5, s6]) rfl ?_
        exact ⟨by simp only [tlV, tlE, HB.out]; rfl, HBX.out⟩
    · obtain rfl : k = 5 := by omega
      have HB := Lib.hid (okR_good (g := fun j => sumI (f j)) HA.out)
      obtain ⟨hb, hsz, c0, c1, hcc, hr, g, hnn, hnf⟩ := HT.out
      have r0 := hr 0 (by omega)
      have r1 := hr 1 (by omega)
      have r2 := hr 2 (by omega)
      have r3 := hr 3 (by omega)
      have r4 := hr 4 (by omega)
      have r5 := hr 5 (by omega)
      have r6 := hr 6 (by omega)
      have n0 := hnn 0 (by omega)
      have n1 := hnn 1 (by omega)
      have n2 := hnn 2 (by omega)
      have n3 := hnn 3 (by omega)
      have n4 := hnn 4 (by omega)
      rw [if_pos (by omega)] at n0 n1 n2 n3 n4
      have HBB := Lib.hid hb
      clear hr hnn hb hcc hsz HT
      go_wp2_with fail
      obtain ⟨W5, hW5⟩ : ∃ W5, W5 = (((((((wr).setCell ⟨w.heap.size + 1 + 1, 0, none⟩ (Value.int .i64 q.1)).setCell ⟨w.heap.size + 1 + 1, 1, none⟩ (Value.int .i64 q.2)).setCell ⟨w.heap.size + 1 + 1, 2, none⟩ (Value.int .i64 (sumI (f 0)))).setCell ⟨w.heap.size + 1 + 1, 3, none⟩ (Value.int .i64 (sumI (f 1)))).setCell ⟨w.heap.size + 1 + 1, 4, none⟩ (Value.int .i64 (sumI (f 2)))).setCell ⟨w.heap.size + 1 + 1, 5, none⟩ (Value.int .i64 (sumI (f 3)))).setCell ⟨w.heap.size + 1 + 1, 6, none⟩ (Value.int .i64 (sumI (f 4))) := ⟨_, rfl⟩
      rw [← hW5]
      have HS := setAll_at (b := w.heap.size + 1 + 1) [Value.int .i64 q.1, Value.int .i64 q.2, Value.int .i64 (sumI (f 0)), Value.int .i64 (sumI (f 1)), Value.int .i64 (sumI (f 2)), Value.int .i64 (sumI (f 3)), Value.int .i64 (sumI (f 4))] wr 0 (seven_at r0 r1 r2 r3 r4 r5 r6 rfl)
      have s0 : W5.cell? ⟨w.heap.size + 1 + 1, 0, none⟩ = some (Value.int .i64 q.1) := by rw [hW5]; exact HS 0 (by simp)
      have s1 : W5.cell? ⟨w.heap.size + 1 + 1, 1, none⟩ = some (Value.int .i64 q.2) := by rw [hW5]; exact HS 1 (by simp)
      have s2 : W5.cell? ⟨w.heap.size + 1 + 1, 2, none⟩ = some (Value.int .i64 (sumI (f 0))) := by rw [hW5]; exact HS 2 (by simp)
      have s3 : W5.cell? ⟨w.heap.size + 1 + 1, 3, none⟩ = some (Value.int .i64 (sumI (f 1))) := by rw [hW5]; exact HS 3 (by simp)
      have s4 : W5.cell? ⟨w.heap.size + 1 + 1, 4, none⟩ = some (Value.int .i64 (sumI (f 2))) := by rw [hW5]; exact HS 4 (by simp)
      have s5 : W5.cell? ⟨w.heap.size + 1 + 1, 5, none⟩ = some (Value.int .i64 (sumI (f 3))) := by rw [hW5]; exact HS 5 (by simp)
      have s6 : W5.cell? ⟨w.heap.size + 1 + 1, 6, none⟩ = some (Value.int .i64 (sumI (f 4))) := by rw [hW5]; exact HS 6 (by simp)
      have HBX : Hid (Below w.heap.size w W5) := Lib.hid (by rw [hW5]; exact setAll_below (by omega) [Value.int .i64 q.1, Value.int .i64 q.2, Value.int .i64 (sumI (f 0)), Value.int .i64 (sumI (f 1)), Value.int .i64 (sumI (f 2)), Value.int .i64 (sumI (f 3)), Value.int .i64 (sumI (f 4))] wr 0 HBB.out)
      clear HS hW5
      refine bodyPost_ret (v := .tuple #[.agg #[Value.int .i64 q.1, Value.int .i64 q.2, Value.int .i64 (sumI (f 0)), Value.int .i64 (sumI (f 1)), Value.int .i64 (sumI (f 2)), Value.int .i64 (sumI (f 3)), Value.int .i64 (sumI (f 4))], .int .i64 0]) (by simp [results, Try.results30, go_sem, s0, s1, s2, s3, s4, s5, s6]) rfl ?_
      exact ⟨by simp only [tlV, tlE, HB.out]; rfl, HBX.out⟩
end Go.Proofs.Ytgkidjjijgegmaa
