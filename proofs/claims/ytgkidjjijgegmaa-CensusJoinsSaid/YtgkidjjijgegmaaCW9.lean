/-
  What complineref37.Row comes to, over this seat's translation: a contract for callers. (Printed by gen_cw9.py.)
-/
import Derived.Test.YtgkidjjijgegmaaCW8
import Derived.Test.YtgkidjjijgegmaaRef01D
namespace Go.Proofs.Ytgkidjjijgegmaa
open Go.RowKit

theorem five_at {W : World} {b : Nat} {u0 u1 u2 u3 u4 : Value} {n : Nat} (r0 : W.cell? ⟨b, 0, none⟩ = some u0) (r1 : W.cell? ⟨b, 1, none⟩ = some u1) (r2 : W.cell? ⟨b, 2, none⟩ = some u2) (r3 : W.cell? ⟨b, 3, none⟩ = some u3) (r4 : W.cell? ⟨b, 4, none⟩ = some u4) (hn : n = 5) : ∀ j, j < n → ∃ u, W.cell? ⟨b, 0 + j, none⟩ = some u := by
  subst hn
  intro j hj
  rw [Nat.zero_add]
  obtain rfl | rfl | rfl | rfl | rfl : j = 0 ∨ j = 1 ∨ j = 2 ∨ j = 3 ∨ j = 4 := by omega
  · exact ⟨_, r0⟩
  · exact ⟨_, r1⟩
  · exact ⟨_, r2⟩
  · exact ⟨_, r3⟩
  · exact ⟨_, r4⟩
/-- The blocks of complineref37.Row, while it has gone over k columns. -/
structure RwI (w : World) (g : Nat → Int) (k : Nat) (W : World) : Prop where
  b : Below w.heap.size w W
  sz : w.heap.size + 2 ≤ W.heap.size
  r : ∀ j, j < 5 → W.cell? ⟨w.heap.size, j, none⟩ = some (.int .i64 0)
  rf : ∀ j, W.frozen? ⟨w.heap.size, j, none⟩ = false
  n : ∀ j, j < 5 → W.cell? ⟨w.heap.size + 1, j, none⟩ = some (.int .i64 (if j < k then g j else 0))
  nf : ∀ j, W.frozen? ⟨w.heap.size + 1, j, none⟩ = false
theorem RwI.below {w W W' : World} {g : Nat → Int} {k : Nat} (h : RwI w g k W) (hb : Below W.heap.size W W') : RwI w g k W' := by
  have hs := h.sz
  exact ⟨h.b.trans (hb.mono h.b.size), Nat.le_trans h.sz hb.size, fun j hj => (hb.cell (p := ⟨_, j, none⟩) (by show w.heap.size < _; omega)).trans (h.r j hj), fun j => (hb.frozen (p := ⟨_, j, none⟩) (by show w.heap.size < _; omega)).trans (h.rf j), fun j hj => (hb.cell (p := ⟨_, j, none⟩) (by show w.heap.size + 1 < _; omega)).trans (h.n j hj), fun j => (hb.frozen (p := ⟨_, j, none⟩) (by show w.heap.size + 1 < _; omega)).trans (h.nf j)⟩
theorem RwI.put {w W : World} {g : Nat → Int} {k : Nat} (h : RwI w g k W) (_hk : k < 5) : RwI w g (k + 1) (W.setCell ⟨w.heap.size + 1, k, none⟩ (.int .i64 (g k))) := by
  have ot : ∀ (b j : Nat), b ≠ w.heap.size + 1 → (W.setCell ⟨w.heap.size + 1, k, none⟩ (.int .i64 (g k))).cell? ⟨b, j, none⟩ = W.cell? ⟨b, j, none⟩ := fun b j hb => World.cell?_setCell_other _ _ _ _ (fun e => hb (by injection e with e _ _; exact e.symm))
  refine ⟨h.b.setCell (p := ⟨_, k, none⟩) (by show w.heap.size ≤ w.heap.size + 1; omega) _, by simpa using h.sz, fun j hj => (ot _ _ (by omega)).trans (h.r j hj), fun j => by simpa using h.rf j, fun j hj => ?_, fun j => by simpa using h.nf j⟩
  by_cases e : j = k
  · subst e
    rw [if_pos (by omega)]
    exact World.cell?_setCell_same' _ _ _ (by rw [h.n j hj]; rfl)
  · rw [World.cell?_setCell_other _ _ _ _ (fun e' => e (by injection e' with _ e' _; exact e'.symm)), h.n j hj]
    have : (j < k + 1) = (j < k) := by simp; omega
    simp only [this]
/-- A side's row has come back. -/
def GotR (g : Nat → Int) (w : World) (e : Ending) (w' : World) : Prop := ∃ f : Nat → Int, e = .returned (.tuple #[rowV f, .bool (okR g)]) ∧ (okR g = true → ∀ j, j < 5 → f j = g j) ∧ Below w.heap.size w w'
set_option maxRecDepth 100000 in
set_option maxHeartbeats 3200000 in
theorem row37_any (l : List Ev) (A : Option Addr) (c : Nat) (q1 q2 : Int) (w : World) (hs : Seg w w.heap.size A (evRows l)) (hI : ∀ x ∈ l, EvOk x) (hl : l.length ≤ 100000) :
    Calls Try.prog 11 #[.slice A l.length c, .int .i64 q1, .int .i64 q2] w (GotR (gE l (q1, q2)) w) := by
  have HCC : Hid (∀ (W : World) (j : Nat), j < 5 → Below w.heap.size w W → Calls Try.prog 24 #[.slice A l.length c, .int .i64 q1, .int .i64 q2, .int .i64 (j : Int)] W (GotL (rcol l (q1, q2) j) W)) := Lib.hid fun W j hj hW => column_any l A c q1 q2 j hj W ((hs.below hW).mono hW.size) hI hl
  have HSU : Hid (∀ (W : World) (A' : Option Addr) (c' j : Nat), Seg W W.heap.size A' ((rcol l (q1, q2) j).map (Value.int .i64)) → Calls Try.prog 17 #[.slice A' (rcol l (q1, q2) j).length c'] W fun e w' => e = .returned (.tuple #[.int .i64 (amtV (gE l (q1, q2) j)), .int .i64 (amtE (gE l (q1, q2) j))]) ∧ W = w') := Lib.hid fun W A' c' j hS => by
    rw [← rcol_sum (fun x hx => (hI x hx).2.2.2.1) (q1, q2) j]
    exact refsum_any (rcol l (q1, q2) j) A' c' W (rcol_I64 (fun x hx => (hI x hx).2.2.2.1) _ _) hS (by have := rcol_len l (q1, q2) j; omega)
  clear hs hI hl
  obtain ⟨g, hg⟩ : ∃ g, g = gE l (q1, q2) := ⟨_, rfl⟩
  rw [← hg] at HSU ⊢
  clear hg
  go_enter Try.func11, Try.ntmps11
  go_wp2_with fail
  have HT : Hid (RwI w g 0 ((w.alloc (.cells #[.int .i64 0, .int .i64 0, .int .i64 0, .int .i64 0, .int .i64 0] 35)).alloc (.cells #[.int .i64 0, .int .i64 0, .int .i64 0, .int .i64 0, .int .i64 0] 35))) := Lib.hid (by
    refine ⟨((Below.refl _ _).alloc (Nat.le_refl _) _).alloc (by simp) _, by simp, fun j hj => ?_, fun j => by go_simp, fun j hj => ?_, fun j => by go_simp⟩
    · rw [cell_old _ _ _ (by simp), cell_new _ _ _ _ rfl]
      obtain rfl | rfl | rfl | rfl | rfl : j = 0 ∨ j = 1 ∨ j = 2 ∨ j = 3 ∨ j = 4 := by omega
      all_goals rfl
    · rw [cell_new _ _ _ _ (by simp), if_neg (by omega)]
      obtain rfl | rfl | rfl | rfl | rfl : j = 0 ∨ j = 1 ∨ j = 2 ∨ j = 3 ∨ j = 4 := by omega
      all_goals rfl)
  generalize (w.alloc (.cells #[.int .i64 0, .int .i64 0, .int .i64 0, .int .i64 0, .int .i64 0] 35)).alloc (.cells #[.int .i64 0, .int .i64 0, .int .i64 0, .int .i64 0, .int .i64 0] 35) = w0 at *
  go_loopw [9, 10, 11] (fun i _ _ wr => ∃ k : Nat, k ≤ 5 ∧ i = .int .i64 k ∧ Hid (RwI w g k wr) ∧ Hid (∀ j, j < k → I64 (g j))) (fun i _ _ _ => 5 - (intOf i).toNat)
  case atStart => exact ⟨0, by omega, rfl, HT, fun j hj => absurd hj (by omega)⟩
  case round =>
    obtain ⟨k, hk, rfl, HT, HA⟩ := hrel
    by_cases hlt : k < 5
    · have HC := Lib.hid (HCC.out wr k hlt HT.out.b)
      have hk0 : (0 : Int) ≤ (k : Int) := by omega
      have hkb : (k : Int) < 5 := by omega
      by_cases hi : I64 (g k)
      · obtain ⟨hV, hE⟩ := amt_in hi
        have HA1 : Hid (∀ j, j < k + 1 → I64 (g j)) := Lib.hid fun j hj => by
          by_cases e : j = k
          · subst e; exact hi
          · exact HA.out j (by omega)
        clear hi HA
        go_wp2_with (first | (go_at_call 24; refine HC.out.mono ?_; rintro e w2 ⟨A2, c2, rfl, hown, hb2⟩; have HT2 := Lib.hid (HT.out.below hb2); have HS2 := Lib.hid (Seg.of_own hown); have hn2 := HT2.out.n k hlt; have hnf2 := HT2.out.nf k; clear hown hb2) | (go_at_call 17; refine (HSU.out _ A2 c2 k HS2.out).mono ?_; rintro e w3 ⟨rfl, rfl⟩; rw [hV, hE]))
        have HTK : Hid (RwI w g (k + 1) (w2.setCell ⟨w.heap.size + 1, k, none⟩ (.int .i64 (g k)))) := Lib.hid (HT2.out.put hlt)
        clear HT2 hn2 hnf2
        go_roundw
        case rel => exact ⟨k + 1, by omega, by go_num, HTK, HA1⟩
        case measure => simp [intOf]; omega
      · obtain ⟨hV, hE⟩ := amt_out hi
        have HB := Lib.hid (okR_bad hlt hi)
        obtain ⟨f, HFF⟩ : ∃ f : Nat → Int, Hid (∀ j, (if j < k then g j else 0) = f j) := ⟨fun j => if j < k then g j else 0, Lib.hid fun _ => rfl⟩
        clear hi HA
        go_wp2_with (first | (go_at_call 24; refine HC.out.mono ?_; rintro e w2 ⟨A2, c2, rfl, hown, hb2⟩; have HT2 := Lib.hid (HT.out.below hb2); have HS2 := Lib.hid (Seg.of_own hown); have r0 := HT2.out.r 0 (by omega); have r1 := HT2.out.r 1 (by omega); have r2 := HT2.out.r 2 (by omega); have r3 := HT2.out.r 3 (by omega); have r4 := HT2.out.r 4 (by omega); have rf := HT2.out.rf; have n0 := HT2.out.n 0 (by omega); have n1 := HT2.out.n 1 (by omega); have n2 := HT2.out.n 2 (by omega); have n3 := HT2.out.n 3 (by omega); have n4 := HT2.out.n 4 (by omega); rw [HFF.out] at n0 n1 n2 n3 n4; clear hown hb2) | (go_at_call 17; refine (HSU.out _ A2 c2 k HS2.out).mono ?_; rintro e w3 ⟨rfl, rfl⟩; rw [hV, hE]))
        obtain ⟨W5, hW5⟩ : ∃ W5, W5 = (((((w2).setCell ⟨w.heap.size, 0, none⟩ (Value.int .i64 (f 0))).setCell ⟨w.heap.size, 1, none⟩ (Value.int .i64 (f 1))).setCell ⟨w.heap.size, 2, none⟩ (Value.int .i64 (f 2))).setCell ⟨w.heap.size, 3, none⟩ (Value.int .i64 (f 3))).setCell ⟨w.heap.size, 4, none⟩ (Value.int .i64 (f 4)) := ⟨_, rfl⟩
        rw [← hW5]
        have HS5 := setAll_at (b := w.heap.size) [Value.int .i64 (f 0), Value.int .i64 (f 1), Value.int .i64 (f 2), Value.int .i64 (f 3), Value.int .i64 (f 4)] w2 0 (five_at r0 r1 r2 r3 r4 rfl)
        have s0 : W5.cell? ⟨w.heap.size, 0, none⟩ = some (Value.int .i64 (f 0)) := by rw [hW5]; exact HS5 0 (by simp)
        have s1 : W5.cell? ⟨w.heap.size, 1, none⟩ = some (Value.int .i64 (f 1)) := by rw [hW5]; exact HS5 1 (by simp)
        have s2 : W5.cell? ⟨w.heap.size, 2, none⟩ = some (Value.int .i64 (f 2)) := by rw [hW5]; exact HS5 2 (by simp)
        have s3 : W5.cell? ⟨w.heap.size, 3, none⟩ = some (Value.int .i64 (f 3)) := by rw [hW5]; exact HS5 3 (by simp)
        have s4 : W5.cell? ⟨w.heap.size, 4, none⟩ = some (Value.int .i64 (f 4)) := by rw [hW5]; exact HS5 4 (by simp)
        have HBX : Hid (Below w.heap.size w W5) := Lib.hid (by rw [hW5]; exact setAll_below (Nat.le_refl _) [Value.int .i64 (f 0), Value.int .i64 (f 1), Value.int .i64 (f 2), Value.int .i64 (f 3), Value.int .i64 (f 4)] w2 0 HT2.out.b)
        clear HS5 hW5
        refine bodyPost_ret (v := .tuple #[.agg #[Value.int .i64 (f 0), Value.int .i64 (f 1), Value.int .i64 (f 2), Value.int .i64 (f 3), Value.int .i64 (f 4)], .bool false]) (by simp [results, Try.results11, go_sem, s0, s1, s2, s3, s4]) rfl ?_
        exact ⟨f, by rw [HB.out]; rfl, fun h => by rw [HB.out] at h; (cases h), HBX.out⟩
    · obtain rfl : k = 5 := by omega
      have HB := Lib.hid (okR_good HA.out)
      obtain ⟨hb, hsz, hr, rf, hnn, hnf⟩ := HT.out
      have r0 := hr 0 (by omega)
      have r1 := hr 1 (by omega)
      have r2 := hr 2 (by omega)
      have r3 := hr 3 (by omega)
      have r4 := hr 4 (by omega)
      have n0 := hnn 0 (by omega)
      have n1 := hnn 1 (by omega)
      have n2 := hnn 2 (by omega)
      have n3 := hnn 3 (by omega)
      have n4 := hnn 4 (by omega)
      rw [if_pos (by omega)] at n0 n1 n2 n3 n4
      have HBB := Lib.hid hb
      clear hr hnn hb hnf hsz HT
      go_wp2_with fail
      obtain ⟨W5, hW5⟩ : ∃ W5, W5 = (((((wr).setCell ⟨w.heap.size, 0, none⟩ (Value.int .i64 (g 0))).setCell ⟨w.heap.size, 1, none⟩ (Value.int .i64 (g 1))).setCell ⟨w.heap.size, 2, none⟩ (Value.int .i64 (g 2))).setCell ⟨w.heap.size, 3, none⟩ (Value.int .i64 (g 3))).setCell ⟨w.heap.size, 4, none⟩ (Value.int .i64 (g 4)) := ⟨_, rfl⟩
      rw [← hW5]
      have HS5 := setAll_at (b := w.heap.size) [Value.int .i64 (g 0), Value.int .i64 (g 1), Value.int .i64 (g 2), Value.int .i64 (g 3), Value.int .i64 (g 4)] wr 0 (five_at r0 r1 r2 r3 r4 rfl)
      have s0 : W5.cell? ⟨w.heap.size, 0, none⟩ = some (Value.int .i64 (g 0)) := by rw [hW5]; exact HS5 0 (by simp)
      have s1 : W5.cell? ⟨w.heap.size, 1, none⟩ = some (Value.int .i64 (g 1)) := by rw [hW5]; exact HS5 1 (by simp)
      have s2 : W5.cell? ⟨w.heap.size, 2, none⟩ = some (Value.int .i64 (g 2)) := by rw [hW5]; exact HS5 2 (by simp)
      have s3 : W5.cell? ⟨w.heap.size, 3, none⟩ = some (Value.int .i64 (g 3)) := by rw [hW5]; exact HS5 3 (by simp)
      have s4 : W5.cell? ⟨w.heap.size, 4, none⟩ = some (Value.int .i64 (g 4)) := by rw [hW5]; exact HS5 4 (by simp)
      have HBX : Hid (Below w.heap.size w W5) := Lib.hid (by rw [hW5]; exact setAll_below (Nat.le_refl _) [Value.int .i64 (g 0), Value.int .i64 (g 1), Value.int .i64 (g 2), Value.int .i64 (g 3), Value.int .i64 (g 4)] wr 0 HBB.out)
      clear HS5 hW5
      refine bodyPost_ret (v := .tuple #[.agg #[Value.int .i64 (g 0), Value.int .i64 (g 1), Value.int .i64 (g 2), Value.int .i64 (g 3), Value.int .i64 (g 4)], .bool true]) (by simp [results, Try.results11, go_sem, s0, s1, s2, s3, s4]) rfl ?_
      exact ⟨g, by rw [HB.out]; rfl, fun _ _ _ => rfl, HBX.out⟩
end Go.Proofs.Ytgkidjjijgegmaa
