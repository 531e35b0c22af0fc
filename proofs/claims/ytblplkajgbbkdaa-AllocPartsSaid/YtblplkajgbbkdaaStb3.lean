/-
  The setting of a stable sort of numbers; what slices.insertionSortCmpFunc comes to, over this seat's translation: a contract for callers.
-/
import Derived.Test.YtblplkajgbbkdaaStb2
namespace Go.Proofs.Ytblplkajgbbkdaa
open Go.RowKit Go.Lib Go.Sort Go.Shelf Go.Proofs.Ytblplkajgbbkdaa.StableLaw

/-- What the family is told, once: where the row lies, and what 'cmp' tells of numbers that are 'ok'. -/
structure Sett (w0 : World) (blk off n : Nat) (g : Nat) (cb : Array Value) (cf : Int → Int → Int) (k : Int → Int) (ok : Int → Prop) (d0 : Array Int) : Prop where
  row : Row1 (Value.int .i64) w0 blk off d0
  size : d0.size = n
  lt : n < 4611686018427387904
  enters : ∀ args w, (callFunc g args).run Try.prog w = .ok (.enter g args) w
  cmp : ∀ (m : Nat) (os : Array Obj) (dk : Array Int), dk.size = n → ∀ x y, ok x → ok y → Calls Try.prog g (#[.int .i64 x, .int .i64 y] ++ cb) (sortWorld (Value.int .i64) w0 blk off m dk os) fun e w' => e = .returned (.int .i64 (cf x y)) ∧ ∃ q os', w' = grow ((sortWorld (Value.int .i64) w0 blk off m dk os).drewN q) os'
  neg : ∀ x y, ok x → ok y → (cf x y < 0 ↔ k x < k y)
/-- A world of the sort's, and its row. -/
structure Rw (w0 : World) (blk off n : Nat) (ok : Int → Prop) (d : Array Int) (w : World) : Prop where
  size : d.size = n
  sw : SW (Value.int .i64) w0 blk off d w
  ok : ∀ p, p < n → ok (fn d p)
section
variable {w0 : World} {blk off n : Nat} {g : Nat} {cb : Array Value} {cf : Int → Int → Int} {k : Int → Int} {ok : Int → Prop} {d0 : Array Int} {d : Array Int} {W : World}
theorem Rw.c (h : Rw w0 blk off n ok d W) (T : Sett w0 blk off n g cb cf k ok d0) (i : Nat) (hi : i < n) : W.cell? ⟨blk, off + i, none⟩ = some (.int .i64 (fn d i)) := h.sw.c1 T.row (h.size.trans T.size.symm) i (by rw [h.size]; exact hi)
theorem Rw.f (h : Rw w0 blk off n ok d W) (T : Sett w0 blk off n g cb cf k ok d0) (i : Nat) (hi : i < n) : W.frozen? ⟨blk, off + i, none⟩ = false := h.sw.f1 T.row (h.size.trans T.size.symm) i (by rw [h.size]; exact hi)
theorem Rw.cl (h : Rw w0 blk off n ok d W) (T : Sett w0 blk off n g cb cf k ok d0) (i : Nat) (hi : i < n) (m : Nat) (os : Array Obj) : (grow (W.drewN m) os).cell? ⟨blk, off + i, none⟩ = some (.int .i64 (fn d i)) := h.sw.cl T.row (h.size.trans T.size.symm) i (by rw [h.size]; exact hi) m os
theorem Rw.c2 (h : Rw w0 blk off n ok d W) (T : Sett w0 blk off n g cb cf k ok d0) (i j : Nat) (hi : i < n) (hj : j < n) (v : Value) : ∃ u, (W.setCell ⟨blk, off + i, none⟩ v).cell? ⟨blk, off + j, none⟩ = some u := h.sw.c2 T.row (h.size.trans T.size.symm) i j (by rw [h.size]; exact hi) (by rw [h.size]; exact hj) v
theorem Rw.swapped (h : Rw w0 blk off n ok d W) (T : Sett w0 blk off n g cb cf k ok d0) (i j : Nat) (hi : i < n) (hj : j < n) :
    Rw w0 blk off n ok (swp d i j) ((W.setCell ⟨blk, off + i, none⟩ (.int .i64 (fn d j))).setCell ⟨blk, off + j, none⟩ (.int .i64 (fn d i))).drew := by
  have h1 : i < d.size := by rw [h.size]; exact hi
  have h2 : j < d.size := by rw [h.size]; exact hj
  refine ⟨by rw [size_swp]; exact h.size, h.sw.swapped T.row i j h1 h2, fun p hp => ?_⟩
  rw [fn_swp d h1 h2]
  unfold swapF
  split
  · exact h.ok j hj
  · split
    · exact h.ok i hi
    · exact h.ok p hp
theorem Rw.grown (h : Rw w0 blk off n ok d W) (m : Nat) (os : Array Obj) : Rw w0 blk off n ok d (grow (W.drewN m) os) := ⟨h.size, h.sw.grown m os, h.ok⟩
theorem Rw.drew (h : Rw w0 blk off n ok d W) : Rw w0 blk off n ok d W.drew := ⟨h.size, h.sw.drew, h.ok⟩
theorem Rw.cmp (h : Rw w0 blk off n ok d W) (T : Sett w0 blk off n g cb cf k ok d0) (i j : Nat) (hi : i < n) (hj : j < n) (m : Nat) (os : Array Obj) :
    Calls Try.prog g (#[.int .i64 (fn d i), .int .i64 (fn d j)] ++ cb) (grow (W.drewN m) os) fun e w' => e = .returned (.int .i64 (cf (fn d i) (fn d j))) ∧ ∃ q os', w' = grow ((grow (W.drewN m) os).drewN q) os' := by
  obtain ⟨m', os', hw⟩ := h.sw.grown m os
  rw [hw]
  exact T.cmp m' os' d h.size _ _ (h.ok i hi) (h.ok j hj)
theorem rotate_rw (h : Rw w0 blk off n ok d W) (T : Sett w0 blk off n g cb cf k ok d0) (v : Value) (cap a m b : Nat) (h1 : a < m) (h2 : m < b) (h3 : b ≤ n) :
    Calls Try.prog 110 #[.slice (some ⟨blk, off, none⟩) n cap, .int .i64 a, .int .i64 m, .int .i64 b, v] W fun e w' => e = .returned (.tuple #[]) ∧ ∃ d' : Array Int, fn d' = rot (fn d) a m b ∧ Rw w0 blk off n ok d' w' := by
  have e := h.size
  subst e
  refine (rotate_any v blk off cap a m b d0 d w0 W T.row T.size h.sw h1 h2 h3 T.lt).mono ?_
  rintro e w' ⟨rfl, d', hd, hf, hs⟩
  refine ⟨rfl, d', hf, hd, hs, fun p hp => ?_⟩
  rw [hf]
  have mv := rot_moved (fn d) (Nat.le_of_lt h1) (Nat.le_of_lt h2)
  by_cases c : a ≤ p ∧ p < b
  · obtain ⟨j, h4, h5, e⟩ := mv.to p c.1 c.2
    rw [e]; exact h.ok j (by omega)
  · rw [mv.out p (by omega)]; exact h.ok p hp
end
set_option maxHeartbeats 16000000 in
set_option maxRecDepth 1000000 in
theorem insertion_any {w0 : World} {blk off n : Nat} {g : Nat} {cb : Array Value} {cf : Int → Int → Int} {k : Int → Int} {ok : Int → Prop} {d0 : Array Int} (T0 : Sett w0 blk off n g cb cf k ok d0) (cap a b : Nat) (d : Array Int) (w : World) (h : Rw w0 blk off n ok d w) (hab : a ≤ b) (hb : b ≤ n)
    (h0 : ∀ p q, a ≤ p → p < q → q < b → fn d p < fn d q) :
    Calls Try.prog 96 #[.slice (some ⟨blk, off, none⟩) n cap, .int .i64 a, .int .i64 b, .func (.func g) #[] cb] w fun e w' => e = .returned (.tuple #[]) ∧ ∃ d' : Array Int, Moved (fn d) (fn d') a b ∧ Srt k (fn d') a b ∧ Rw w0 blk off n ok d' w' := by
  have eg := T0.enters
  have hn := T0.lt
  have mixed : Try.prog.follows .mixedOrders = true := by kernel_rfl
  have T := Lib.hid T0
  have HH := Lib.hid h
  have H0 := Lib.hid h0
  clear T0 h h0
  have wa : IntKind.i64.wrap ((a : Int) + 1) = (a : Int) + 1 := by rw [IntKind.wrap_i64]; omega
  go_enter Try.func96, Try.ntmps96
  go_wp2
  go_loopg [8] (b - a) (fun g1 vi wr => ∃ (i : Nat) (dk : Array Int), vi = .int .i64 i ∧ a < i ∧ i ≤ b + 1 ∧ b + 1 - i ≤ g1 + 1 ∧ Hid (Rw w0 blk off n ok dk wr) ∧ Hid (Moved (fn d) (fn dk) a i ∧ Srt k (fn dk) a i ∧ (i ≤ b ∨ dk = d)))
  case atStart => exact ⟨a + 1, d, by go_num, by omega, by omega, by omega, HH, Moved.refl _ _ _, fun _ _ _ _ _ => by omega, .inr rfl⟩
  case round =>
    clear HH wa
    obtain ⟨i, dk, rfl, hai, hib, hg1, S1, HO⟩ := hrel
    by_cases hlt : i < b
    · have hltz : (i : Int) < (b : Int) := by omega
      have HI0 : Hid (Ins k (fn d) (fn dk) a i i) := Ins.start H0.out HO.out.1 HO.out.2.1 hai hlt
      clear HO
      go_wp2
      go_loopg [9] i (fun g2 vj wr2 => ∃ (j : Nat) (dj : Array Int), vj = .int .i64 j ∧ a ≤ j ∧ j ≤ i ∧ j ≤ g2 ∧ Hid (Rw w0 blk off n ok dj wr2) ∧ Hid (Ins k (fn d) (fn dj) a i j))
      case atStart => exact ⟨i, dk, rfl, by omega, Nat.le_refl _, Nat.le_refl _, S1, HI0⟩
      case round =>
        clear S1 HI0
        obtain ⟨j, dj, rfl, haj, hji, hg2, SJ, HI⟩ := hrel
        by_cases hja : a < j
        · have hjaz : (a : Int) < (j : Int) := by omega
          obtain ⟨jp, hjp⟩ : ∃ q, q + 1 = j := ⟨j - 1, by omega⟩
          have zjp : (j : Int) = (jp : Int) + 1 := by omega
          have hjad : decide ((jp : Int) + 1 > (a : Int)) = true := decide_eq_true (by omega)
          have hjaz' : (a : Int) < (jp : Int) + 1 := by omega
          by_cases hlv : k (fn dj j) < k (fn dj (j - 1))
          · have HI2 : Hid (Ins k (fn d) (swapF (fn dj) j (j - 1)) a i (j - 1)) := HI.out.step hja hlv
            rw [← fn_swp dj (by rw [SJ.out.size]; omega) (by rw [SJ.out.size]; omega)] at HI2
            clear HI
            obtain ⟨iN, hiN⟩ : ∃ z9, z9 = j := ⟨_, rfl⟩
            obtain ⟨jN, hjN⟩ : ∃ z9, z9 = j - 1 := ⟨_, rfl⟩
            have ea : ((jp : Int) + 1).toNat = iN := by omega
            have pa : (0 : Int) ≤ (jp : Int) + 1 := by omega
            have ba : (jp : Int) + 1 < (n : Int) := by omega
            have ra : IntKind.i64.wrap ((jp : Int) + 1) = (jp : Int) + 1 := by rw [IntKind.wrap_i64]; omega
            have ec : ((jp : Int)).toNat = jN := by omega
            have pc : (0 : Int) ≤ (jp : Int) := by omega
            have bc : (jp : Int) < (n : Int) := by omega
            have rc : IntKind.i64.wrap ((jp : Int)) = (jp : Int) := by rw [IntKind.wrap_i64]; omega
            obtain ⟨x, hx⟩ : ∃ x, x = fn dj (j) := ⟨_, rfl⟩
            obtain ⟨y, hy⟩ : ∃ x, x = fn dj (j - 1) := ⟨_, rfl⟩
            have la := SJ.out.cl T.out (j) (by omega)
            have lb := SJ.out.cl T.out (j - 1) (by omega)
            rw [← hx, ← hiN] at la
            rw [← hy, ← hjN] at lb
            have hc := SJ.out.cmp T.out (j) (j - 1) (by omega) (by omega)
            rw [← hx, ← hy] at hc
            have hv : cf x y < 0 := by rw [hx, hy]; exact (T.out.neg _ _ (SJ.out.ok _ (by omega)) (SJ.out.ok _ (by omega))).2 hlv
            have hd : decide (cf x y < 0) = true := decide_eq_true hv
            clear hx hy hiN hjN
            go_wp2_with fail
            go_quiet_grown (first | (go_at_fn g; refine Calls.grown_of (hc _ _)))
            have S2 := Lib.hid (SJ.out.grown nq osq)
            clear la lb hc SJ
            generalize grow (wr.drewN nq) osq = w2 at S2 ⊢
            clear nq osq ea ec pa pc ba bc ra rc hv hd
            clear hlv
            go_wp2_with fail
            obtain ⟨iN, hiN⟩ : ∃ z9, z9 = j := ⟨_, rfl⟩
            obtain ⟨jN, hjN⟩ : ∃ z9, z9 = j - 1 := ⟨_, rfl⟩
            have ea : ((jp : Int) + 1).toNat = iN := by omega
            have pa : (0 : Int) ≤ (jp : Int) + 1 := by omega
            have ba : (jp : Int) + 1 < (n : Int) := by omega
            have ra : IntKind.i64.wrap ((jp : Int) + 1) = (jp : Int) + 1 := by rw [IntKind.wrap_i64]; omega
            have ec : ((jp : Int)).toNat = jN := by omega
            have pc : (0 : Int) ≤ (jp : Int) := by omega
            have bc : (jp : Int) < (n : Int) := by omega
            have rc : IntKind.i64.wrap ((jp : Int)) = (jp : Int) := by rw [IntKind.wrap_i64]; omega
            obtain ⟨x, hx⟩ : ∃ x, x = fn dj (j) := ⟨_, rfl⟩
            obtain ⟨y, hy⟩ : ∃ x, x = fn dj (j - 1) := ⟨_, rfl⟩
            have S3 : Hid (Rw w0 blk off n ok (swp dj (j) (j - 1)) ((w2.setCell ⟨blk, off + iN, none⟩ (.int .i64 y)).setCell ⟨blk, off + jN, none⟩ (.int .i64 x)).drew) := by rw [hiN, hjN, hx, hy]; exact S2.out.swapped T.out (j) (j - 1) (by omega) (by omega)
            have ca := S2.out.c T.out (j) (by omega)
            have cb := S2.out.c T.out (j - 1) (by omega)
            have fa := S2.out.f T.out (j) (by omega)
            have fb := S2.out.f T.out (j - 1) (by omega)
            obtain ⟨u, cc⟩ := S2.out.c2 T.out (j) (j - 1) (by omega) (by omega) (.int .i64 y)
            rw [← hjN, ← hiN] at cc
            rw [← hx, ← hiN] at ca
            rw [← hy, ← hjN] at cb
            rw [← hiN] at fa
            rw [← hjN] at fb
            clear S2 hx hy hiN hjN
            go_wp2_with fail
            go_big_region
            clear ca cb cc fa fb
            generalize ((w2.setCell ⟨blk, off + iN, none⟩ (.int .i64 y)).setCell ⟨blk, off + jN, none⟩ (.int .i64 x)).drew = w3 at S3 ⊢
            clear ea ec pa pc ba bc ra rc
            go_wp2
            go_roundg (j - 1)
            case measure => omega
            case rel => exact ⟨j - 1, swp dj j (j - 1), by first | rfl | go_num | (congr 1; omega), by omega, by omega, Nat.le_refl _, S3, HI2⟩
          · have HI2 : Hid (Srt k (fn dj) a (i + 1)) := HI.out.stop (.inr hlv)
            obtain ⟨iN, hiN⟩ : ∃ z9, z9 = j := ⟨_, rfl⟩
            obtain ⟨jN, hjN⟩ : ∃ z9, z9 = j - 1 := ⟨_, rfl⟩
            have ea : ((jp : Int) + 1).toNat = iN := by omega
            have pa : (0 : Int) ≤ (jp : Int) + 1 := by omega
            have ba : (jp : Int) + 1 < (n : Int) := by omega
            have ra : IntKind.i64.wrap ((jp : Int) + 1) = (jp : Int) + 1 := by rw [IntKind.wrap_i64]; omega
            have ec : ((jp : Int)).toNat = jN := by omega
            have pc : (0 : Int) ≤ (jp : Int) := by omega
            have bc : (jp : Int) < (n : Int) := by omega
            have rc : IntKind.i64.wrap ((jp : Int)) = (jp : Int) := by rw [IntKind.wrap_i64]; omega
            obtain ⟨x, hx⟩ : ∃ x, x = fn dj (j) := ⟨_, rfl⟩
            obtain ⟨y, hy⟩ : ∃ x, x = fn dj (j - 1) := ⟨_, rfl⟩
            have la := SJ.out.cl T.out (j) (by omega)
            have lb := SJ.out.cl T.out (j - 1) (by omega)
            rw [← hx, ← hiN] at la
            rw [← hy, ← hjN] at lb
            have hc := SJ.out.cmp T.out (j) (j - 1) (by omega) (by omega)
            rw [← hx, ← hy] at hc
            have hv : ¬ cf x y < 0 := by
              intro h9
              rw [hx, hy] at h9
              have h8 := (T.out.neg _ _ (SJ.out.ok _ (by omega)) (SJ.out.ok _ (by omega))).1 h9
              have h7 := hlv
              omega
            have hd : decide (cf x y < 0) = false := decide_eq_false hv
            clear hx hy hiN hjN
            go_wp2_with fail
            go_quiet_grown (first | (go_at_fn g; refine Calls.grown_of (hc _ _)))
            have S2 := Lib.hid (SJ.out.grown nq osq)
            clear la lb hc SJ
            generalize grow (wr.drewN nq) osq = w2 at S2 ⊢
            clear nq osq ea ec pa pc ba bc ra rc hv hd
            clear hlv
            go_wp2
            go_roundg (b - (i + 1))
            case measure => omega
            case rel => exact ⟨i + 1, dj, by go_num, by omega, by omega, by omega, S2, HI.out.mv, HI2.out, .inl (by omega)⟩
        · have hjaz : decide ((j : Int) > (a : Int)) = false := decide_eq_false (by omega)
          have hjaz' : ¬ (a : Int) < (j : Int) := by omega
          have HI2 : Hid (Srt k (fn dj) a (i + 1)) := HI.out.stop (.inl (by omega))
          go_wp2_with fail
          go_big_region
          have S2 : Hid (Rw w0 blk off n ok dj wr.drew) := SJ.out.drew
          clear SJ
          generalize wr.drew = w2 at S2 ⊢
          go_wp2
          go_roundg (b - (i + 1))
          case measure => omega
          case rel => exact ⟨i + 1, dj, by go_num, by omega, by omega, by omega, S2, HI.out.mv, HI2.out, .inl (by omega)⟩
    · have hltz : ¬ (i : Int) < (b : Int) := by omega
      go_wp2
      go_end0
      refine ⟨rfl, dk, ?_, fun p q h1 h2 h3 => HO.out.2.1 p q h1 h2 (by omega), S1.out⟩
      rcases HO.out.2.2 with e | e
      · have e : i = b := by omega
        exact e ▸ HO.out.1
      · rw [e]; exact Moved.refl _ _ _
end Go.Proofs.Ytblplkajgbbkdaa
