/-
  What slices.symMergeCmpFunc comes to, over this seat's translation: a contract for callers.
-/
import Derived.Test.YtblplkajgbbkdaaStb3
namespace Go.Proofs.Ytblplkajgbbkdaa
open Go.RowKit Go.Lib Go.Sort Go.Shelf Go.Proofs.Ytblplkajgbbkdaa.StableLaw

/-- Two runs were merged. -/
def SymPost (w0 : World) (blk off n : Nat) (k : Int → Int) (ok : Int → Prop) (d : Array Int) (a b : Nat) : Ending → World → Prop := fun e w' => e = .returned (.tuple #[]) ∧ ∃ d' : Array Int, Moved (fn d) (fn d') a b ∧ Srt k (fn d') a b ∧ Rw w0 blk off n ok d' w'
theorem Srt.out {k : Int → Int} {f g : Nat → Int} {a b : Nat} (h : Srt k f a b) (e : ∀ p, a ≤ p → p < b → g p = f p) : Srt k g a b := fun i j h1 h2 h3 => by rw [e i h1 (by omega), e j (by omega) h3]; exact h i j h1 h2 h3
theorem Crs.out {f g : Nat → Int} {a m b : Nat} (h : Crs f a m b) (e : ∀ p, a ≤ p → p < b → g p = f p) : Crs g a m b := fun i j h1 h2 h3 h4 => by rw [e i h1 (by omega), e j (by omega) h4]; exact h i j h1 h2 h3 h4
set_option maxHeartbeats 16000000 in
set_option maxRecDepth 1000000 in
theorem sym_a {w0 : World} {blk off n : Nat} {g : Nat} {cb : Array Value} {cf : Int → Int → Int} {k : Int → Int} {ok : Int → Prop} {d0 : Array Int} (T0 : Sett w0 blk off n g cb cf k ok d0) (cap a m b : Nat) (d : Array Int) (w : World) (h : Rw w0 blk off n ok d w) (h1 : a < m) (h2 : m < b) (h3 : b ≤ n) (hs1 : Srt k (fn d) a m) (hs2 : Srt k (fn d) m b) (hx : Crs (fn d) a m b) (hA : m = a + 1) :
    Calls Try.prog 97 #[.slice (some ⟨blk, off, none⟩) n cap, .int .i64 (a : Nat), .int .i64 (m : Nat), .int .i64 (b : Nat), .func (.func g) #[] cb] w (SymPost w0 blk off n k ok d a b) := by
  have eg := T0.enters
  have hn := T0.lt
  have mixed : Try.prog.follows .mixedOrders = true := by kernel_rfl
  have T := Lib.hid T0
  have HH := Lib.hid h
  have HS1 := Lib.hid hs1
  have HS2 := Lib.hid hs2
  have HX := Lib.hid hx
  clear T0 h hs1 hs2 hx
  have w1 : IntKind.i64.wrap ((m : Int) - (a : Int)) = 1 := by rw [IntKind.wrap_i64]; omega
  have HA := Lib.hid hA
  have hA1 : m ≤ a + 1 := by omega
  clear hA
  go_enter Try.func97, Try.ntmps97
  go_wp2_with fail
  go_loopg [10, 11] (b - m) (fun kx s t wr => ∃ (i j : Nat), s = .int .i64 i ∧ t = .int .i64 j ∧ m ≤ i ∧ i ≤ j ∧ j ≤ b ∧ j - i ≤ kx ∧ Hid (Rw w0 blk off n ok d wr) ∧ Hid ((∀ p, m ≤ p → p < i → L k (fn d p) (fn d a)) ∧ ∀ p, j ≤ p → p < b → L k (fn d a) (fn d p)))
  case atStart => exact ⟨m, b, rfl, rfl, Nat.le_refl _, by omega, Nat.le_refl _, Nat.le_refl _, HH, fun p _ _ => by omega, fun p _ _ => by omega⟩
  case round =>
    clear HH
    obtain ⟨i, j, rfl, rfl, hmi, hij, hjb, hkx, S1, HP⟩ := hrel
    by_cases hlt : i < j
    · have hltz : (i : Int) < (j : Int) := by omega
      obtain ⟨c, hc0⟩ : ∃ q, q = (i + j) / 2 := ⟨_, rfl⟩
      have hcz : ((i : Int) + (j : Int)) / 2 = (c : Int) := by omega
      have hci : i ≤ c := by omega
      have hcj : c < j := by omega
      clear hc0
      by_cases hlv : k (fn d c) < k (fn d a)
      · have HP2 : Hid ((∀ p, m ≤ p → p < c + 1 → L k (fn d p) (fn d a)) ∧ ∀ p, j ≤ p → p < b → L k (fn d a) (fn d p)) := by
          refine ⟨fun p q1 q2 => ?_, HP.out.2⟩
          by_cases e : p = c
          · rw [e]; exact .inl hlv
          · exact (HS2.out p c q1 (by omega) (by omega)).trans (.inl hlv)
        have HLV := Lib.hid hlv
        clear HP hlv
        go_wp2_with fail
        obtain ⟨iN, hiN⟩ : ∃ z9, z9 = c := ⟨_, rfl⟩
        obtain ⟨jN, hjN⟩ : ∃ z9, z9 = a := ⟨_, rfl⟩
        have ea : ((c : Int)).toNat = iN := by omega
        have pa : (0 : Int) ≤ (c : Int) := by omega
        have ba : (c : Int) < (n : Int) := by omega
        have ra : IntKind.i64.wrap ((c : Int)) = (c : Int) := by rw [IntKind.wrap_i64]; omega
        have ec : ((a : Int)).toNat = jN := by omega
        have pc : (0 : Int) ≤ (a : Int) := by omega
        have bc : (a : Int) < (n : Int) := by omega
        have rc : IntKind.i64.wrap ((a : Int)) = (a : Int) := by rw [IntKind.wrap_i64]; omega
        obtain ⟨x, hx⟩ : ∃ x, x = fn d (c) := ⟨_, rfl⟩
        obtain ⟨y, hy⟩ : ∃ x, x = fn d (a) := ⟨_, rfl⟩
        have la := S1.out.cl T.out (c) (by omega)
        have lb := S1.out.cl T.out (a) (by omega)
        rw [← hx, ← hiN] at la
        rw [← hy, ← hjN] at lb
        have hc := S1.out.cmp T.out (c) (a) (by omega) (by omega)
        rw [← hx, ← hy] at hc
        have hv : cf x y < 0 := by rw [hx, hy]; exact (T.out.neg _ _ (S1.out.ok _ (by omega)) (S1.out.ok _ (by omega))).2 HLV.out
        have hd : decide (cf x y < 0) = true := decide_eq_true hv
        clear hx hy hiN hjN
        go_wp2_with fail
        go_quiet_grown (first | (go_at_fn g; refine Calls.grown_of (hc _ _)))
        have S2 := Lib.hid (S1.out.grown nq osq)
        clear la lb hc S1
        generalize grow (wr.drewN nq) osq = w2 at S2 ⊢
        clear nq osq ea ec pa pc ba bc ra rc hv hd
        go_wp2
        go_roundg (j - (c + 1))
        case measure => omega
        case rel => exact ⟨c + 1, j, by go_num, rfl, by omega, by omega, hjb, Nat.le_refl _, S2, HP2⟩
      · have HP2 : Hid ((∀ p, m ≤ p → p < i → L k (fn d p) (fn d a)) ∧ ∀ p, c ≤ p → p < b → L k (fn d a) (fn d p)) := by
          refine ⟨HP.out.1, fun p q1 q2 => ?_⟩
          have hl : L k (fn d a) (fn d c) := L.of_le hlv (HX.out a c (Nat.le_refl _) (by omega) (by omega) (by omega))
          by_cases e : p = c
          · rw [e]; exact hl
          · exact hl.trans (HS2.out c p (by omega) (by omega) q2)
        have HLV := Lib.hid hlv
        clear HP hlv
        go_wp2_with fail
        obtain ⟨iN, hiN⟩ : ∃ z9, z9 = c := ⟨_, rfl⟩
        obtain ⟨jN, hjN⟩ : ∃ z9, z9 = a := ⟨_, rfl⟩
        have ea : ((c : Int)).toNat = iN := by omega
        have pa : (0 : Int) ≤ (c : Int) := by omega
        have ba : (c : Int) < (n : Int) := by omega
        have ra : IntKind.i64.wrap ((c : Int)) = (c : Int) := by rw [IntKind.wrap_i64]; omega
        have ec : ((a : Int)).toNat = jN := by omega
        have pc : (0 : Int) ≤ (a : Int) := by omega
        have bc : (a : Int) < (n : Int) := by omega
        have rc : IntKind.i64.wrap ((a : Int)) = (a : Int) := by rw [IntKind.wrap_i64]; omega
        obtain ⟨x, hx⟩ : ∃ x, x = fn d (c) := ⟨_, rfl⟩
        obtain ⟨y, hy⟩ : ∃ x, x = fn d (a) := ⟨_, rfl⟩
        have la := S1.out.cl T.out (c) (by omega)
        have lb := S1.out.cl T.out (a) (by omega)
        rw [← hx, ← hiN] at la
        rw [← hy, ← hjN] at lb
        have hc := S1.out.cmp T.out (c) (a) (by omega) (by omega)
        rw [← hx, ← hy] at hc
        have hv : ¬ cf x y < 0 := by
          intro h9
          rw [hx, hy] at h9
          have h8 := (T.out.neg _ _ (S1.out.ok _ (by omega)) (S1.out.ok _ (by omega))).1 h9
          have h7 := HLV.out
          omega
        have hd : decide (cf x y < 0) = false := decide_eq_false hv
        clear hx hy hiN hjN
        go_wp2_with fail
        go_quiet_grown (first | (go_at_fn g; refine Calls.grown_of (hc _ _)))
        have S2 := Lib.hid (S1.out.grown nq osq)
        clear la lb hc S1
        generalize grow (wr.drewN nq) osq = w2 at S2 ⊢
        clear nq osq ea ec pa pc ba bc ra rc hv hd
        go_wp2
        go_roundg (c - i)
        case measure => omega
        case rel => exact ⟨i, c, rfl, rfl, hmi, by omega, by omega, Nat.le_refl _, S2, HP2⟩
    · have hltz : ¬ (i : Int) < (j : Int) := by omega
      have e : i = j := by omega
      subst e
      have HL := Lib.hid (one_up (k := k) (f := fn d) (a := a) (b := b) (i := i) (HA.out ▸ HS2.out) (by omega) (by omega) (fun p q1 q2 => HP.out.1 p (by omega) q2) (fun p q1 q2 => HP.out.2 p q1 q2))
      have wi : IntKind.i64.wrap ((i : Int) - 1) = (i : Int) - 1 := by rw [IntKind.wrap_i64]; omega
      clear HP
      go_wp2_with fail
      go_loopg [13] i (fun kx s wr => ∃ (q : Nat) (dk : Array Int), s = .int .i64 q ∧ a ≤ q ∧ q + 1 ≤ i ∧ i - q ≤ kx ∧ Hid (Rw w0 blk off n ok dk wr) ∧ Hid (fn dk = rot (fn d) a (a + 1) (q + 1)))
      case atStart => exact ⟨a, d, rfl, Nat.le_refl _, by omega, by omega, S1, (rot_none (fn d) (a := a) (m := a + 1) (b := a + 1) (.inr rfl)).symm⟩
      case round =>
        clear S1
        obtain ⟨q, dk, rfl, haq, hqi, hkx, S1, HF⟩ := hrel
        by_cases hlt : q + 1 < i
        · have hltz : (q : Int) < (i : Int) - 1 := by omega
          have HF2 : Hid (fn (swp dk q (q + 1)) = rot (fn d) a (a + 1) (q + 1 + 1)) := by
            show _ = _
            rw [fn_swp dk (by rw [S1.out.size]; omega) (by rw [S1.out.size]; omega), HF.out]
            exact rot_up (fn d) (i := q + 1) (by omega)
          clear HF
          go_wp2_with fail
          obtain ⟨iN, hiN⟩ : ∃ z9, z9 = q := ⟨_, rfl⟩
          obtain ⟨jN, hjN⟩ : ∃ z9, z9 = q + 1 := ⟨_, rfl⟩
          have ea : ((q : Int)).toNat = iN := by omega
          have pa : (0 : Int) ≤ (q : Int) := by omega
          have ba : (q : Int) < (n : Int) := by omega
          have ra : IntKind.i64.wrap ((q : Int)) = (q : Int) := by rw [IntKind.wrap_i64]; omega
          have ec : ((q : Int) + 1).toNat = jN := by omega
          have pc : (0 : Int) ≤ (q : Int) + 1 := by omega
          have bc : (q : Int) + 1 < (n : Int) := by omega
          have rc : IntKind.i64.wrap ((q : Int) + 1) = (q : Int) + 1 := by rw [IntKind.wrap_i64]; omega
          obtain ⟨x, hx⟩ : ∃ x, x = fn dk (q) := ⟨_, rfl⟩
          obtain ⟨y, hy⟩ : ∃ x, x = fn dk (q + 1) := ⟨_, rfl⟩
          have S3 : Hid (Rw w0 blk off n ok (swp dk (q) (q + 1)) ((wr.setCell ⟨blk, off + iN, none⟩ (.int .i64 y)).setCell ⟨blk, off + jN, none⟩ (.int .i64 x)).drew) := by rw [hiN, hjN, hx, hy]; exact S1.out.swapped T.out (q) (q + 1) (by omega) (by omega)
          have ca := S1.out.c T.out (q) (by omega)
          have cb := S1.out.c T.out (q + 1) (by omega)
          have fa := S1.out.f T.out (q) (by omega)
          have fb := S1.out.f T.out (q + 1) (by omega)
          obtain ⟨u, cc⟩ := S1.out.c2 T.out (q) (q + 1) (by omega) (by omega) (.int .i64 y)
          rw [← hjN, ← hiN] at cc
          rw [← hx, ← hiN] at ca
          rw [← hy, ← hjN] at cb
          rw [← hiN] at fa
          rw [← hjN] at fb
          clear S1 hx hy hiN hjN
          go_wp2_with fail
          go_big_region
          clear ca cb cc fa fb
          generalize ((wr.setCell ⟨blk, off + iN, none⟩ (.int .i64 y)).setCell ⟨blk, off + jN, none⟩ (.int .i64 x)).drew = w3 at S3 ⊢
          clear ea ec pa pc ba bc ra rc
          go_wp2
          go_roundg (i - (q + 1))
          case measure => omega
          case rel => exact ⟨q + 1, swp dk q (q + 1), by go_num, by omega, by omega, Nat.le_refl _, S3, HF2⟩
        · have hltz : ¬ (q : Int) < (i : Int) - 1 := by omega
          have e : q + 1 = i := by omega
          go_wp2_with fail
          go_end0
          refine ⟨rfl, dk, ?_, ?_, S1.out⟩
          · rw [HF.out, e]; exact HL.out.2
          · rw [HF.out, e]; exact HL.out.1
set_option maxHeartbeats 16000000 in
set_option maxRecDepth 1000000 in
theorem sym_b {w0 : World} {blk off n : Nat} {g : Nat} {cb : Array Value} {cf : Int → Int → Int} {k : Int → Int} {ok : Int → Prop} {d0 : Array Int} (T0 : Sett w0 blk off n g cb cf k ok d0) (cap a m b : Nat) (d : Array Int) (w : World) (h : Rw w0 blk off n ok d w) (h1 : a < m) (h2 : m < b) (h3 : b ≤ n) (hs1 : Srt k (fn d) a m) (hs2 : Srt k (fn d) m b) (hx : Crs (fn d) a m b) (hA : m ≠ a + 1) (hB : b = m + 1) :
    Calls Try.prog 97 #[.slice (some ⟨blk, off, none⟩) n cap, .int .i64 (a : Nat), .int .i64 (m : Nat), .int .i64 (b : Nat), .func (.func g) #[] cb] w (SymPost w0 blk off n k ok d a b) := by
  have eg := T0.enters
  have hn := T0.lt
  have mixed : Try.prog.follows .mixedOrders = true := by kernel_rfl
  have T := Lib.hid T0
  have HH := Lib.hid h
  have HS1 := Lib.hid hs1
  have HS2 := Lib.hid hs2
  have HX := Lib.hid hx
  clear T0 h hs1 hs2 hx
  have w1 : IntKind.i64.wrap ((m : Int) - (a : Int)) = (m : Int) - (a : Int) := by rw [IntKind.wrap_i64]; omega
  have n1 : ((m : Int) - (a : Int) == 1) = false := by rw [beq_eq_false_iff_ne]; omega
  have w2 : IntKind.i64.wrap ((b : Int) - (m : Int)) = 1 := by rw [IntKind.wrap_i64]; omega
  have HB := Lib.hid hB
  have hB1 : b ≤ m + 1 := by omega
  clear hB
  go_enter Try.func97, Try.ntmps97
  go_wp2_with fail
  go_loopg [14, 15] (m - a) (fun kx s t wr => ∃ (i j : Nat), s = .int .i64 i ∧ t = .int .i64 j ∧ a ≤ i ∧ i ≤ j ∧ j ≤ m ∧ j - i ≤ kx ∧ Hid (Rw w0 blk off n ok d wr) ∧ Hid ((∀ p, a ≤ p → p < i → L k (fn d p) (fn d m)) ∧ ∀ p, j ≤ p → p < m → L k (fn d m) (fn d p)))
  case atStart => exact ⟨a, m, rfl, rfl, Nat.le_refl _, by omega, Nat.le_refl _, Nat.le_refl _, HH, fun p _ _ => by omega, fun p _ _ => by omega⟩
  case round =>
    clear HH
    obtain ⟨i, j, rfl, rfl, hai, hij, hjm, hkx, S1, HP⟩ := hrel
    by_cases hlt : i < j
    · have hltz : (i : Int) < (j : Int) := by omega
      obtain ⟨c, hc0⟩ : ∃ q, q = (i + j) / 2 := ⟨_, rfl⟩
      have hcz : ((i : Int) + (j : Int)) / 2 = (c : Int) := by omega
      have hci : i ≤ c := by omega
      have hcj : c < j := by omega
      clear hc0
      by_cases hlv : k (fn d m) < k (fn d c)
      · have HP2 : Hid ((∀ p, a ≤ p → p < i → L k (fn d p) (fn d m)) ∧ ∀ p, c ≤ p → p < m → L k (fn d m) (fn d p)) := by
          refine ⟨HP.out.1, fun p q1 q2 => ?_⟩
          by_cases e : p = c
          · rw [e]; exact .inl hlv
          · exact L.trans (.inl hlv) (HS1.out c p (by omega) (by omega) q2)
        have HLV := Lib.hid hlv
        clear HP hlv
        go_wp2_with fail
        obtain ⟨iN, hiN⟩ : ∃ z9, z9 = m := ⟨_, rfl⟩
        obtain ⟨jN, hjN⟩ : ∃ z9, z9 = c := ⟨_, rfl⟩
        have ea : ((m : Int)).toNat = iN := by omega
        have pa : (0 : Int) ≤ (m : Int) := by omega
        have ba : (m : Int) < (n : Int) := by omega
        have ra : IntKind.i64.wrap ((m : Int)) = (m : Int) := by rw [IntKind.wrap_i64]; omega
        have ec : ((c : Int)).toNat = jN := by omega
        have pc : (0 : Int) ≤ (c : Int) := by omega
        have bc : (c : Int) < (n : Int) := by omega
        have rc : IntKind.i64.wrap ((c : Int)) = (c : Int) := by rw [IntKind.wrap_i64]; omega
        obtain ⟨x, hx⟩ : ∃ x, x = fn d (m) := ⟨_, rfl⟩
        obtain ⟨y, hy⟩ : ∃ x, x = fn d (c) := ⟨_, rfl⟩
        have la := S1.out.cl T.out (m) (by omega)
        have lb := S1.out.cl T.out (c) (by omega)
        rw [← hx, ← hiN] at la
        rw [← hy, ← hjN] at lb
        have hc := S1.out.cmp T.out (m) (c) (by omega) (by omega)
        rw [← hx, ← hy] at hc
        have hv : cf x y < 0 := by rw [hx, hy]; exact (T.out.neg _ _ (S1.out.ok _ (by omega)) (S1.out.ok _ (by omega))).2 HLV.out
        have hd : decide (cf x y < 0) = true := decide_eq_true hv
        clear hx hy hiN hjN
        go_wp2_with fail
        go_quiet_grown (first | (go_at_fn g; refine Calls.grown_of (hc _ _)))
        have S2 := Lib.hid (S1.out.grown nq osq)
        clear la lb hc S1
        generalize grow (wr.drewN nq) osq = w2 at S2 ⊢
        clear nq osq ea ec pa pc ba bc ra rc hv hd
        go_wp2
        go_roundg (c - i)
        case measure => omega
        case rel => exact ⟨i, c, rfl, rfl, hai, by omega, by omega, Nat.le_refl _, S2, HP2⟩
      · have HP2 : Hid ((∀ p, a ≤ p → p < c + 1 → L k (fn d p) (fn d m)) ∧ ∀ p, j ≤ p → p < m → L k (fn d m) (fn d p)) := by
          refine ⟨fun p q1 q2 => ?_, HP.out.2⟩
          have hl : L k (fn d c) (fn d m) := L.of_le hlv (HX.out c m (by omega) (by omega) (Nat.le_refl _) (by omega))
          by_cases e : p = c
          · rw [e]; exact hl
          · exact (HS1.out p c q1 (by omega) (by omega)).trans hl
        have HLV := Lib.hid hlv
        clear HP hlv
        go_wp2_with fail
        obtain ⟨iN, hiN⟩ : ∃ z9, z9 = m := ⟨_, rfl⟩
        obtain ⟨jN, hjN⟩ : ∃ z9, z9 = c := ⟨_, rfl⟩
        have ea : ((m : Int)).toNat = iN := by omega
        have pa : (0 : Int) ≤ (m : Int) := by omega
        have ba : (m : Int) < (n : Int) := by omega
        have ra : IntKind.i64.wrap ((m : Int)) = (m : Int) := by rw [IntKind.wrap_i64]; omega
        have ec : ((c : Int)).toNat = jN := by omega
        have pc : (0 : Int) ≤ (c : Int) := by omega
        have bc : (c : Int) < (n : Int) := by omega
        have rc : IntKind.i64.wrap ((c : Int)) = (c : Int) := by rw [IntKind.wrap_i64]; omega
        obtain ⟨x, hx⟩ : ∃ x, x = fn d (m) := ⟨_, rfl⟩
        obtain ⟨y, hy⟩ : ∃ x, x = fn d (c) := ⟨_, rfl⟩
        have la := S1.out.cl T.out (m) (by omega)
        have lb := S1.out.cl T.out (c) (by omega)
        rw [← hx, ← hiN] at la
        rw [← hy, ← hjN] at lb
        have hc := S1.out.cmp T.out (m) (c) (by omega) (by omega)
        rw [← hx, ← hy] at hc
        have hv : ¬ cf x y < 0 := by
          intro h9
          rw [hx, hy] at h9
          have h8 := (T.out.neg _ _ (S1.out.ok _ (by omega)) (S1.out.ok _ (by omega))).1 h9
          have h7 := HLV.out
          omega
        have hd : decide (cf x y < 0) = false := decide_eq_false hv
        clear hx hy hiN hjN
        go_wp2_with fail
        go_quiet_grown (first | (go_at_fn g; refine Calls.grown_of (hc _ _)))
        have S2 := Lib.hid (S1.out.grown nq osq)
        clear la lb hc S1
        generalize grow (wr.drewN nq) osq = w2 at S2 ⊢
        clear nq osq ea ec pa pc ba bc ra rc hv hd
        go_wp2
        go_roundg (j - (c + 1))
        case measure => omega
        case rel => exact ⟨c + 1, j, by go_num, rfl, by omega, by omega, hjm, Nat.le_refl _, S2, HP2⟩
    · have hltz : ¬ (i : Int) < (j : Int) := by omega
      have e : i = j := by omega
      subst e
      have HL := Lib.hid (one_down (k := k) (f := fn d) (a := a) (m := m) (i := i) HS1.out hai (by omega) HP.out.1 HP.out.2)
      clear HP
      go_wp2_with fail
      go_loopg [17] m (fun kx s wr => ∃ (q : Nat) (dk : Array Int), s = .int .i64 q ∧ i ≤ q ∧ q ≤ m ∧ q ≤ kx ∧ Hid (Rw w0 blk off n ok dk wr) ∧ Hid (fn dk = rot (fn d) q m (m + 1)))
      case atStart => exact ⟨m, d, rfl, by omega, Nat.le_refl _, Nat.le_refl _, S1, (rot_none (fn d) (a := m) (m := m) (b := m + 1) (.inl rfl)).symm⟩
      case round =>
        clear S1
        obtain ⟨q, dk, rfl, hiq, hqm, hkx, S1, HF⟩ := hrel
        by_cases hlt : i < q
        · have hltz : (i : Int) < (q : Int) := by omega
          obtain ⟨jp, hjp⟩ : ∃ t, t + 1 = q := ⟨q - 1, by omega⟩
          have zjp : (q : Int) = (jp : Int) + 1 := by omega
          have hltz' : (i : Int) < (jp : Int) + 1 := by omega
          have HF2 : Hid (fn (swp dk q (q - 1)) = rot (fn d) (q - 1) m (m + 1)) := by
            show _ = _
            rw [fn_swp dk (by rw [S1.out.size]; omega) (by rw [S1.out.size]; omega), HF.out, ← hjp]
            exact rot_down (fn d) (i := jp) (by omega)
          clear HF
          go_wp2_with fail
          obtain ⟨iN, hiN⟩ : ∃ z9, z9 = q := ⟨_, rfl⟩
          obtain ⟨jN, hjN⟩ : ∃ z9, z9 = q - 1 := ⟨_, rfl⟩
          have ea : ((jp : Int) + 1).toNat = iN := by omega
          have pa : (0 : Int) ≤ (jp : Int) + 1 := by omega
          have ba : (jp : Int) + 1 < (n : Int) := by omega
          have ra : IntKind.i64.wrap ((jp : Int) + 1) = (jp : Int) + 1 := by rw [IntKind.wrap_i64]; omega
          have ec : ((jp : Int)).toNat = jN := by omega
          have pc : (0 : Int) ≤ (jp : Int) := by omega
          have bc : (jp : Int) < (n : Int) := by omega
          have rc : IntKind.i64.wrap ((jp : Int)) = (jp : Int) := by rw [IntKind.wrap_i64]; omega
          obtain ⟨x, hx⟩ : ∃ x, x = fn dk (q) := ⟨_, rfl⟩
          obtain ⟨y, hy⟩ : ∃ x, x = fn dk (q - 1) := ⟨_, rfl⟩
          have S3 : Hid (Rw w0 blk off n ok (swp dk (q) (q - 1)) ((wr.setCell ⟨blk, off + iN, none⟩ (.int .i64 y)).setCell ⟨blk, off + jN, none⟩ (.int .i64 x)).drew) := by rw [hiN, hjN, hx, hy]; exact S1.out.swapped T.out (q) (q - 1) (by omega) (by omega)
          have ca := S1.out.c T.out (q) (by omega)
          have cb := S1.out.c T.out (q - 1) (by omega)
          have fa := S1.out.f T.out (q) (by omega)
          have fb := S1.out.f T.out (q - 1) (by omega)
          obtain ⟨u, cc⟩ := S1.out.c2 T.out (q) (q - 1) (by omega) (by omega) (.int .i64 y)
          rw [← hjN, ← hiN] at cc
          rw [← hx, ← hiN] at ca
          rw [← hy, ← hjN] at cb
          rw [← hiN] at fa
          rw [← hjN] at fb
          clear S1 hx hy hiN hjN
          go_wp2_with fail
          go_big_region
          clear ca cb cc fa fb
          generalize ((wr.setCell ⟨blk, off + iN, none⟩ (.int .i64 y)).setCell ⟨blk, off + jN, none⟩ (.int .i64 x)).drew = w3 at S3 ⊢
          clear ea ec pa pc ba bc ra rc
          go_wp2
          go_roundg (q - 1)
          case measure => omega
          case rel => exact ⟨q - 1, swp dk q (q - 1), by first | rfl | go_num | (congr 1; omega), by omega, by omega, Nat.le_refl _, S3, HF2⟩
        · have hltz : ¬ (i : Int) < (q : Int) := by omega
          have e : q = i := by omega
          go_wp2_with fail
          go_end0
          refine ⟨rfl, dk, ?_, ?_, S1.out⟩
          · rw [HF.out, e, HB.out]; exact HL.out.2
          · rw [HF.out, e, HB.out]; exact HL.out.1
end Go.Proofs.Ytblplkajgbbkdaa
