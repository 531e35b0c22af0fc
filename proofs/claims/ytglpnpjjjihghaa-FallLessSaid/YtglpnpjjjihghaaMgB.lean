/-
  Several texts in one: Stb4, Stb5, Stb6, Stb7.
-/
import Derived.Test.YtglpnpjjjihghaaMgA
/-
  What slices.symMergeCmpFunc comes to, over this seat's translation: a contract for callers.
-/
namespace Go.Proofs.Ytglpnpjjjihghaa
open Go.RowKit Go.Lib Go.Sort Go.Shelf Go.Proofs.Ytglpnpjjjihghaa.StableLaw

/-- Two runs were merged. -/
def SymPost (w0 : World) (blk off n : Nat) (k : Int → Int) (ok : Int → Prop) (d : Array Int) (a b : Nat) : Ending → World → Prop := fun e w' => e = .returned (.tuple #[]) ∧ ∃ d' : Array Int, Moved (fn d) (fn d') a b ∧ Srt k (fn d') a b ∧ Rw w0 blk off n ok d' w'
theorem Srt.out {k : Int → Int} {f g : Nat → Int} {a b : Nat} (h : Srt k f a b) (e : ∀ p, a ≤ p → p < b → g p = f p) : Srt k g a b := fun i j h1 h2 h3 => by rw [e i h1 (by omega), e j (by omega) h3]; exact h i j h1 h2 h3
theorem Crs.out {f g : Nat → Int} {a m b : Nat} (h : Crs f a m b) (e : ∀ p, a ≤ p → p < b → g p = f p) : Crs g a m b := fun i j h1 h2 h3 h4 => by rw [e i h1 (by omega), e j (by omega) h4]; exact h i j h1 h2 h3 h4
set_option maxHeartbeats 16000000 in
set_option maxRecDepth 1000000 in
theorem sym_a {w0 : World} {blk off n : Nat} {g : Nat} {cb : Array Value} {cf : Int → Int → Int} {k : Int → Int} {ok : Int → Prop} {d0 : Array Int} (T0 : Sett w0 blk off n g cb cf k ok d0) (cap a m b : Nat) (d : Array Int) (w : World) (h : Rw w0 blk off n ok d w) (h1 : a < m) (h2 : m < b) (h3 : b ≤ n) (hs1 : Srt k (fn d) a m) (hs2 : Srt k (fn d) m b) (hx : Crs (fn d) a m b) (hA : m = a + 1) :
    Calls Try.prog 136 #[.slice (some ⟨blk, off, none⟩) n cap, .int .i64 (a : Nat), .int .i64 (m : Nat), .int .i64 (b : Nat), .func (.func g) #[] cb] w (SymPost w0 blk off n k ok d a b) := by
  have eg := T0.enters
  have hn := T0.lt
  have mixed : Try.prog.follows .mixedOrders = true := by kernel_rfl
  have T := Lib.hid T0
  have HH := Lib.hid h
  have HS1 := Lib.hid hs1
  have HS2 := Lib.hid hs2
  have HX := Lib.hid hx
  clear T0 h hs1 hs2 hx
  have w1 : IntKind.i64.wrap ((m : Int) - (a : Int)) = 1 := by rw [IntKind.wrap_i64]; omega
  have HA := Lib.hid hA
  have hA1 : m ≤ a + 1 := by omega
  clear hA
  go_enter Try.func136, Try.ntmps136
  go_wp2_with fail
  go_loopg [10, 11] (b - m) (fun kx s t wr => ∃ (i j : Nat), s = .int .i64 i ∧ t = .int .i64 j ∧ m ≤ i ∧ i ≤ j ∧ j ≤ b ∧ j - i ≤ kx ∧ Hid (Rw w0 blk off n ok d wr) ∧ Hid ((∀ p, m ≤ p → p < i → L k (fn d p) (fn d a)) ∧ ∀ p, j ≤ p → p < b → L k (fn d a) (fn d p)))
  case atStart => exact ⟨m, b, rfl, rfl, Nat.le_refl _, by omega, Nat.le_refl _, Nat.le_refl _, HH, fun p _ _ => by omega, fun p _ _ => by omega⟩
  case round =>
    clear HH
    obtain ⟨i, j, rfl, rfl, hmi, hij, hjb, hkx, S1, HP⟩ := hrel
    by_cases hlt : i < j
    · have hltz : (i : Int) < (j : Int) := by omega
      obtain ⟨c, hc0⟩ : ∃ q, q = (i + j) / 2 := ⟨_, rfl⟩
      have hcz : ((i : Int) + (j : Int)) / 2 = (c : Int) := by omega
      have hci : i ≤ c := by omega
      have hcj : c < j := by omega
      clear hc0
      by_cases hlv : k (fn d c) < k (fn d a)
      · have HP2 : Hid ((∀ p, m ≤ p → p < c + 1 → L k (fn d p) (fn d a)) ∧ ∀ p, j ≤ p → p < b → L k (fn d a) (fn d p)) := by
          refine ⟨fun p q1 q2 => ?_, HP.out.2⟩
          by_cases e : p = c
          · rw [e]; exact .inl hlv
          · exact (HS2.out p c q1 (by omega) (by omega)).trans (.inl hlv)
        have HLV := Lib.hid hlv
        clear HP hlv
        go_wp2_with fail
        obtain ⟨iN, hiN⟩ : ∃ z9, z9 = c := ⟨_, rfl⟩
        obtain ⟨jN, hjN⟩ : ∃ z9, z9 = a := ⟨_, rfl⟩
        have ea : ((c : Int)).toNat = iN := by omega
        have pa : (0 : Int) ≤ (c : Int) := by omega
        have ba : (c : Int) < (n : Int) := by omega
        have ra : IntKind.i64.wrap ((c : Int)) = (c : Int) := by rw [IntKind.wrap_i64]; omega
        have ec : ((a : Int)).toNat = jN := by omega
        have pc : (0 : Int) ≤ (a : Int) := by omega
        have bc : (a : Int) < (n : Int) := by omega
        have rc : IntKind.i64.wrap ((a : Int)) = (a : Int) := by rw [IntKind.wrap_i64]; omega
        obtain ⟨x, hx⟩ : ∃ x, x = fn d (c) := ⟨_, rfl⟩
        obtain ⟨y, hy⟩ : ∃ x, x = fn d (a) := ⟨_, rfl⟩
        have la := S1.out.cl T.out (c) (by omega)
        have lb := S1.out.cl T.out (a) (by omega)
        rw [← hx, ← hiN] at la
        rw [← hy, ← hjN] at lb
        have hc := S1.out.cmp T.out (c) (a) (by omega) (by omega)
        rw [← hx, ← hy] at hc
        have hv : cf x y < 0 := by rw [hx, hy]; exact (T.out.neg _ _ (S1.out.ok _ (by omega)) (S1.out.ok _ (by omega))).2 HLV.out
        have hd : decide (cf x y < 0) = true := decide_eq_true hv
        clear hx hy hiN hjN
        go_wp2_with fail
        go_quiet_grown (first | (go_at_fn g; refine Calls.grown_of (hc _ _)))
        have S2 := Lib.hid (S1.out.grown nq osq)
        clear la lb hc S1
        generalize grow (wr.drewN nq) osq = w2 at S2 ⊢
        clear nq osq ea ec pa pc ba bc ra rc hv hd
        go_wp2
        go_roundg (j - (c + 1))
        case measure => omega
        case rel => exact ⟨c + 1, j, by go_num, rfl, by omega, by omega, hjb, Nat.le_refl _, S2, HP2⟩
      · have HP2 : Hid ((∀ p, m ≤ p → p < i → L k (fn d p) (fn d a)) ∧ ∀ p, c ≤ p → p < b → L k (fn d a) (fn d p)) := by
          refine ⟨HP.out.1, fun p q1 q2 => ?_⟩
          have hl : L k (fn d a) (fn d c) := L.of_le hlv (HX.out a c (Nat.le_refl _) (by omega) (by omega) (by omega))
          by_cases e : p = c
          · rw [e]; exact hl
          · exact hl.trans (HS2.out c p (by omega) (by omega) q2)
        have HLV := Lib.hid hlv
        clear HP hlv
        go_wp2_with fail
        obtain ⟨iN, hiN⟩ : ∃ z9, z9 = c := ⟨_, rfl⟩
        obtain ⟨jN, hjN⟩ : ∃ z9, z9 = a := ⟨_, rfl⟩
        have ea : ((c : Int)).toNat = iN := by omega
        have pa : (0 : Int) ≤ (c : Int) := by omega
        have ba : (c : Int) < (n : Int) := by omega
        have ra : IntKind.i64.wrap ((c : Int)) = (c : Int) := by rw [IntKind.wrap_i64]; omega
        have ec : ((a : Int)).toNat = jN := by omega
        have pc : (0 : Int) ≤ (a : Int) := by omega
        have bc : (a : Int) < (n : Int) := by omega
        have rc : IntKind.i64.wrap ((a : Int)) = (a : Int) := by rw [IntKind.wrap_i64]; omega
        obtain ⟨x, hx⟩ : ∃ x, x = fn d (c) := ⟨_, rfl⟩
        obtain ⟨y, hy⟩ : ∃ x, x = fn d (a) := ⟨_, rfl⟩
        have la := S1.out.cl T.out (c) (by omega)
        have lb := S1.out.cl T.out (a) (by omega)
        rw [← hx, ← hiN] at la
        rw [← hy, ← hjN] at lb
        have hc := S1.out.cmp T.out (c) (a) (by omega) (by omega)
        rw [← hx, ← hy] at hc
        have hv : ¬ cf x y < 0 := by
          intro h9
          rw [hx, hy] at h9
          have h8 := (T.out.neg _ _ (S1.out.ok _ (by omega)) (S1.out.ok _ (by omega))).1 h9
          have h7 := HLV.out
          omega
        have hd : decide (cf x y < 0) = false := decide_eq_false hv
        clear hx hy hiN hjN
        go_wp2_with fail
        go_quiet_grown (first | (go_at_fn g; refine Calls.grown_of (hc _ _)))
        have S2 := Lib.hid (S1.out.grown nq osq)
        clear la lb hc S1
        generalize grow (wr.drewN nq) osq = w2 at S2 ⊢
        clear nq osq ea ec pa pc ba bc ra rc hv hd
        go_wp2
        go_roundg (c - i)
        case measure => omega
        case rel => exact ⟨i, c, rfl, rfl, hmi, by omega, by omega, Nat.le_refl _, S2, HP2⟩
    · have hltz : ¬ (i : Int) < (j : Int) := by omega
      have e : i = j := by omega
      subst e
      have HL := Lib.hid (one_up (k := k) (f := fn d) (a := a) (b := b) (i := i) (HA.out ▸ HS2.out) (by omega) (by omega) (fun p q1 q2 => HP.out.1 p (by omega) q2) (fun p q1 q2 => HP.out.2 p q1 q2))
      have wi : IntKind.i64.wrap ((i : Int) - 1) = (i : Int) - 1 := by rw [IntKind.wrap_i64]; omega
      clear HP
      go_wp2_with fail
      go_loopg [13] i (fun kx s wr => ∃ (q : Nat) (dk : Array Int), s = .int .i64 q ∧ a ≤ q ∧ q + 1 ≤ i ∧ i - q ≤ kx ∧ Hid (Rw w0 blk off n ok dk wr) ∧ Hid (fn dk = rot (fn d) a (a + 1) (q + 1)))
      case atStart => exact ⟨a, d, rfl, Nat.le_refl _, by omega, by omega, S1, (rot_none (fn d) (a := a) (m := a + 1) (b := a + 1) (.inr rfl)).symm⟩
      case round =>
        clear S1
        obtain ⟨q, dk, rfl, haq, hqi, hkx, S1, HF⟩ := hrel
        by_cases hlt : q + 1 < i
        · have hltz : (q : Int) < (i : Int) - 1 := by omega
          have HF2 : Hid (fn (swp dk q (q + 1)) = rot (fn d) a (a + 1) (q + 1 + 1)) := by
            show _ = _
            rw [fn_swp dk (by rw [S1.out.size]; omega) (by rw [S1.out.size]; omega), HF.out]
            exact rot_up (fn d) (i := q + 1) (by omega)
          clear HF
          go_wp2_with fail
          obtain ⟨iN, hiN⟩ : ∃ z9, z9 = q := ⟨_, rfl⟩
          obtain ⟨jN, hjN⟩ : ∃ z9, z9 = q + 1 := ⟨_, rfl⟩
          have ea : ((q : Int)).toNat = iN := by omega
          have pa : (0 : Int) ≤ (q : Int) := by omega
          have ba : (q : Int) < (n : Int) := by omega
          have ra : IntKind.i64.wrap ((q : Int)) = (q : Int) := by rw [IntKind.wrap_i64]; omega
          have ec : ((q : Int) + 1).toNat = jN := by omega
          have pc : (0 : Int) ≤ (q : Int) + 1 := by omega
          have bc : (q : Int) + 1 < (n : Int) := by omega
          have rc : IntKind.i64.wrap ((q : Int) + 1) = (q : Int) + 1 := by rw [IntKind.wrap_i64]; omega
          obtain ⟨x, hx⟩ : ∃ x, x = fn dk (q) := ⟨_, rfl⟩
          obtain ⟨y, hy⟩ : ∃ x, x = fn dk (q + 1) := ⟨_, rfl⟩
          have S3 : Hid (Rw w0 blk off n ok (swp dk (q) (q + 1)) ((wr.setCell ⟨blk, off + iN, none⟩ (.int .i64 y)).setCell ⟨blk, off + jN, none⟩ (.int .i64 x)).drew) := by rw [hiN, hjN, hx, hy]; exact S1.out.swapped T.out (q) (q + 1) (by omega) (by omega)
          have ca := S1.out.c T.out (q) (by omega)
          have cb := S1.out.c T.out (q + 1) (by omega)
          have fa := S1.out.f T.out (q) (by omega)
          have fb := S1.out.f T.out (q + 1) (by omega)
          obtain ⟨u, cc⟩ := S1.out.c2 T.out (q) (q + 1) (by omega) (by omega) (.int .i64 y)
          rw [← hjN, ← hiN] at cc
          rw [← hx, ← hiN] at ca
          rw [← hy, ← hjN] at cb
          rw [← hiN] at fa
          rw [← hjN] at fb
          clear S1 hx hy hiN hjN
          go_wp2_with fail
          go_big_region
          clear ca cb cc fa fb
          generalize ((wr.setCell ⟨blk, off + iN, none⟩ (.int .i64 y)).setCell ⟨blk, off + jN, none⟩ (.int .i64 x)).drew = w3 at S3 ⊢
          clear ea ec pa pc ba bc ra rc
          go_wp2
          go_roundg (i - (q + 1))
          case measure => omega
          case rel => exact ⟨q + 1, swp dk q (q + 1), by go_num, by omega, by omega, Nat.le_refl _, S3, HF2⟩
        · have hltz : ¬ (q : Int) < (i : Int) - 1 := by omega
          have e : q + 1 = i := by omega
          go_wp2_with fail
          go_end0
          refine ⟨rfl, dk, ?_, ?_, S1.out⟩
          · rw [HF.out, e]; exact HL.out.2
          · rw [HF.out, e]; exact HL.out.1
set_option maxHeartbeats 16000000 in
set_option maxRecDepth 1000000 in
theorem sym_b {w0 : World} {blk off n : Nat} {g : Nat} {cb : Array Value} {cf : Int → Int → Int} {k : Int → Int} {ok : Int → Prop} {d0 : Array Int} (T0 : Sett w0 blk off n g cb cf k ok d0) (cap a m b : Nat) (d : Array Int) (w : World) (h : Rw w0 blk off n ok d w) (h1 : a < m) (h2 : m < b) (h3 : b ≤ n) (hs1 : Srt k (fn d) a m) (hs2 : Srt k (fn d) m b) (hx : Crs (fn d) a m b) (hA : m ≠ a + 1) (hB : b = m + 1) :
    Calls Try.prog 136 #[.slice (some ⟨blk, off, none⟩) n cap, .int .i64 (a : Nat), .int .i64 (m : Nat), .int .i64 (b : Nat), .func (.func g) #[] cb] w (SymPost w0 blk off n k ok d a b) := by
  have eg := T0.enters
  have hn := T0.lt
  have mixed : Try.prog.follows .mixedOrders = true := by kernel_rfl
  have T := Lib.hid T0
  have HH := Lib.hid h
  have HS1 := Lib.hid hs1
  have HS2 := Lib.hid hs2
  have HX := Lib.hid hx
  clear T0 h hs1 hs2 hx
  have w1 : IntKind.i64.wrap ((m : Int) - (a : Int)) = (m : Int) - (a : Int) := by rw [IntKind.wrap_i64]; omega
  have n1 : ((m : Int) - (a : Int) == 1) = false := by rw [beq_eq_false_iff_ne]; omega
  have w2 : IntKind.i64.wrap ((b : Int) - (m : Int)) = 1 := by rw [IntKind.wrap_i64]; omega
  have HB := Lib.hid hB
  have hB1 : b ≤ m + 1 := by omega
  clear hB
  go_enter Try.func136, Try.ntmps136
  go_wp2_with fail
  go_loopg [14, 15] (m - a) (fun kx s t wr => ∃ (i j : Nat), s = .int .i64 i ∧ t = .int .i64 j ∧ a ≤ i ∧ i ≤ j ∧ j ≤ m ∧ j - i ≤ kx ∧ Hid (Rw w0 blk off n ok d wr) ∧ Hid ((∀ p, a ≤ p → p < i → L k (fn d p) (fn d m)) ∧ ∀ p, j ≤ p → p < m → L k (fn d m) (fn d p)))
  case atStart => exact ⟨a, m, rfl, rfl, Nat.le_refl _, by omega, Nat.le_refl _, Nat.le_refl _, HH, fun p _ _ => by omega, fun p _ _ => by omega⟩
  case round =>
    clear HH
    obtain ⟨i, j, rfl, rfl, hai, hij, hjm, hkx, S1, HP⟩ := hrel
    by_cases hlt : i < j
    · have hltz : (i : Int) < (j : Int) := by omega
      obtain ⟨c, hc0⟩ : ∃ q, q = (i + j) / 2 := ⟨_, rfl⟩
      have hcz : ((i : Int) + (j : Int)) / 2 = (c : Int) := by omega
      have hci : i ≤ c := by omega
      have hcj : c < j := by omega
      clear hc0
      by_cases hlv : k (fn d m) < k (fn d c)
      · have HP2 : Hid ((∀ p, a ≤ p → p < i → L k (fn d p) (fn d m)) ∧ ∀ p, c ≤ p → p < m → L k (fn d m) (fn d p)) := by
          refine ⟨HP.out.1, fun p q1 q2 => ?_⟩
          by_cases e : p = c
          · rw [e]; exact .inl hlv
          · exact L.trans (.inl hlv) (HS1.out c p (by omega) (by omega) q2)
        have HLV := Lib.hid hlv
        clear HP hlv
        go_wp2_with fail
        obtain ⟨iN, hiN⟩ : ∃ z9, z9 = m := ⟨_, rfl⟩
        obtain ⟨jN, hjN⟩ : ∃ z9, z9 = c := ⟨_, rfl⟩
        have ea : ((m : Int)).toNat = iN := by omega
        have pa : (0 : Int) ≤ (m : Int) := by omega
        have ba : (m : Int) < (n : Int) := by omega
        have ra : IntKind.i64.wrap ((m : Int)) = (m : Int) := by rw [IntKind.wrap_i64]; omega
        have ec : ((c : Int)).toNat = jN := by omega
        have pc : (0 : Int) ≤ (c : Int) := by omega
        have bc : (c : Int) < (n : Int) := by omega
        have rc : IntKind.i64.wrap ((c : Int)) = (c : Int) := by rw [IntKind.wrap_i64]; omega
        obtain ⟨x, hx⟩ : ∃ x, x = fn d (m) := ⟨_, rfl⟩
        obtain ⟨y, hy⟩ : ∃ x, x = fn d (c) := ⟨_, rfl⟩
        have la := S1.out.cl T.out (m) (by omega)
        have lb := S1.out.cl T.out (c) (by omega)
        rw [← hx, ← hiN] at la
        rw [← hy, ← hjN] at lb
        have hc := S1.out.cmp T.out (m) (c) (by omega) (by omega)
        rw [← hx, ← hy] at hc
        have hv : cf x y < 0 := by rw [hx, hy]; exact (T.out.neg _ _ (S1.out.ok _ (by omega)) (S1.out.ok _ (by omega))).2 HLV.out
        have hd : decide (cf x y < 0) = true := decide_eq_true hv
        clear hx hy hiN hjN
        go_wp2_with fail
        go_quiet_grown (first | (go_at_fn g; refine Calls.grown_of (hc _ _)))
        have S2 := Lib.hid (S1.out.grown nq osq)
        clear la lb hc S1
        generalize grow (wr.drewN nq) osq = w2 at S2 ⊢
        clear nq osq ea ec pa pc ba bc ra rc hv hd
        go_wp2
        go_roundg (c - i)
        case measure => omega
        case rel => exact ⟨i, c, rfl, rfl, hai, by omega, by omega, Nat.le_refl _, S2, HP2⟩
      · have HP2 : Hid ((∀ p, a ≤ p → p < c + 1 → L k (fn d p) (fn d m)) ∧ ∀ p, j ≤ p → p < m → L k (fn d m) (fn d p)) := by
          refine ⟨fun p q1 q2 => ?_, HP.out.2⟩
          have hl : L k (fn d c) (fn d m) := L.of_le hlv (HX.out c m (by omega) (by omega) (Nat.le_refl _) (by omega))
          by_cases e : p = c
          · rw [e]; exact hl
          · exact (HS1.out p c q1 (by omega) (by omega)).trans hl
        have HLV := Lib.hid hlv
        clear HP hlv
        go_wp2_with fail
        obtain ⟨iN, hiN⟩ : ∃ z9, z9 = m := ⟨_, rfl⟩
        obtain ⟨jN, hjN⟩ : ∃ z9, z9 = c := ⟨_, rfl⟩
        have ea : ((m : Int)).toNat = iN := by omega
        have pa : (0 : Int) ≤ (m : Int) := by omega
        have ba : (m : Int) < (n : Int) := by omega
        have ra : IntKind.i64.wrap ((m : Int)) = (m : Int) := by rw [IntKind.wrap_i64]; omega
        have ec : ((c : Int)).toNat = jN := by omega
        have pc : (0 : Int) ≤ (c : Int) := by omega
        have bc : (c : Int) < (n : Int) := by omega
        have rc : IntKind.i64.wrap ((c : Int)) = (c : Int) := by rw [IntKind.wrap_i64]; omega
        obtain ⟨x, hx⟩ : ∃ x, x = fn d (m) := ⟨_, rfl⟩
        obtain ⟨y, hy⟩ : ∃ x, x = fn d (c) := ⟨_, rfl⟩
        have la := S1.out.cl T.out (m) (by omega)
        have lb := S1.out.cl T.out (c) (by omega)
        rw [← hx, ← hiN] at la
        rw [← hy, ← hjN] at lb
        have hc := S1.out.cmp T.out (m) (c) (by omega) (by omega)
        rw [← hx, ← hy] at hc
        have hv : ¬ cf x y < 0 := by
          intro h9
          rw [hx, hy] at h9
          have h8 := (T.out.neg _ _ (S1.out.ok _ (by omega)) (S1.out.ok _ (by omega))).1 h9
          have h7 := HLV.out
          omega
        have hd : decide (cf x y < 0) = false := decide_eq_false hv
        clear hx hy hiN hjN
        go_wp2_with fail
        go_quiet_grown (first | (go_at_fn g; refine Calls.grown_of (hc _ _)))
        have S2 := Lib.hid (S1.out.grown nq osq)
        clear la lb hc S1
        generalize grow (wr.drewN nq) osq = w2 at S2 ⊢
        clear nq osq ea ec pa pc ba bc ra rc hv hd
        go_wp2
        go_roundg (j - (c + 1))
        case measure => omega
        case rel => exact ⟨c + 1, j, by go_num, rfl, by omega, by omega, hjm, Nat.le_refl _, S2, HP2⟩
    · have hltz : ¬ (i : Int) < (j : Int) := by omega
      have e : i = j := by omega
      subst e
      have HL := Lib.hid (one_down (k := k) (f := fn d) (a := a) (m := m) (i := i) HS1.out hai (by omega) HP.out.1 HP.out.2)
      clear HP
      go_wp2_with fail
      go_loopg [17] m (fun kx s wr => ∃ (q : Nat) (dk : Array Int), s = .int .i64 q ∧ i ≤ q ∧ q ≤ m ∧ q ≤ kx ∧ Hid (Rw w0 blk off n ok dk wr) ∧ Hid (fn dk = rot (fn d) q m (m + 1)))
      case atStart => exact ⟨m, d, rfl, by omega, Nat.le_refl _, Nat.le_refl _, S1, (rot_none (fn d) (a := m) (m := m) (b := m + 1) (.inl rfl)).symm⟩
      case round =>
        clear S1
        obtain ⟨q, dk, rfl, hiq, hqm, hkx, S1, HF⟩ := hrel
        by_cases hlt : i < q
        · have hltz : (i : Int) < (q : Int) := by omega
          obtain ⟨jp, hjp⟩ : ∃ t, t + 1 = q := ⟨q - 1, by omega⟩
          have zjp : (q : Int) = (jp : Int) + 1 := by omega
          have hltz' : (i : Int) < (jp : Int) + 1 := by omega
          have HF2 : Hid (fn (swp dk q (q - 1)) = rot (fn d) (q - 1) m (m + 1)) := by
            show _ = _
            rw [fn_swp dk (by rw [S1.out.size]; omega) (by rw [S1.out.size]; omega), HF.out, ← hjp]
            exact rot_down (fn d) (i := jp) (by omega)
          clear HF
          go_wp2_with fail
          obtain ⟨iN, hiN⟩ : ∃ z9, z9 = q := ⟨_, rfl⟩
          obtain ⟨jN, hjN⟩ : ∃ z9, z9 = q - 1 := ⟨_, rfl⟩
          have ea : ((jp : Int) + 1).toNat = iN := by omega
          have pa : (0 : Int) ≤ (jp : Int) + 1 := by omega
          have ba : (jp : Int) + 1 < (n : Int) := by omega
          have ra : IntKind.i64.wrap ((jp : Int) + 1) = (jp : Int) + 1 := by rw [IntKind.wrap_i64]; omega
          have ec : ((jp : Int)).toNat = jN := by omega
          have pc : (0 : Int) ≤ (jp : Int) := by omega
          have bc : (jp : Int) < (n : Int) := by omega
          have rc : IntKind.i64.wrap ((jp : Int)) = (jp : Int) := by rw [IntKind.wrap_i64]; omega
          obtain ⟨x, hx⟩ : ∃ x, x = fn dk (q) := ⟨_, rfl⟩
          obtain ⟨y, hy⟩ : ∃ x, x = fn dk (q - 1) := ⟨_, rfl⟩
          have S3 : Hid (Rw w0 blk off n ok (swp dk (q) (q - 1)) ((wr.setCell ⟨blk, off + iN, none⟩ (.int .i64 y)).setCell ⟨blk, off + jN, none⟩ (.int .i64 x)).drew) := by rw [hiN, hjN, hx, hy]; exact S1.out.swapped T.out (q) (q - 1) (by omega) (by omega)
          have ca := S1.out.c T.out (q) (by omega)
          have cb := S1.out.c T.out (q - 1) (by omega)
          have fa := S1.out.f T.out (q) (by omega)
          have fb := S1.out.f T.out (q - 1) (by omega)
          obtain ⟨u, cc⟩ := S1.out.c2 T.out (q) (q - 1) (by omega) (by omega) (.int .i64 y)
          rw [← hjN, ← hiN] at cc
          rw [← hx, ← hiN] at ca
          rw [← hy, ← hjN] at cb
          rw [← hiN] at fa
          rw [← hjN] at fb
          clear S1 hx hy hiN hjN
          go_wp2_with fail
          go_big_region
          clear ca cb cc fa fb
          generalize ((wr.setCell ⟨blk, off + iN, none⟩ (.int .i64 y)).setCell ⟨blk, off + jN, none⟩ (.int .i64 x)).drew = w3 at S3 ⊢
          clear ea ec pa pc ba bc ra rc
          go_wp2
          go_roundg (q - 1)
          case measure => omega
          case rel => exact ⟨q - 1, swp dk q (q - 1), by first | rfl | go_num | (congr 1; omega), by omega, by omega, Nat.le_refl _, S3, HF2⟩
        · have hltz : ¬ (i : Int) < (q : Int) := by omega
          have e : q = i := by omega
          go_wp2_with fail
          go_end0
          refine ⟨rfl, dk, ?_, ?_, S1.out⟩
          · rw [HF.out, e, HB.out]; exact HL.out.2
          · rw [HF.out, e, HB.out]; exact HL.out.1
end Go.Proofs.Ytglpnpjjjihghaa

/-
  What slices.symMergeCmpFunc comes to, over this seat's translation: a contract for callers.
-/
namespace Go.Proofs.Ytglpnpjjjihghaa
open Go.RowKit Go.Lib Go.Sort Go.Shelf Go.Proofs.Ytglpnpjjjihghaa.StableLaw

set_option maxHeartbeats 16000000 in
set_option maxRecDepth 1000000 in
theorem sym_hi {w0 : World} {blk off n : Nat} {g : Nat} {cb : Array Value} {cf : Int → Int → Int} {k : Int → Int} {ok : Int → Prop} {d0 : Array Int} (T0 : Sett w0 blk off n g cb cf k ok d0) (cap a m b : Nat) (d : Array Int) (w : World) (h : Rw w0 blk off n ok d w) (h1 : a < m) (h2 : m < b) (h3 : b ≤ n) (hs1 : Srt k (fn d) a m) (hs2 : Srt k (fn d) m b) (hx : Crs (fn d) a m b) (_ : m ≠ a + 1) (hB : b ≠ m + 1) (mid : Nat) (hmid : mid = (a + b) / 2) (hm : mid < m)
    (ih : ∀ (a' m' b' : Nat) (d' : Array Int) (w' : World), b' - a' < b - a → a' < m' → m' < b' → b' ≤ n → Rw w0 blk off n ok d' w' → Srt k (fn d') a' m' → Srt k (fn d') m' b' → Crs (fn d') a' m' b' → Calls Try.prog 136 #[.slice (some ⟨blk, off, none⟩) n cap, .int .i64 (a' : Nat), .int .i64 (m' : Nat), .int .i64 (b' : Nat), .func (.func g) #[] cb] w' (SymPost w0 blk off n k ok d' a' b')) :
    Calls Try.prog 136 #[.slice (some ⟨blk, off, none⟩) n cap, .int .i64 (a : Nat), .int .i64 (m : Nat), .int .i64 (b : Nat), .func (.func g) #[] cb] w (SymPost w0 blk off n k ok d a b) := by
  have eg := T0.enters
  have hn := T0.lt
  have mixed : Try.prog.follows .mixedOrders = true := by kernel_rfl
  have T := Lib.hid T0
  have HH := Lib.hid h
  have HS1 := Lib.hid hs1
  have HS2 := Lib.hid hs2
  have HX := Lib.hid hx
  clear T0 h hs1 hs2 hx
  have IH := Lib.hid ih
  clear ih
  have w1 : IntKind.i64.wrap ((m : Int) - (a : Int)) = (m : Int) - (a : Int) := by rw [IntKind.wrap_i64]; omega
  have n1 : ((m : Int) - (a : Int) == 1) = false := by rw [beq_eq_false_iff_ne]; omega
  have w2 : IntKind.i64.wrap ((b : Int) - (m : Int)) = (b : Int) - (m : Int) := by rw [IntKind.wrap_i64]; omega
  have n2 : ((b : Int) - (m : Int) == 1) = false := by rw [beq_eq_false_iff_ne]; omega
  have hmz : ((a : Int) + (b : Int)) / 2 = (mid : Int) := by omega
  have hm1 : a + b ≤ 2 * mid + 1 := by omega
  have hm2 : 2 * mid ≤ a + b := by omega
  clear hmid
  have hmm : (mid : Int) < (m : Int) := by omega
  go_enter Try.func136, Try.ntmps136
  go_wp2_with fail
  go_loopg [20, 21] (b - a) (fun kx s t wr => ∃ (i j : Nat), s = .int .i64 i ∧ t = .int .i64 j ∧ mid + m - b ≤ i ∧ i ≤ j ∧ j ≤ mid ∧ j - i ≤ kx ∧ Hid (Rw w0 blk off n ok d wr) ∧ Hid (Srch k (fn d) (mid + m) (mid + m - b) (mid) i j))
  case atStart => exact ⟨mid + m - b, mid, by first | rfl | (congr 1; omega), rfl, Nat.le_refl _, by omega, Nat.le_refl _, by omega, HH, Srch.start _ _ (by omega)⟩
  case round =>
    clear HH
    obtain ⟨s, r, rfl, rfl, hs0, hsr, hr0, hkx, S1, HP⟩ := hrel
    by_cases hlt : s < r
    · have hltz : (s : Int) < (r : Int) := by omega
      obtain ⟨c, hc0⟩ : ∃ q, q = (s + r) / 2 := ⟨_, rfl⟩
      have hcz : ((s : Int) + (r : Int)) / 2 = (c : Int) := by omega
      have hci : s ≤ c := by omega
      have hcj : c < r := by omega
      clear hc0
      obtain ⟨pcx, hpc⟩ : ∃ z9, z9 = mid + m - 1 - c := ⟨_, rfl⟩
      have hpz : (mid : Int) + (m : Int) - 1 - (c : Int) = (pcx : Int) := by omega
      have hp1 : pcx < b := by omega
      have hp2 : m ≤ pcx := by omega
      by_cases hlv : k (fn d pcx) < k (fn d c)
      · have HP2 := Lib.hid (HP.out.left hci hcj (hpc ▸ .inl hlv))
        clear hpc
        have HLV := Lib.hid hlv
        clear HP hlv
        go_wp2_with fail
        obtain ⟨iN, hiN⟩ : ∃ z9, z9 = pcx := ⟨_, rfl⟩
        obtain ⟨jN, hjN⟩ : ∃ z9, z9 = c := ⟨_, rfl⟩
        have ea : ((pcx : Int)).toNat = iN := by omega
        have pa : (0 : Int) ≤ (pcx : Int) := by omega
        have ba : (pcx : Int) < (n : Int) := by omega
        have ra : IntKind.i64.wrap ((pcx : Int)) = (pcx : Int) := by rw [IntKind.wrap_i64]; omega
        have ec : ((c : Int)).toNat = jN := by omega
        have pc : (0 : Int) ≤ (c : Int) := by omega
        have bc : (c : Int) < (n : Int) := by omega
        have rc : IntKind.i64.wrap ((c : Int)) = (c : Int) := by rw [IntKind.wrap_i64]; omega
        obtain ⟨x, hx⟩ : ∃ x, x = fn d (pcx) := ⟨_, rfl⟩
        obtain ⟨y, hy⟩ : ∃ x, x = fn d (c) := ⟨_, rfl⟩
        have la := S1.out.cl T.out (pcx) (by omega)
        have lb := S1.out.cl T.out (c) (by omega)
        rw [← hx, ← hiN] at la
        rw [← hy, ← hjN] at lb
        have hc := S1.out.cmp T.out (pcx) (c) (by omega) (by omega)
        rw [← hx, ← hy] at hc
        have hv : cf x y < 0 := by rw [hx, hy]; exact (T.out.neg _ _ (S1.out.ok _ (by omega)) (S1.out.ok _ (by omega))).2 HLV.out
        have hd : decide (cf x y < 0) = true := decide_eq_true hv
        clear hx hy hiN hjN
        go_wp2_with fail
        go_quiet_grown (first | (go_at_fn g; refine Calls.grown_of (hc _ _)))
        have S2 := Lib.hid (S1.out.grown nq osq)
        clear la lb hc S1
        generalize grow (wr.drewN nq) osq = w2 at S2 ⊢
        clear nq osq ea ec pa pc ba bc ra rc hv hd
        go_wp2
        go_roundg (c - s)
        case measure => omega
        case rel => exact ⟨s, c, rfl, rfl, hs0, by omega, by omega, Nat.le_refl _, S2, HP2⟩
      · have HP2 := Lib.hid (HP.out.right hci hcj (hpc ▸ L.of_le hlv (HX.out c pcx (by omega) (by omega) (by omega) (by omega))))
        clear hpc
        have HLV := Lib.hid hlv
        clear HP hlv
        go_wp2_with fail
        obtain ⟨iN, hiN⟩ : ∃ z9, z9 = pcx := ⟨_, rfl⟩
        obtain ⟨jN, hjN⟩ : ∃ z9, z9 = c := ⟨_, rfl⟩
        have ea : ((pcx : Int)).toNat = iN := by omega
        have pa : (0 : Int) ≤ (pcx : Int) := by omega
        have ba : (pcx : Int) < (n : Int) := by omega
        have ra : IntKind.i64.wrap ((pcx : Int)) = (pcx : Int) := by rw [IntKind.wrap_i64]; omega
        have ec : ((c : Int)).toNat = jN := by omega
        have pc : (0 : Int) ≤ (c : Int) := by omega
        have bc : (c : Int) < (n : Int) := by omega
        have rc : IntKind.i64.wrap ((c : Int)) = (c : Int) := by rw [IntKind.wrap_i64]; omega
        obtain ⟨x, hx⟩ : ∃ x, x = fn d (pcx) := ⟨_, rfl⟩
        obtain ⟨y, hy⟩ : ∃ x, x = fn d (c) := ⟨_, rfl⟩
        have la := S1.out.cl T.out (pcx) (by omega)
        have lb := S1.out.cl T.out (c) (by omega)
        rw [← hx, ← hiN] at la
        rw [← hy, ← hjN] at lb
        have hc := S1.out.cmp T.out (pcx) (c) (by omega) (by omega)
        rw [← hx, ← hy] at hc
        have hv : ¬ cf x y < 0 := by
          intro h9
          rw [hx, hy] at h9
          have h8 := (T.out.neg _ _ (S1.out.ok _ (by omega)) (S1.out.ok _ (by omega))).1 h9
          have h7 := HLV.out
          omega
        have hd : decide (cf x y < 0) = false := decide_eq_false hv
        clear hx hy hiN hjN
        go_wp2_with fail
        go_quiet_grown (first | (go_at_fn g; refine Calls.grown_of (hc _ _)))
        have S2 := Lib.hid (S1.out.grown nq osq)
        clear la lb hc S1
        generalize grow (wr.drewN nq) osq = w2 at S2 ⊢
        clear nq osq ea ec pa pc ba bc ra rc hv hd
        go_wp2
        go_roundg (r - (c + 1))
        case measure => omega
        case rel => exact ⟨c + 1, r, by go_num, rfl, by omega, by omega, hr0, Nat.le_refl _, S2, HP2⟩
    · have hltz : ¬ (s : Int) < (r : Int) := by omega
      have HCUT : Hid (Cut k (fn d) a m b mid s) := HP.out.cut_hi hlt hm (by omega) (by omega)
      clear HP
      obtain ⟨en, hen⟩ : ∃ q, q = mid + m - s := ⟨_, rfl⟩
      have hez : (mid : Int) + (m : Int) - (s : Int) = (en : Int) := by omega
      have HEN := Lib.hid hen
      have hen1 : en + s ≤ mid + m := by omega
      have hen2 : mid + m ≤ en + s := by omega
      clear hen
      by_cases q1 : s < m
      · have f1 : (s : Int) < (m : Int) := by omega
        have f5 : (mid : Int) < (en : Int) := by omega
        by_cases q2 : s < mid
        · have f2 : (s : Int) < (mid : Int) := by omega
          have f6 : (m : Int) < (en : Int) := by omega
          by_cases q3 : a < s
          · have f3 : (a : Int) < (s : Int) := by omega
            by_cases q4 : en < b
            · have f4 : (en : Int) < (b : Int) := by omega
              have HR := Lib.hid (rotate_rw S1.out T.out (.func (.func g) #[] cb) cap s m en (by omega) (by omega) (by omega))
              go_wp2_with fail
              refine HR.out.mono ?_
              rintro e w2 ⟨rfl, d2, hf2, R2⟩
              have HF2 := Lib.hid hf2
              have S2 := Lib.hid R2
              clear hf2 R2 HR
              have HHV := Lib.hid (HCUT.out.halves HS1.out HS2.out HX.out)
              rw [← HEN.out, ← HF2.out] at HHV
              have HI := Lib.hid (IH.out a s mid d2 w2 (by omega) (by omega) (by omega) (by omega) S2.out HHV.out.1 HHV.out.2.1 HHV.out.2.2.1)
              go_wp2_with fail
              refine HI.out.mono ?_
              rintro e w3 ⟨rfl, d3, mv3, s3, R3⟩
              have MV3 := Lib.hid mv3
              have SS3 := Lib.hid s3
              have S3 := Lib.hid R3
              clear mv3 s3 R3 HI
              have HI2 := Lib.hid (IH.out mid en b d3 w3 (by omega) (by omega) (by omega) (by omega) S3.out (Srt.out HHV.out.2.2.2.1 fun p q1 q2 => MV3.out.out p (.inr q1)) (Srt.out HHV.out.2.2.2.2.1 fun p q1 q2 => MV3.out.out p (.inr (by omega))) (Crs.out HHV.out.2.2.2.2.2 fun p q1 q2 => MV3.out.out p (.inr q1)))
              go_wp2_with fail
              refine HI2.out.mono ?_
              rintro e w4 ⟨rfl, d4, mv4, s4, R4⟩
              have MV4 := Lib.hid mv4
              have SS4 := Lib.hid s4
              have S4 := Lib.hid R4
              clear mv4 s4 R4 HI2
              have HL := Lib.hid (HCUT.out.law HS1.out HS2.out (by rw [← HEN.out]; exact HF2.out) MV3.out SS3.out MV4.out SS4.out (by omega) (by omega))
              go_wp2_with fail
              all_goals go_end0
              all_goals exact ⟨rfl, d4, HL.out.2, HL.out.1, S4.out⟩
            · have f4 : ¬ (en : Int) < (b : Int) := by omega
              have HR := Lib.hid (rotate_rw S1.out T.out (.func (.func g) #[] cb) cap s m en (by omega) (by omega) (by omega))
              go_wp2_with fail
              refine HR.out.mono ?_
              rintro e w2 ⟨rfl, d2, hf2, R2⟩
              have HF2 := Lib.hid hf2
              have S2 := Lib.hid R2
              clear hf2 R2 HR
              have HHV := Lib.hid (HCUT.out.halves HS1.out HS2.out HX.out)
              rw [← HEN.out, ← HF2.out] at HHV
              have HI := Lib.hid (IH.out a s mid d2 w2 (by omega) (by omega) (by omega) (by omega) S2.out HHV.out.1 HHV.out.2.1 HHV.out.2.2.1)
              go_wp2_with fail
              refine HI.out.mono ?_
              rintro e w3 ⟨rfl, d3, mv3, s3, R3⟩
              have MV3 := Lib.hid mv3
              have SS3 := Lib.hid s3
              have S3 := Lib.hid R3
              clear mv3 s3 R3 HI
              have MV4 := Lib.hid (Moved.refl (fn d3) mid b)
              have SS4 : Hid (Srt k (fn d3) mid b) := Srt.out ((show en = b by omega) ▸ HHV.out.2.2.2.1) fun p q1 q2 => MV3.out.out p (.inr (by omega))
              have HL := Lib.hid (HCUT.out.law HS1.out HS2.out (by rw [← HEN.out]; exact HF2.out) MV3.out SS3.out MV4.out SS4.out (by omega) (by omega))
              go_wp2_with fail
              all_goals go_end0
              all_goals exact ⟨rfl, d3, HL.out.2, HL.out.1, S3.out⟩
          · have f3 : ¬ (a : Int) < (s : Int) := by omega
            by_cases q4 : en < b
            · have f4 : (en : Int) < (b : Int) := by omega
              have HR := Lib.hid (rotate_rw S1.out T.out (.func (.func g) #[] cb) cap s m en (by omega) (by omega) (by omega))
              go_wp2_with fail
              refine HR.out.mono ?_
              rintro e w2 ⟨rfl, d2, hf2, R2⟩
              have HF2 := Lib.hid hf2
              have S2 := Lib.hid R2
              clear hf2 R2 HR
              have HHV := Lib.hid (HCUT.out.halves HS1.out HS2.out HX.out)
              rw [← HEN.out, ← HF2.out] at HHV
              have MV3 := Lib.hid (Moved.refl (fn d2) a mid)
              have SS3 : Hid (Srt k (fn d2) a mid) := (show s = a by omega) ▸ HHV.out.2.1
              have HI2 := Lib.hid (IH.out mid en b d2 w2 (by omega) (by omega) (by omega) (by omega) S2.out (Srt.out HHV.out.2.2.2.1 fun p q1 q2 => MV3.out.out p (.inr q1)) (Srt.out HHV.out.2.2.2.2.1 fun p q1 q2 => MV3.out.out p (.inr (by omega))) (Crs.out HHV.out.2.2.2.2.2 fun p q1 q2 => MV3.out.out p (.inr q1)))
              go_wp2_with fail
              refine HI2.out.mono ?_
              rintro e w4 ⟨rfl, d4, mv4, s4, R4⟩
              have MV4 := Lib.hid mv4
              have SS4 := Lib.hid s4
              have S4 := Lib.hid R4
              clear mv4 s4 R4 HI2
              have HL := Lib.hid (HCUT.out.law HS1.out HS2.out (by rw [← HEN.out]; exact HF2.out) MV3.out SS3.out MV4.out SS4.out (by omega) (by omega))
              go_wp2_with fail
              all_goals go_end0
              all_goals exact ⟨rfl, d4, HL.out.2, HL.out.1, S4.out⟩
            · have f4 : ¬ (en : Int) < (b : Int) := by omega
              have HR := Lib.hid (rotate_rw S1.out T.out (.func (.func g) #[] cb) cap s m en (by omega) (by omega) (by omega))
              go_wp2_with fail
              refine HR.out.mono ?_
              rintro e w2 ⟨rfl, d2, hf2, R2⟩
              have HF2 := Lib.hid hf2
              have S2 := Lib.hid R2
              clear hf2 R2 HR
              have HHV := Lib.hid (HCUT.out.halves HS1.out HS2.out HX.out)
              rw [← HEN.out, ← HF2.out] at HHV
              have MV3 := Lib.hid (Moved.refl (fn d2) a mid)
              have SS3 : Hid (Srt k (fn d2) a mid) := (show s = a by omega) ▸ HHV.out.2.1
              have MV4 := Lib.hid (Moved.refl (fn d2) mid b)
              have SS4 : Hid (Srt k (fn d2) mid b) := Srt.out ((show en = b by omega) ▸ HHV.out.2.2.2.1) fun p q1 q2 => MV3.out.out p (.inr (by omega))
              have HL := Lib.hid (HCUT.out.law HS1.out HS2.out (by rw [← HEN.out]; exact HF2.out) MV3.out SS3.out MV4.out SS4.out (by omega) (by omega))
              go_wp2_with fail
              all_goals go_end0
              all_goals exact ⟨rfl, d2, HL.out.2, HL.out.1, S2.out⟩
        · have f2 : ¬ (s : Int) < (mid : Int) := by omega
          have f6 : ¬ (m : Int) < (en : Int) := by omega
          by_cases q3 : a < s
          · have f3 : (a : Int) < (s : Int) := by omega
            by_cases q4 : en < b
            · have f4 : (en : Int) < (b : Int) := by omega
              have HF2 : Hid (fn d = rot (fn d) s m en) := (rot_none _ (.inr (by omega))).symm
              have HHV := Lib.hid (HCUT.out.halves HS1.out HS2.out HX.out)
              rw [← HEN.out, ← HF2.out] at HHV
              have MV3 := Lib.hid (Moved.refl (fn d) a mid)
              have SS3 : Hid (Srt k (fn d) a mid) := (show s = mid by omega) ▸ HHV.out.1
              have HI2 := Lib.hid (IH.out mid en b d wr (by omega) (by omega) (by omega) (by omega) S1.out (Srt.out HHV.out.2.2.2.1 fun p q1 q2 => MV3.out.out p (.inr q1)) (Srt.out HHV.out.2.2.2.2.1 fun p q1 q2 => MV3.out.out p (.inr (by omega))) (Crs.out HHV.out.2.2.2.2.2 fun p q1 q2 => MV3.out.out p (.inr q1)))
              go_wp2_with fail
              refine HI2.out.mono ?_
              rintro e w4 ⟨rfl, d4, mv4, s4, R4⟩
              have MV4 := Lib.hid mv4
              have SS4 := Lib.hid s4
              have S4 := Lib.hid R4
              clear mv4 s4 R4 HI2
              have HL := Lib.hid (HCUT.out.law HS1.out HS2.out (by rw [← HEN.out]; exact HF2.out) MV3.out SS3.out MV4.out SS4.out (by omega) (by omega))
              go_wp2_with fail
              all_goals go_end0
              all_goals exact ⟨rfl, d4, HL.out.2, HL.out.1, S4.out⟩
            · have f4 : ¬ (en : Int) < (b : Int) := by omega
              have HF2 : Hid (fn d = rot (fn d) s m en) := (rot_none _ (.inr (by omega))).symm
              have HHV := Lib.hid (HCUT.out.halves HS1.out HS2.out HX.out)
              rw [← HEN.out, ← HF2.out] at HHV
              have MV3 := Lib.hid (Moved.refl (fn d) a mid)
              have SS3 : Hid (Srt k (fn d) a mid) := (show s = mid by omega) ▸ HHV.out.1
              have MV4 := Lib.hid (Moved.refl (fn d) mid b)
              have SS4 : Hid (Srt k (fn d) mid b) := Srt.out ((show en = b by omega) ▸ HHV.out.2.2.2.1) fun p q1 q2 => MV3.out.out p (.inr (by omega))
              have HL := Lib.hid (HCUT.out.law HS1.out HS2.out (by rw [← HEN.out]; exact HF2.out) MV3.out SS3.out MV4.out SS4.out (by omega) (by omega))
              go_wp2_with fail
              all_goals go_end0
              all_goals exact ⟨rfl, d, HL.out.2, HL.out.1, S1.out⟩
          · have f3 : ¬ (a : Int) < (s : Int) := by omega
            by_cases q4 : en < b
            · have f4 : (en : Int) < (b : Int) := by omega
              have HF2 : Hid (fn d = rot (fn d) s m en) := (rot_none _ (.inr (by omega))).symm
              have HHV := Lib.hid (HCUT.out.halves HS1.out HS2.out HX.out)
              rw [← HEN.out, ← HF2.out] at HHV
              have MV3 := Lib.hid (Moved.refl (fn d) a mid)
              have SS3 : Hid (Srt k (fn d) a mid) := (show s = mid by omega) ▸ HHV.out.1
              have HI2 := Lib.hid (IH.out mid en b d wr (by omega) (by omega) (by omega) (by omega) S1.out (Srt.out HHV.out.2.2.2.1 fun p q1 q2 => MV3.out.out p (.inr q1)) (Srt.out HHV.out.2.2.2.2.1 fun p q1 q2 => MV3.out.out p (.inr (by omega))) (Crs.out HHV.out.2.2.2.2.2 fun p q1 q2 => MV3.out.out p (.inr q1)))
              go_wp2_with fail
              refine HI2.out.mono ?_
              rintro e w4 ⟨rfl, d4, mv4, s4, R4⟩
              have MV4 := Lib.hid mv4
              have SS4 := Lib.hid s4
              have S4 := Lib.hid R4
              clear mv4 s4 R4 HI2
              have HL := Lib.hid (HCUT.out.law HS1.out HS2.out (by rw [← HEN.out]; exact HF2.out) MV3.out SS3.out MV4.out SS4.out (by omega) (by omega))
              go_wp2_with fail
              all_goals go_end0
              all_goals exact ⟨rfl, d4, HL.out.2, HL.out.1, S4.out⟩
            · have f4 : ¬ (en : Int) < (b : Int) := by omega
              have HF2 : Hid (fn d = rot (fn d) s m en) := (rot_none _ (.inr (by omega))).symm
              have HHV := Lib.hid (HCUT.out.halves HS1.out HS2.out HX.out)
              rw [← HEN.out, ← HF2.out] at HHV
              have MV3 := Lib.hid (Moved.refl (fn d) a mid)
              have SS3 : Hid (Srt k (fn d) a mid) := (show s = mid by omega) ▸ HHV.out.1
              have MV4 := Lib.hid (Moved.refl (fn d) mid b)
              have SS4 : Hid (Srt k (fn d) mid b) := Srt.out ((show en = b by omega) ▸ HHV.out.2.2.2.1) fun p q1 q2 => MV3.out.out p (.inr (by omega))
              have HL := Lib.hid (HCUT.out.law HS1.out HS2.out (by rw [← HEN.out]; exact HF2.out) MV3.out SS3.out MV4.out SS4.out (by omega) (by omega))
              go_wp2_with fail
              all_goals go_end0
              all_goals exact ⟨rfl, d, HL.out.2, HL.out.1, S1.out⟩
      · have f1 : ¬ (s : Int) < (m : Int) := by omega
        have f5 : ¬ (mid : Int) < (en : Int) := by omega
        by_cases q2 : s < mid
        · have f2 : (s : Int) < (mid : Int) := by omega
          have f6 : (m : Int) < (en : Int) := by omega
          by_cases q3 : a < s
          · have f3 : (a : Int) < (s : Int) := by omega
            by_cases q4 : en < b
            · have f4 : (en : Int) < (b : Int) := by omega
              have HF2 : Hid (fn d = rot (fn d) s m en) := (rot_none _ (.inl (by omega))).symm
              have HHV := Lib.hid (HCUT.out.halves HS1.out HS2.out HX.out)
              rw [← HEN.out, ← HF2.out] at HHV
              have HI := Lib.hid (IH.out a s mid d wr (by omega) (by omega) (by omega) (by omega) S1.out HHV.out.1 HHV.out.2.1 HHV.out.2.2.1)
              go_wp2_with fail
              refine HI.out.mono ?_
              rintro e w3 ⟨rfl, d3, mv3, s3, R3⟩
              have MV3 := Lib.hid mv3
              have SS3 := Lib.hid s3
              have S3 := Lib.hid R3
              clear mv3 s3 R3 HI
              have MV4 := Lib.hid (Moved.refl (fn d3) mid b)
              have SS4 : Hid (Srt k (fn d3) mid b) := Srt.out ((show en = mid by omega) ▸ HHV.out.2.2.2.2.1) fun p q1 q2 => MV3.out.out p (.inr (by omega))
              have HL := Lib.hid (HCUT.out.law HS1.out HS2.out (by rw [← HEN.out]; exact HF2.out) MV3.out SS3.out MV4.out SS4.out (by omega) (by omega))
              go_wp2_with fail
              all_goals go_end0
              all_goals exact ⟨rfl, d3, HL.out.2, HL.out.1, S3.out⟩
            · have f4 : ¬ (en : Int) < (b : Int) := by omega
              have HF2 : Hid (fn d = rot (fn d) s m en) := (rot_none _ (.inl (by omega))).symm
              have HHV := Lib.hid (HCUT.out.halves HS1.out HS2.out HX.out)
              rw [← HEN.out, ← HF2.out] at HHV
              have HI := Lib.hid (IH.out a s mid d wr (by omega) (by omega) (by omega) (by omega) S1.out HHV.out.1 HHV.out.2.1 HHV.out.2.2.1)
              go_wp2_with fail
              refine HI.out.mono ?_
              rintro e w3 ⟨rfl, d3, mv3, s3, R3⟩
              have MV3 := Lib.hid mv3
              have SS3 := Lib.hid s3
              have S3 := Lib.hid R3
              clear mv3 s3 R3 HI
              have MV4 := Lib.hid (Moved.refl (fn d3) mid b)
              have SS4 : Hid (Srt k (fn d3) mid b) := Srt.out ((show en = mid by omega) ▸ HHV.out.2.2.2.2.1) fun p q1 q2 => MV3.out.out p (.inr (by omega))
              have HL := Lib.hid (HCUT.out.law HS1.out HS2.out (by rw [← HEN.out]; exact HF2.out) MV3.out SS3.out MV4.out SS4.out (by omega) (by omega))
              go_wp2_with fail
              all_goals go_end0
              all_goals exact ⟨rfl, d3, HL.out.2, HL.out.1, S3.out⟩
          · have f3 : ¬ (a : Int) < (s : Int) := by omega
            by_cases q4 : en < b
            · have f4 : (en : Int) < (b : Int) := by omega
              have HF2 : Hid (fn d = rot (fn d) s m en) := (rot_none _ (.inl (by omega))).symm
              have HHV := Lib.hid (HCUT.out.halves HS1.out HS2.out HX.out)
              rw [← HEN.out, ← HF2.out] at HHV
              have MV3 := Lib.hid (Moved.refl (fn d) a mid)
              have SS3 : Hid (Srt k (fn d) a mid) := (show s = a by omega) ▸ HHV.out.2.1
              have MV4 := Lib.hid (Moved.refl (fn d) mid b)
              have SS4 : Hid (Srt k (fn d) mid b) := Srt.out ((show en = mid by omega) ▸ HHV.out.2.2.2.2.1) fun p q1 q2 => MV3.out.out p (.inr (by omega))
              have HL := Lib.hid (HCUT.out.law HS1.out HS2.out (by rw [← HEN.out]; exact HF2.out) MV3.out SS3.out MV4.out SS4.out (by omega) (by omega))
              go_wp2_with fail
              all_goals go_end0
              all_goals exact ⟨rfl, d, HL.out.2, HL.out.1, S1.out⟩
            · have f4 : ¬ (en : Int) < (b : Int) := by omega
              have HF2 : Hid (fn d = rot (fn d) s m en) := (rot_none _ (.inl (by omega))).symm
              have HHV := Lib.hid (HCUT.out.halves HS1.out HS2.out HX.out)
              rw [← HEN.out, ← HF2.out] at HHV
              have MV3 := Lib.hid (Moved.refl (fn d) a mid)
              have SS3 : Hid (Srt k (fn d) a mid) := (show s = a by omega) ▸ HHV.out.2.1
              have MV4 := Lib.hid (Moved.refl (fn d) mid b)
              have SS4 : Hid (Srt k (fn d) mid b) := Srt.out ((show en = mid by omega) ▸ HHV.out.2.2.2.2.1) fun p q1 q2 => MV3.out.out p (.inr (by omega))
              have HL := Lib.hid (HCUT.out.law HS1.out HS2.out (by rw [← HEN.out]; exact HF2.out) MV3.out SS3.out MV4.out SS4.out (by omega) (by omega))
              go_wp2_with fail
              all_goals go_end0
              all_goals exact ⟨rfl, d, HL.out.2, HL.out.1, S1.out⟩
        · have f2 : ¬ (s : Int) < (mid : Int) := by omega
          have f6 : ¬ (m : Int) < (en : Int) := by omega
          by_cases q3 : a < s
          · have f3 : (a : Int) < (s : Int) := by omega
            by_cases q4 : en < b
            · have f4 : (en : Int) < (b : Int) := by omega
              have HF2 : Hid (fn d = rot (fn d) s m en) := (rot_none _ (.inl (by omega))).symm
              have HHV := Lib.hid (HCUT.out.halves HS1.out HS2.out HX.out)
              rw [← HEN.out, ← HF2.out] at HHV
              have MV3 := Lib.hid (Moved.refl (fn d) a mid)
              have SS3 : Hid (Srt k (fn d) a mid) := (show s = mid by omega) ▸ HHV.out.1
              have MV4 := Lib.hid (Moved.refl (fn d) mid b)
              have SS4 : Hid (Srt k (fn d) mid b) := Srt.out ((show en = mid by omega) ▸ HHV.out.2.2.2.2.1) fun p q1 q2 => MV3.out.out p (.inr (by omega))
              have HL := Lib.hid (HCUT.out.law HS1.out HS2.out (by rw [← HEN.out]; exact HF2.out) MV3.out SS3.out MV4.out SS4.out (by omega) (by omega))
              go_wp2_with fail
              all_goals go_end0
              all_goals exact ⟨rfl, d, HL.out.2, HL.out.1, S1.out⟩
            · have f4 : ¬ (en : Int) < (b : Int) := by omega
              have HF2 : Hid (fn d = rot (fn d) s m en) := (rot_none _ (.inl (by omega))).symm
              have HHV := Lib.hid (HCUT.out.halves HS1.out HS2.out HX.out)
              rw [← HEN.out, ← HF2.out] at HHV
              have MV3 := Lib.hid (Moved.refl (fn d) a mid)
              have SS3 : Hid (Srt k (fn d) a mid) := (show s = mid by omega) ▸ HHV.out.1
              have MV4 := Lib.hid (Moved.refl (fn d) mid b)
              have SS4 : Hid (Srt k (fn d) mid b) := Srt.out ((show en = mid by omega) ▸ HHV.out.2.2.2.2.1) fun p q1 q2 => MV3.out.out p (.inr (by omega))
              have HL := Lib.hid (HCUT.out.law HS1.out HS2.out (by rw [← HEN.out]; exact HF2.out) MV3.out SS3.out MV4.out SS4.out (by omega) (by omega))
              go_wp2_with fail
              all_goals go_end0
              all_goals exact ⟨rfl, d, HL.out.2, HL.out.1, S1.out⟩
          · have f3 : ¬ (a : Int) < (s : Int) := by omega
            by_cases q4 : en < b
            · have f4 : (en : Int) < (b : Int) := by omega
              have HF2 : Hid (fn d = rot (fn d) s m en) := (rot_none _ (.inl (by omega))).symm
              have HHV := Lib.hid (HCUT.out.halves HS1.out HS2.out HX.out)
              rw [← HEN.out, ← HF2.out] at HHV
              have MV3 := Lib.hid (Moved.refl (fn d) a mid)
              have SS3 : Hid (Srt k (fn d) a mid) := (show s = mid by omega) ▸ HHV.out.1
              have MV4 := Lib.hid (Moved.refl (fn d) mid b)
              have SS4 : Hid (Srt k (fn d) mid b) := Srt.out ((show en = mid by omega) ▸ HHV.out.2.2.2.2.1) fun p q1 q2 => MV3.out.out p (.inr (by omega))
              have HL := Lib.hid (HCUT.out.law HS1.out HS2.out (by rw [← HEN.out]; exact HF2.out) MV3.out SS3.out MV4.out SS4.out (by omega) (by omega))
              go_wp2_with fail
              all_goals go_end0
              all_goals exact ⟨rfl, d, HL.out.2, HL.out.1, S1.out⟩
            · have f4 : ¬ (en : Int) < (b : Int) := by omega
              have HF2 : Hid (fn d = rot (fn d) s m en) := (rot_none _ (.inl (by omega))).symm
              have HHV := Lib.hid (HCUT.out.halves HS1.out HS2.out HX.out)
              rw [← HEN.out, ← HF2.out] at HHV
              have MV3 := Lib.hid (Moved.refl (fn d) a mid)
              have SS3 : Hid (Srt k (fn d) a mid) := (show s = mid by omega) ▸ HHV.out.1
              have MV4 := Lib.hid (Moved.refl (fn d) mid b)
              have SS4 : Hid (Srt k (fn d) mid b) := Srt.out ((show en = mid by omega) ▸ HHV.out.2.2.2.2.1) fun p q1 q2 => MV3.out.out p (.inr (by omega))
              have HL := Lib.hid (HCUT.out.law HS1.out HS2.out (by rw [← HEN.out]; exact HF2.out) MV3.out SS3.out MV4.out SS4.out (by omega) (by omega))
              go_wp2_with fail
              all_goals go_end0
              all_goals exact ⟨rfl, d, HL.out.2, HL.out.1, S1.out⟩
end Go.Proofs.Ytglpnpjjjihghaa

/-
  What slices.symMergeCmpFunc comes to, over this seat's translation: a contract for callers.
-/
namespace Go.Proofs.Ytglpnpjjjihghaa
open Go.RowKit Go.Lib Go.Sort Go.Shelf Go.Proofs.Ytglpnpjjjihghaa.StableLaw

set_option maxHeartbeats 16000000 in
set_option maxRecDepth 1000000 in
theorem sym_lo {w0 : World} {blk off n : Nat} {g : Nat} {cb : Array Value} {cf : Int → Int → Int} {k : Int → Int} {ok : Int → Prop} {d0 : Array Int} (T0 : Sett w0 blk off n g cb cf k ok d0) (cap a m b : Nat) (d : Array Int) (w : World) (h : Rw w0 blk off n ok d w) (h1 : a < m) (h2 : m < b) (h3 : b ≤ n) (hs1 : Srt k (fn d) a m) (hs2 : Srt k (fn d) m b) (hx : Crs (fn d) a m b) (hA : m ≠ a + 1) (hB : b ≠ m + 1) (mid : Nat) (hmid : mid = (a + b) / 2) (hm : m ≤ mid)
    (ih : ∀ (a' m' b' : Nat) (d' : Array Int) (w' : World), b' - a' < b - a → a' < m' → m' < b' → b' ≤ n → Rw w0 blk off n ok d' w' → Srt k (fn d') a' m' → Srt k (fn d') m' b' → Crs (fn d') a' m' b' → Calls Try.prog 136 #[.slice (some ⟨blk, off, none⟩) n cap, .int .i64 (a' : Nat), .int .i64 (m' : Nat), .int .i64 (b' : Nat), .func (.func g) #[] cb] w' (SymPost w0 blk off n k ok d' a' b')) :
    Calls Try.prog 136 #[.slice (some ⟨blk, off, none⟩) n cap, .int .i64 (a : Nat), .int .i64 (m : Nat), .int .i64 (b : Nat), .func (.func g) #[] cb] w (SymPost w0 blk off n k ok d a b) := by
  have eg := T0.enters
  have hn := T0.lt
  have mixed : Try.prog.follows .mixedOrders = true := by kernel_rfl
  have T := Lib.hid T0
  have HH := Lib.hid h
  have HS1 := Lib.hid hs1
  have HS2 := Lib.hid hs2
  have HX := Lib.hid hx
  clear T0 h hs1 hs2 hx
  have IH := Lib.hid ih
  clear ih
  have w1 : IntKind.i64.wrap ((m : Int) - (a : Int)) = (m : Int) - (a : Int) := by rw [IntKind.wrap_i64]; omega
  have n1 : ((m : Int) - (a : Int) == 1) = false := by rw [beq_eq_false_iff_ne]; omega
  have w2 : IntKind.i64.wrap ((b : Int) - (m : Int)) = (b : Int) - (m : Int) := by rw [IntKind.wrap_i64]; omega
  have n2 : ((b : Int) - (m : Int) == 1) = false := by rw [beq_eq_false_iff_ne]; omega
  have hmz : ((a : Int) + (b : Int)) / 2 = (mid : Int) := by omega
  have hm1 : a + b ≤ 2 * mid + 1 := by omega
  have hm2 : 2 * mid ≤ a + b := by omega
  clear hmid
  have hmm : ¬ (mid : Int) < (m : Int) := by omega
  go_enter Try.func136, Try.ntmps136
  go_wp2_with fail
  go_loopg [20, 21] (b - a) (fun kx s t wr => ∃ (i j : Nat), s = .int .i64 i ∧ t = .int .i64 j ∧ a ≤ i ∧ i ≤ j ∧ j ≤ m ∧ j - i ≤ kx ∧ Hid (Rw w0 blk off n ok d wr) ∧ Hid (Srch k (fn d) (mid + m) (a) (m) i j))
  case atStart => exact ⟨a, m, by first | rfl | (congr 1; omega), rfl, Nat.le_refl _, by omega, Nat.le_refl _, by omega, HH, Srch.start _ _ (by omega)⟩
  case round =>
    clear HH
    obtain ⟨s, r, rfl, rfl, hs0, hsr, hr0, hkx, S1, HP⟩ := hrel
    by_cases hlt : s < r
    · have hltz : (s : Int) < (r : Int) := by omega
      obtain ⟨c, hc0⟩ : ∃ q, q = (s + r) / 2 := ⟨_, rfl⟩
      have hcz : ((s : Int) + (r : Int)) / 2 = (c : Int) := by omega
      have hci : s ≤ c := by omega
      have hcj : c < r := by omega
      clear hc0
      obtain ⟨pcx, hpc⟩ : ∃ z9, z9 = mid + m - 1 - c := ⟨_, rfl⟩
      have hpz : (mid : Int) + (m : Int) - 1 - (c : Int) = (pcx : Int) := by omega
      have hp1 : pcx < b := by omega
      have hp2 : m ≤ pcx := by omega
      by_cases hlv : k (fn d pcx) < k (fn d c)
      · have HP2 := Lib.hid (HP.out.left hci hcj (hpc ▸ .inl hlv))
        clear hpc
        have HLV := Lib.hid hlv
        clear HP hlv
        go_wp2_with fail
        obtain ⟨iN, hiN⟩ : ∃ z9, z9 = pcx := ⟨_, rfl⟩
        obtain ⟨jN, hjN⟩ : ∃ z9, z9 = c := ⟨_, rfl⟩
        have ea : ((pcx : Int)).toNat = iN := by omega
        have pa : (0 : Int) ≤ (pcx : Int) := by omega
        have ba : (pcx : Int) < (n : Int) := by omega
        have ra : IntKind.i64.wrap ((pcx : Int)) = (pcx : Int) := by rw [IntKind.wrap_i64]; omega
        have ec : ((c : Int)).toNat = jN := by omega
        have pc : (0 : Int) ≤ (c : Int) := by omega
        have bc : (c : Int) < (n : Int) := by omega
        have rc : IntKind.i64.wrap ((c : Int)) = (c : Int) := by rw [IntKind.wrap_i64]; omega
        obtain ⟨x, hx⟩ : ∃ x, x = fn d (pcx) := ⟨_, rfl⟩
        obtain ⟨y, hy⟩ : ∃ x, x = fn d (c) := ⟨_, rfl⟩
        have la := S1.out.cl T.out (pcx) (by omega)
        have lb := S1.out.cl T.out (c) (by omega)
        rw [← hx, ← hiN] at la
        rw [← hy, ← hjN] at lb
        have hc := S1.out.cmp T.out (pcx) (c) (by omega) (by omega)
        rw [← hx, ← hy] at hc
        have hv : cf x y < 0 := by rw [hx, hy]; exact (T.out.neg _ _ (S1.out.ok _ (by omega)) (S1.out.ok _ (by omega))).2 HLV.out
        have hd : decide (cf x y < 0) = true := decide_eq_true hv
        clear hx hy hiN hjN
        go_wp2_with fail
        go_quiet_grown (first | (go_at_fn g; refine Calls.grown_of (hc _ _)))
        have S2 := Lib.hid (S1.out.grown nq osq)
        clear la lb hc S1
        generalize grow (wr.drewN nq) osq = w2 at S2 ⊢
        clear nq osq ea ec pa pc ba bc ra rc hv hd
        go_wp2
        go_roundg (c - s)
        case measure => omega
        case rel => exact ⟨s, c, rfl, rfl, hs0, by omega, by omega, Nat.le_refl _, S2, HP2⟩
      · have HP2 := Lib.hid (HP.out.right hci hcj (hpc ▸ L.of_le hlv (HX.out c pcx (by omega) (by omega) (by omega) (by omega))))
        clear hpc
        have HLV := Lib.hid hlv
        clear HP hlv
        go_wp2_with fail
        obtain ⟨iN, hiN⟩ : ∃ z9, z9 = pcx := ⟨_, rfl⟩
        obtain ⟨jN, hjN⟩ : ∃ z9, z9 = c := ⟨_, rfl⟩
        have ea : ((pcx : Int)).toNat = iN := by omega
        have pa : (0 : Int) ≤ (pcx : Int) := by omega
        have ba : (pcx : Int) < (n : Int) := by omega
        have ra : IntKind.i64.wrap ((pcx : Int)) = (pcx : Int) := by rw [IntKind.wrap_i64]; omega
        have ec : ((c : Int)).toNat = jN := by omega
        have pc : (0 : Int) ≤ (c : Int) := by omega
        have bc : (c : Int) < (n : Int) := by omega
        have rc : IntKind.i64.wrap ((c : Int)) = (c : Int) := by rw [IntKind.wrap_i64]; omega
        obtain ⟨x, hx⟩ : ∃ x, x = fn d (pcx) := ⟨_, rfl⟩
        obtain ⟨y, hy⟩ : ∃ x, x = fn d (c) := ⟨_, rfl⟩
        have la := S1.out.cl T.out (pcx) (by omega)
        have lb := S1.out.cl T.out (c) (by omega)
        rw [← hx, ← hiN] at la
        rw [← hy, ← hjN] at lb
        have hc := S1.out.cmp T.out (pcx) (c) (by omega) (by omega)
        rw [← hx, ← hy] at hc
        have hv : ¬ cf x y < 0 := by
          intro h9
          rw [hx, hy] at h9
          have h8 := (T.out.neg _ _ (S1.out.ok _ (by omega)) (S1.out.ok _ (by omega))).1 h9
          have h7 := HLV.out
          omega
        have hd : decide (cf x y < 0) = false := decide_eq_false hv
        clear hx hy hiN hjN
        go_wp2_with fail
        go_quiet_grown (first | (go_at_fn g; refine Calls.grown_of (hc _ _)))
        have S2 := Lib.hid (S1.out.grown nq osq)
        clear la lb hc S1
        generalize grow (wr.drewN nq) osq = w2 at S2 ⊢
        clear nq osq ea ec pa pc ba bc ra rc hv hd
        go_wp2
        go_roundg (r - (c + 1))
        case measure => omega
        case rel => exact ⟨c + 1, r, by go_num, rfl, by omega, by omega, hr0, Nat.le_refl _, S2, HP2⟩
    · have hltz : ¬ (s : Int) < (r : Int) := by omega
      have HCUT : Hid (Cut k (fn d) a m b mid s) := HP.out.cut_lo hlt hm (by omega)
      clear HP
      obtain ⟨en, hen⟩ : ∃ q, q = mid + m - s := ⟨_, rfl⟩
      have hez : (mid : Int) + (m : Int) - (s : Int) = (en : Int) := by omega
      have HEN := Lib.hid hen
      have hen1 : en + s ≤ mid + m := by omega
      have hen2 : mid + m ≤ en + s := by omega
      clear hen
      by_cases q1 : s < m
      · have f1 : (s : Int) < (m : Int) := by omega
        have f5 : (mid : Int) < (en : Int) := by omega
        by_cases q2 : s < mid
        · have f2 : (s : Int) < (mid : Int) := by omega
          have f6 : (m : Int) < (en : Int) := by omega
          by_cases q3 : a < s
          · have f3 : (a : Int) < (s : Int) := by omega
            by_cases q4 : en < b
            · have f4 : (en : Int) < (b : Int) := by omega
              have HR := Lib.hid (rotate_rw S1.out T.out (.func (.func g) #[] cb) cap s m en (by omega) (by omega) (by omega))
              go_wp2_with fail
              refine HR.out.mono ?_
              rintro e w2 ⟨rfl, d2, hf2, R2⟩
              have HF2 := Lib.hid hf2
              have S2 := Lib.hid R2
              clear hf2 R2 HR
              have HHV := Lib.hid (HCUT.out.halves HS1.out HS2.out HX.out)
              rw [← HEN.out, ← HF2.out] at HHV
              have HI := Lib.hid (IH.out a s mid d2 w2 (by omega) (by omega) (by omega) (by omega) S2.out HHV.out.1 HHV.out.2.1 HHV.out.2.2.1)
              go_wp2_with fail
              refine HI.out.mono ?_
              rintro e w3 ⟨rfl, d3, mv3, s3, R3⟩
              have MV3 := Lib.hid mv3
              have SS3 := Lib.hid s3
              have S3 := Lib.hid R3
              clear mv3 s3 R3 HI
              have HI2 := Lib.hid (IH.out mid en b d3 w3 (by omega) (by omega) (by omega) (by omega) S3.out (Srt.out HHV.out.2.2.2.1 fun p q1 q2 => MV3.out.out p (.inr q1)) (Srt.out HHV.out.2.2.2.2.1 fun p q1 q2 => MV3.out.out p (.inr (by omega))) (Crs.out HHV.out.2.2.2.2.2 fun p q1 q2 => MV3.out.out p (.inr q1)))
              go_wp2_with fail
              refine HI2.out.mono ?_
              rintro e w4 ⟨rfl, d4, mv4, s4, R4⟩
              have MV4 := Lib.hid mv4
              have SS4 := Lib.hid s4
              have S4 := Lib.hid R4
              clear mv4 s4 R4 HI2
              have HL := Lib.hid (HCUT.out.law HS1.out HS2.out (by rw [← HEN.out]; exact HF2.out) MV3.out SS3.out MV4.out SS4.out (by omega) (by omega))
              go_wp2_with fail
              all_goals go_end0
              all_goals exact ⟨rfl, d4, HL.out.2, HL.out.1, S4.out⟩
            · have f4 : ¬ (en : Int) < (b : Int) := by omega
              have HR := Lib.hid (rotate_rw S1.out T.out (.func (.func g) #[] cb) cap s m en (by omega) (by omega) (by omega))
              go_wp2_with fail
              refine HR.out.mono ?_
              rintro e w2 ⟨rfl, d2, hf2, R2⟩
              have HF2 := Lib.hid hf2
              have S2 := Lib.hid R2
              clear hf2 R2 HR
              have HHV := Lib.hid (HCUT.out.halves HS1.out HS2.out HX.out)
              rw [← HEN.out, ← HF2.out] at HHV
              have HI := Lib.hid (IH.out a s mid d2 w2 (by omega) (by omega) (by omega) (by omega) S2.out HHV.out.1 HHV.out.2.1 HHV.out.2.2.1)
              go_wp2_with fail
              refine HI.out.mono ?_
              rintro e w3 ⟨rfl, d3, mv3, s3, R3⟩
              have MV3 := Lib.hid mv3
              have SS3 := Lib.hid s3
              have S3 := Lib.hid R3
              clear mv3 s3 R3 HI
              have MV4 := Lib.hid (Moved.refl (fn d3) mid b)
              have SS4 : Hid (Srt k (fn d3) mid b) := Srt.out ((show en = b by omega) ▸ HHV.out.2.2.2.1) fun p q1 q2 => MV3.out.out p (.inr (by omega))
              have HL := Lib.hid (HCUT.out.law HS1.out HS2.out (by rw [← HEN.out]; exact HF2.out) MV3.out SS3.out MV4.out SS4.out (by omega) (by omega))
              go_wp2_with fail
              all_goals go_end0
              all_goals exact ⟨rfl, d3, HL.out.2, HL.out.1, S3.out⟩
          · have f3 : ¬ (a : Int) < (s : Int) := by omega
            by_cases q4 : en < b
            · have f4 : (en : Int) < (b : Int) := by omega
              have HR := Lib.hid (rotate_rw S1.out T.out (.func (.func g) #[] cb) cap s m en (by omega) (by omega) (by omega))
              go_wp2_with fail
              refine HR.out.mono ?_
              rintro e w2 ⟨rfl, d2, hf2, R2⟩
              have HF2 := Lib.hid hf2
              have S2 := Lib.hid R2
              clear hf2 R2 HR
              have HHV := Lib.hid (HCUT.out.halves HS1.out HS2.out HX.out)
              rw [← HEN.out, ← HF2.out] at HHV
              have MV3 := Lib.hid (Moved.refl (fn d2) a mid)
              have SS3 : Hid (Srt k (fn d2) a mid) := (show s = a by omega) ▸ HHV.out.2.1
              have HI2 := Lib.hid (IH.out mid en b d2 w2 (by omega) (by omega) (by omega) (by omega) S2.out (Srt.out HHV.out.2.2.2.1 fun p q1 q2 => MV3.out.out p (.inr q1)) (Srt.out HHV.out.2.2.2.2.1 fun p q1 q2 => MV3.out.out p (.inr (by omega))) (Crs.out HHV.out.2.2.2.2.2 fun p q1 q2 => MV3.out.out p (.inr q1)))
              go_wp2_with fail
              refine HI2.out.mono ?_
              rintro e w4 ⟨rfl, d4, mv4, s4, R4⟩
              have MV4 := Lib.hid mv4
              have SS4 := Lib.hid s4
              have S4 := Lib.hid R4
              clear mv4 s4 R4 HI2
              have HL := Lib.hid (HCUT.out.law HS1.out HS2.out (by rw [← HEN.out]; exact HF2.out) MV3.out SS3.out MV4.out SS4.out (by omega) (by omega))
              go_wp2_with fail
              all_goals go_end0
              all_goals exact ⟨rfl, d4, HL.out.2, HL.out.1, S4.out⟩
            · have f4 : ¬ (en : Int) < (b : Int) := by omega
              have HR := Lib.hid (rotate_rw S1.out T.out (.func (.func g) #[] cb) cap s m en (by omega) (by omega) (by omega))
              go_wp2_with fail
              refine HR.out.mono ?_
              rintro e w2 ⟨rfl, d2, hf2, R2⟩
              have HF2 := Lib.hid hf2
              have S2 := Lib.hid R2
              clear hf2 R2 HR
              have HHV := Lib.hid (HCUT.out.halves HS1.out HS2.out HX.out)
              rw [← HEN.out, ← HF2.out] at HHV
              have MV3 := Lib.hid (Moved.refl (fn d2) a mid)
              have SS3 : Hid (Srt k (fn d2) a mid) := (show s = a by omega) ▸ HHV.out.2.1
              have MV4 := Lib.hid (Moved.refl (fn d2) mid b)
              have SS4 : Hid (Srt k (fn d2) mid b) := Srt.out ((show en = b by omega) ▸ HHV.out.2.2.2.1) fun p q1 q2 => MV3.out.out p (.inr (by omega))
              have HL := Lib.hid (HCUT.out.law HS1.out HS2.out (by rw [← HEN.out]; exact HF2.out) MV3.out SS3.out MV4.out SS4.out (by omega) (by omega))
              go_wp2_with fail
              all_goals go_end0
              all_goals exact ⟨rfl, d2, HL.out.2, HL.out.1, S2.out⟩
        · have f2 : ¬ (s : Int) < (mid : Int) := by omega
          have f6 : ¬ (m : Int) < (en : Int) := by omega
          by_cases q3 : a < s
          · have f3 : (a : Int) < (s : Int) := by omega
            by_cases q4 : en < b
            · have f4 : (en : Int) < (b : Int) := by omega
              have HF2 : Hid (fn d = rot (fn d) s m en) := (rot_none _ (.inr (by omega))).symm
              have HHV := Lib.hid (HCUT.out.halves HS1.out HS2.out HX.out)
              rw [← HEN.out, ← HF2.out] at HHV
              have MV3 := Lib.hid (Moved.refl (fn d) a mid)
              have SS3 : Hid (Srt k (fn d) a mid) := (show s = mid by omega) ▸ HHV.out.1
              have HI2 := Lib.hid (IH.out mid en b d wr (by omega) (by omega) (by omega) (by omega) S1.out (Srt.out HHV.out.2.2.2.1 fun p q1 q2 => MV3.out.out p (.inr q1)) (Srt.out HHV.out.2.2.2.2.1 fun p q1 q2 => MV3.out.out p (.inr (by omega))) (Crs.out HHV.out.2.2.2.2.2 fun p q1 q2 => MV3.out.out p (.inr q1)))
              go_wp2_with fail
              refine HI2.out.mono ?_
              rintro e w4 ⟨rfl, d4, mv4, s4, R4⟩
              have MV4 := Lib.hid mv4
              have SS4 := Lib.hid s4
              have S4 := Lib.hid R4
              clear mv4 s4 R4 HI2
              have HL := Lib.hid (HCUT.out.law HS1.out HS2.out (by rw [← HEN.out]; exact HF2.out) MV3.out SS3.out MV4.out SS4.out (by omega) (by omega))
              go_wp2_with fail
              all_goals go_end0
              all_goals exact ⟨rfl, d4, HL.out.2, HL.out.1, S4.out⟩
            · have f4 : ¬ (en : Int) < (b : Int) := by omega
              have HF2 : Hid (fn d = rot (fn d) s m en) := (rot_none _ (.inr (by omega))).symm
              have HHV := Lib.hid (HCUT.out.halves HS1.out HS2.out HX.out)
              rw [← HEN.out, ← HF2.out] at HHV
              have MV3 := Lib.hid (Moved.refl (fn d) a mid)
              have SS3 : Hid (Srt k (fn d) a mid) := (show s = mid by omega) ▸ HHV.out.1
              have MV4 := Lib.hid (Moved.refl (fn d) mid b)
              have SS4 : Hid (Srt k (fn d) mid b) := Srt.out ((show en = b by omega) ▸ HHV.out.2.2.2.1) fun p q1 q2 => MV3.out.out p (.inr (by omega))
              have HL := Lib.hid (HCUT.out.law HS1.out HS2.out (by rw [← HEN.out]; exact HF2.out) MV3.out SS3.out MV4.out SS4.out (by omega) (by omega))
              go_wp2_with fail
              all_goals go_end0
              all_goals exact ⟨rfl, d, HL.out.2, HL.out.1, S1.out⟩
          · have f3 : ¬ (a : Int) < (s : Int) := by omega
            by_cases q4 : en < b
            · have f4 : (en : Int) < (b : Int) := by omega
              have HF2 : Hid (fn d = rot (fn d) s m en) := (rot_none _ (.inr (by omega))).symm
              have HHV := Lib.hid (HCUT.out.halves HS1.out HS2.out HX.out)
              rw [← HEN.out, ← HF2.out] at HHV
              have MV3 := Lib.hid (Moved.refl (fn d) a mid)
              have SS3 : Hid (Srt k (fn d) a mid) := (show s = mid by omega) ▸ HHV.out.1
              have HI2 := Lib.hid (IH.out mid en b d wr (by omega) (by omega) (by omega) (by omega) S1.out (Srt.out HHV.out.2.2.2.1 fun p q1 q2 => MV3.out.out p (.inr q1)) (Srt.out HHV.out.2.2.2.2.1 fun p q1 q2 => MV3.out.out p (.inr (by omega))) (Crs.out HHV.out.2.2.2.2.2 fun p q1 q2 => MV3.out.out p (.inr q1)))
              go_wp2_with fail
              refine HI2.out.mono ?_
              rintro e w4 ⟨rfl, d4, mv4, s4, R4⟩
              have MV4 := Lib.hid mv4
              have SS4 := Lib.hid s4
              have S4 := Lib.hid R4
              clear mv4 s4 R4 HI2
              have HL := Lib.hid (HCUT.out.law HS1.out HS2.out (by rw [← HEN.out]; exact HF2.out) MV3.out SS3.out MV4.out SS4.out (by omega) (by omega))
              go_wp2_with fail
              all_goals go_end0
              all_goals exact ⟨rfl, d4, HL.out.2, HL.out.1, S4.out⟩
            · have f4 : ¬ (en : Int) < (b : Int) := by omega
              have HF2 : Hid (fn d = rot (fn d) s m en) := (rot_none _ (.inr (by omega))).symm
              have HHV := Lib.hid (HCUT.out.halves HS1.out HS2.out HX.out)
              rw [← HEN.out, ← HF2.out] at HHV
              have MV3 := Lib.hid (Moved.refl (fn d) a mid)
              have SS3 : Hid (Srt k (fn d) a mid) := (show s = mid by omega) ▸ HHV.out.1
              have MV4 := Lib.hid (Moved.refl (fn d) mid b)
              have SS4 : Hid (Srt k (fn d) mid b) := Srt.out ((show en = b by omega) ▸ HHV.out.2.2.2.1) fun p q1 q2 => MV3.out.out p (.inr (by omega))
              have HL := Lib.hid (HCUT.out.law HS1.out HS2.out (by rw [← HEN.out]; exact HF2.out) MV3.out SS3.out MV4.out SS4.out (by omega) (by omega))
              go_wp2_with fail
              all_goals go_end0
              all_goals exact ⟨rfl, d, HL.out.2, HL.out.1, S1.out⟩
      · have f1 : ¬ (s : Int) < (m : Int) := by omega
        have f5 : ¬ (mid : Int) < (en : Int) := by omega
        by_cases q2 : s < mid
        · have f2 : (s : Int) < (mid : Int) := by omega
          have f6 : (m : Int) < (en : Int) := by omega
          by_cases q3 : a < s
          · have f3 : (a : Int) < (s : Int) := by omega
            by_cases q4 : en < b
            · have f4 : (en : Int) < (b : Int) := by omega
              have HF2 : Hid (fn d = rot (fn d) s m en) := (rot_none _ (.inl (by omega))).symm
              have HHV := Lib.hid (HCUT.out.halves HS1.out HS2.out HX.out)
              rw [← HEN.out, ← HF2.out] at HHV
              have HI := Lib.hid (IH.out a s mid d wr (by omega) (by omega) (by omega) (by omega) S1.out HHV.out.1 HHV.out.2.1 HHV.out.2.2.1)
              go_wp2_with fail
              refine HI.out.mono ?_
              rintro e w3 ⟨rfl, d3, mv3, s3, R3⟩
              have MV3 := Lib.hid mv3
              have SS3 := Lib.hid s3
              have S3 := Lib.hid R3
              clear mv3 s3 R3 HI
              have MV4 := Lib.hid (Moved.refl (fn d3) mid b)
              have SS4 : Hid (Srt k (fn d3) mid b) := Srt.out ((show en = mid by omega) ▸ HHV.out.2.2.2.2.1) fun p q1 q2 => MV3.out.out p (.inr (by omega))
              have HL := Lib.hid (HCUT.out.law HS1.out HS2.out (by rw [← HEN.out]; exact HF2.out) MV3.out SS3.out MV4.out SS4.out (by omega) (by omega))
              go_wp2_with fail
              all_goals go_end0
              all_goals exact ⟨rfl, d3, HL.out.2, HL.out.1, S3.out⟩
            · have f4 : ¬ (en : Int) < (b : Int) := by omega
              have HF2 : Hid (fn d = rot (fn d) s m en) := (rot_none _ (.inl (by omega))).symm
              have HHV := Lib.hid (HCUT.out.halves HS1.out HS2.out HX.out)
              rw [← HEN.out, ← HF2.out] at HHV
              have HI := Lib.hid (IH.out a s mid d wr (by omega) (by omega) (by omega) (by omega) S1.out HHV.out.1 HHV.out.2.1 HHV.out.2.2.1)
              go_wp2_with fail
              refine HI.out.mono ?_
              rintro e w3 ⟨rfl, d3, mv3, s3, R3⟩
              have MV3 := Lib.hid mv3
              have SS3 := Lib.hid s3
              have S3 := Lib.hid R3
              clear mv3 s3 R3 HI
              have MV4 := Lib.hid (Moved.refl (fn d3) mid b)
              have SS4 : Hid (Srt k (fn d3) mid b) := Srt.out ((show en = mid by omega) ▸ HHV.out.2.2.2.2.1) fun p q1 q2 => MV3.out.out p (.inr (by omega))
              have HL := Lib.hid (HCUT.out.law HS1.out HS2.out (by rw [← HEN.out]; exact HF2.out) MV3.out SS3.out MV4.out SS4.out (by omega) (by omega))
              go_wp2_with fail
              all_goals go_end0
              all_goals exact ⟨rfl, d3, HL.out.2, HL.out.1, S3.out⟩
          · have f3 : ¬ (a : Int) < (s : Int) := by omega
            by_cases q4 : en < b
            · have f4 : (en : Int) < (b : Int) := by omega
              have HF2 : Hid (fn d = rot (fn d) s m en) := (rot_none _ (.inl (by omega))).symm
              have HHV := Lib.hid (HCUT.out.halves HS1.out HS2.out HX.out)
              rw [← HEN.out, ← HF2.out] at HHV
              have MV3 := Lib.hid (Moved.refl (fn d) a mid)
              have SS3 : Hid (Srt k (fn d) a mid) := (show s = a by omega) ▸ HHV.out.2.1
              have MV4 := Lib.hid (Moved.refl (fn d) mid b)
              have SS4 : Hid (Srt k (fn d) mid b) := Srt.out ((show en = mid by omega) ▸ HHV.out.2.2.2.2.1) fun p q1 q2 => MV3.out.out p (.inr (by omega))
              have HL := Lib.hid (HCUT.out.law HS1.out HS2.out (by rw [← HEN.out]; exact HF2.out) MV3.out SS3.out MV4.out SS4.out (by omega) (by omega))
              go_wp2_with fail
              all_goals go_end0
              all_goals exact ⟨rfl, d, HL.out.2, HL.out.1, S1.out⟩
            · have f4 : ¬ (en : Int) < (b : Int) := by omega
              have HF2 : Hid (fn d = rot (fn d) s m en) := (rot_none _ (.inl (by omega))).symm
              have HHV := Lib.hid (HCUT.out.halves HS1.out HS2.out HX.out)
              rw [← HEN.out, ← HF2.out] at HHV
              have MV3 := Lib.hid (Moved.refl (fn d) a mid)
              have SS3 : Hid (Srt k (fn d) a mid) := (show s = a by omega) ▸ HHV.out.2.1
              have MV4 := Lib.hid (Moved.refl (fn d) mid b)
              have SS4 : Hid (Srt k (fn d) mid b) := Srt.out ((show en = mid by omega) ▸ HHV.out.2.2.2.2.1) fun p q1 q2 => MV3.out.out p (.inr (by omega))
              have HL := Lib.hid (HCUT.out.law HS1.out HS2.out (by rw [← HEN.out]; exact HF2.out) MV3.out SS3.out MV4.out SS4.out (by omega) (by omega))
              go_wp2_with fail
              all_goals go_end0
              all_goals exact ⟨rfl, d, HL.out.2, HL.out.1, S1.out⟩
        · have f2 : ¬ (s : Int) < (mid : Int) := by omega
          have f6 : ¬ (m : Int) < (en : Int) := by omega
          by_cases q3 : a < s
          · have f3 : (a : Int) < (s : Int) := by omega
            by_cases q4 : en < b
            · have f4 : (en : Int) < (b : Int) := by omega
              have HF2 : Hid (fn d = rot (fn d) s m en) := (rot_none _ (.inl (by omega))).symm
              have HHV := Lib.hid (HCUT.out.halves HS1.out HS2.out HX.out)
              rw [← HEN.out, ← HF2.out] at HHV
              have MV3 := Lib.hid (Moved.refl (fn d) a mid)
              have SS3 : Hid (Srt k (fn d) a mid) := (show s = mid by omega) ▸ HHV.out.1
              have MV4 := Lib.hid (Moved.refl (fn d) mid b)
              have SS4 : Hid (Srt k (fn d) mid b) := Srt.out ((show en = mid by omega) ▸ HHV.out.2.2.2.2.1) fun p q1 q2 => MV3.out.out p (.inr (by omega))
              have HL := Lib.hid (HCUT.out.law HS1.out HS2.out (by rw [← HEN.out]; exact HF2.out) MV3.out SS3.out MV4.out SS4.out (by omega) (by omega))
              go_wp2_with fail
              all_goals go_end0
              all_goals exact ⟨rfl, d, HL.out.2, HL.out.1, S1.out⟩
            · have f4 : ¬ (en : Int) < (b : Int) := by omega
              have HF2 : Hid (fn d = rot (fn d) s m en) := (rot_none _ (.inl (by omega))).symm
              have HHV := Lib.hid (HCUT.out.halves HS1.out HS2.out HX.out)
              rw [← HEN.out, ← HF2.out] at HHV
              have MV3 := Lib.hid (Moved.refl (fn d) a mid)
              have SS3 : Hid (Srt k (fn d) a mid) := (show s = mid by omega) ▸ HHV.out.1
              have MV4 := Lib.hid (Moved.refl (fn d) mid b)
              have SS4 : Hid (Srt k (fn d) mid b) := Srt.out ((show en = mid by omega) ▸ HHV.out.2.2.2.2.1) fun p q1 q2 => MV3.out.out p (.inr (by omega))
              have HL := Lib.hid (HCUT.out.law HS1.out HS2.out (by rw [← HEN.out]; exact HF2.out) MV3.out SS3.out MV4.out SS4.out (by omega) (by omega))
              go_wp2_with fail
              all_goals go_end0
              all_goals exact ⟨rfl, d, HL.out.2, HL.out.1, S1.out⟩
          · have f3 : ¬ (a : Int) < (s : Int) := by omega
            by_cases q4 : en < b
            · have f4 : (en : Int) < (b : Int) := by omega
              have HF2 : Hid (fn d = rot (fn d) s m en) := (rot_none _ (.inl (by omega))).symm
              have HHV := Lib.hid (HCUT.out.halves HS1.out HS2.out HX.out)
              rw [← HEN.out, ← HF2.out] at HHV
              have MV3 := Lib.hid (Moved.refl (fn d) a mid)
              have SS3 : Hid (Srt k (fn d) a mid) := (show s = mid by omega) ▸ HHV.out.1
              have MV4 := Lib.hid (Moved.refl (fn d) mid b)
              have SS4 : Hid (Srt k (fn d) mid b) := Srt.out ((show en = mid by omega) ▸ HHV.out.2.2.2.2.1) fun p q1 q2 => MV3.out.out p (.inr (by omega))
              have HL := Lib.hid (HCUT.out.law HS1.out HS2.out (by rw [← HEN.out]; exact HF2.out) MV3.out SS3.out MV4.out SS4.out (by omega) (by omega))
              go_wp2_with fail
              all_goals go_end0
              all_goals exact ⟨rfl, d, HL.out.2, HL.out.1, S1.out⟩
            · have f4 : ¬ (en : Int) < (b : Int) := by omega
              have HF2 : Hid (fn d = rot (fn d) s m en) := (rot_none _ (.inl (by omega))).symm
              have HHV := Lib.hid (HCUT.out.halves HS1.out HS2.out HX.out)
              rw [← HEN.out, ← HF2.out] at HHV
              have MV3 := Lib.hid (Moved.refl (fn d) a mid)
              have SS3 : Hid (Srt k (fn d) a mid) := (show s = mid by omega) ▸ HHV.out.1
              have MV4 := Lib.hid (Moved.refl (fn d) mid b)
              have SS4 : Hid (Srt k (fn d) mid b) := Srt.out ((show en = mid by omega) ▸ HHV.out.2.2.2.2.1) fun p q1 q2 => MV3.out.out p (.inr (by omega))
              have HL := Lib.hid (HCUT.out.law HS1.out HS2.out (by rw [← HEN.out]; exact HF2.out) MV3.out SS3.out MV4.out SS4.out (by omega) (by omega))
              go_wp2_with fail
              all_goals go_end0
              all_goals exact ⟨rfl, d, HL.out.2, HL.out.1, S1.out⟩
theorem symMerge_any {w0 : World} {blk off n : Nat} {g : Nat} {cb : Array Value} {cf : Int → Int → Int} {k : Int → Int} {ok : Int → Prop} {d0 : Array Int} (T : Sett w0 blk off n g cb cf k ok d0) (cap : Nat) : ∀ (N a m b : Nat) (d : Array Int) (w : World), b - a ≤ N → a < m → m < b → b ≤ n → Rw w0 blk off n ok d w → Srt k (fn d) a m → Srt k (fn d) m b → Crs (fn d) a m b →
    Calls Try.prog 136 #[.slice (some ⟨blk, off, none⟩) n cap, .int .i64 (a : Nat), .int .i64 (m : Nat), .int .i64 (b : Nat), .func (.func g) #[] cb] w (SymPost w0 blk off n k ok d a b)
  | 0, a, m, b, d, w, hN, h1, h2, _, _, _, _, _ => by omega
  | N + 1, a, m, b, d, w, hN, h1, h2, h3, h, hs1, hs2, hx => by
    by_cases hA : m = a + 1
    · exact sym_a T cap a m b d w h h1 h2 h3 hs1 hs2 hx hA
    · by_cases hB : b = m + 1
      · exact sym_b T cap a m b d w h h1 h2 h3 hs1 hs2 hx hA hB
      · by_cases hm : (a + b) / 2 < m
        · exact sym_hi T cap a m b d w h h1 h2 h3 hs1 hs2 hx hA hB _ rfl hm fun a' m' b' d' w' q1 q2 q3 q4 q5 q6 q7 q8 => symMerge_any T cap N a' m' b' d' w' (by omega) q2 q3 q4 q5 q6 q7 q8
        · exact sym_lo T cap a m b d w h h1 h2 h3 hs1 hs2 hx hA hB _ rfl (by omega) fun a' m' b' d' w' q1 q2 q3 q4 q5 q6 q7 q8 => symMerge_any T cap N a' m' b' d' w' (by omega) q2 q3 q4 q5 q6 q7 q8
end Go.Proofs.Ytglpnpjjjihghaa

/-
  What slices.stableCmpFunc and slices.SortStableFunc come to at numbers that stand in their own order, over this seat's translation: contracts for callers.
-/
namespace Go.Proofs.Ytglpnpjjjihghaa
open Go.RowKit Go.Lib Go.Sort Go.Shelf Go.Proofs.Ytglpnpjjjihghaa.StableLaw

def StbPost (w0 : World) (blk off n : Nat) (k : Int → Int) (ok : Int → Prop) (d : Array Int) : Ending → World → Prop := fun e w' => e = .returned (.tuple #[]) ∧ ∃ d' : Array Int, Moved (fn d) (fn d') 0 n ∧ Srt k (fn d') 0 n ∧ Rw w0 blk off n ok d' w'
set_option maxHeartbeats 16000000 in
set_option maxRecDepth 1000000 in
theorem stable_any {w0 : World} {blk off n : Nat} {g : Nat} {cb : Array Value} {cf : Int → Int → Int} {k : Int → Int} {ok : Int → Prop} {d0 : Array Int} (T0 : Sett w0 blk off n g cb cf k ok d0) (cap : Nat) (d : Array Int) (w : World) (h : Rw w0 blk off n ok d w) (hn1 : n ≤ 1000000) (h0 : ∀ p, p < n → fn d p = p) :
    Calls Try.prog 130 #[.slice (some ⟨blk, off, none⟩) n cap, .int .i64 (n : Nat), .func (.func g) #[] cb] w (StbPost w0 blk off n k ok d) := by
  have T := Lib.hid T0
  have HH := Lib.hid h
  have H0 := Lib.hid h0
  clear T0 h h0
  go_enter Try.func130, Try.ntmps130
  go_wp2_with fail
  go_loopg [7, 8] (n + 20) (fun kx s t wr => ∃ (a b : Nat) (dk : Array Int), s = .int .i64 a ∧ t = .int .i64 b ∧ b ≤ a + 20 ∧ a + 20 ≤ b ∧ a ≤ n ∧ n + 20 - a ≤ kx ∧ Hid (Rw w0 blk off n ok dk wr) ∧ Hid (Moved (fn d) (fn dk) 0 n ∧ ISt k n (fn dk) a))
  case atStart => exact ⟨0, 20, d, rfl, rfl, by omega, by omega, Nat.zero_le _, by omega, HH, Moved.refl _ _ _, ISt.start H0.out⟩
  case round =>
    clear HH H0
    obtain ⟨a, b, dk, rfl, rfl, hb1, hb2, han, hkx, S1, HI⟩ := hrel
    by_cases hlt : b ≤ n
    · have hltz : (b : Int) ≤ (n : Int) := by omega
      have HC := Lib.hid (insertion_any T.out cap a b dk wr S1.out (by omega) hlt (HI.out.2.rising hlt))
      go_wp2_with fail
      refine HC.out.mono ?_
      rintro e w2 ⟨rfl, d2, mv2, s2, R2⟩
      have HI2 : Hid (Moved (fn d) (fn d2) 0 n ∧ ISt k n (fn d2) b) := by
        have e : b = a + 20 := by omega
        subst e
        exact ⟨HI.out.1.trans (mv2.mono (Nat.zero_le _) hlt), HI.out.2.next hlt mv2 s2⟩
      have S2 := Lib.hid R2
      clear mv2 s2 R2 HC HI S1
      go_wp2_with fail
      go_roundg (n + 20 - b)
      case measure => omega
      case rel => exact ⟨b, b + 20, d2, rfl, by go_num, Nat.le_refl _, Nat.le_refl _, hlt, Nat.le_refl _, S2, HI2⟩
    · have hltz : ¬ (b : Int) ≤ (n : Int) := by omega
      have HC := Lib.hid (insertion_any T.out cap a n dk wr S1.out han (Nat.le_refl _) (HI.out.2.rising (Nat.le_refl _)))
      go_wp2_with fail
      refine HC.out.mono ?_
      rintro e w2 ⟨rfl, d2, mv2, s2, R2⟩
      have HI2 : Hid (Moved (fn d) (fn d2) 0 n ∧ BSt k n 20 (fn d2)) := ⟨HI.out.1.trans (mv2.mono (Nat.zero_le _) (Nat.le_refl _)), HI.out.2.last (by omega) mv2 s2⟩
      have S2 := Lib.hid R2
      clear mv2 s2 R2 HC HI S1 hltz hlt hb1 hb2 hkx
      go_wp2_with fail
      go_loopg [6, 7, 8, 9] n (fun kx s _ _ _ wr => ∃ (z : Nat) (dk : Array Int), s = .int .i64 z ∧ 20 ≤ z ∧ z ≤ 2 * n + 20 ∧ n - z ≤ kx ∧ Hid (Rw w0 blk off n ok dk wr) ∧ Hid (Moved (fn d) (fn dk) 0 n ∧ BSt k n z (fn dk)))
      case atStart => exact ⟨20, d2, rfl, by omega, by omega, by omega, S2, HI2⟩
      case round =>
        clear S2 HI2
        obtain ⟨z, dz, rfl, hz1, hz2, hkx, S1, HB⟩ := hrel
        by_cases hlt : z < n
        · have hltz : (z : Int) < (n : Int) := by omega
          obtain ⟨wo, rfl⟩ : ∃ wo : World, wo = wr := ⟨_, rfl⟩
          have HM0 : Hid (Moved (fn d) (fn dz) 0 n ∧ MSt k n z (fn dz) 0) := ⟨HB.out.1, HB.out.2.start⟩
          clear HB
          go_wp2_with fail
          go_loopg [7, 8] (n + 2 * z) (fun kx s t wr => ∃ (a b : Nat) (dk : Array Int), s = .int .i64 a ∧ t = .int .i64 b ∧ b ≤ a + 2 * z ∧ a + 2 * z ≤ b ∧ a ≤ n ∧ n + 2 * z - a ≤ kx ∧ Hid (Rw w0 blk off n ok dk wr) ∧ Hid (Moved (fn d) (fn dk) 0 n ∧ MSt k n z (fn dk) a))
          case atStart => exact ⟨0, 2 * z, dz, rfl, by first | rfl | go_num, by omega, by omega, Nat.zero_le _, by omega, S1, HM0⟩
          case round =>
            clear S1 HM0
            obtain ⟨a, b, dk, rfl, rfl, hb1, hb2, han, hkx, S1, HI⟩ := hrel
            by_cases hlt2 : b ≤ n
            · have hltz2 : (b : Int) ≤ (n : Int) := by omega
              have HR := Lib.hid (HI.out.2.runs (b := b) (by omega) hlt2 hb1 (by omega))
              have HC := Lib.hid (symMerge_any T.out cap (b - a) a (a + z) b dk wr (Nat.le_refl _) (by omega) (by omega) hlt2 S1.out HR.out.1 HR.out.2.1 HR.out.2.2)
              go_wp2_with fail
              refine HC.out.mono ?_
              rintro e w2 ⟨rfl, d2, mv2, s2, R2⟩
              have HI2 : Hid (Moved (fn d) (fn d2) 0 n ∧ MSt k n z (fn d2) b) := by
                have e : b = a + 2 * z := by omega
                subst e
                exact ⟨HI.out.1.trans (mv2.mono (Nat.zero_le _) hlt2), HI.out.2.next (by omega) hlt2 mv2 s2⟩
              have S2 := Lib.hid R2
              clear mv2 s2 R2 HC HI S1 HR
              go_wp2_with fail
              go_roundg (n + 2 * z - b)
              case measure => omega
              case rel => exact ⟨b, b + 2 * z, d2, rfl, by go_num, Nat.le_refl _, Nat.le_refl _, hlt2, Nat.le_refl _, S2, HI2⟩
            · have hltz2 : ¬ (b : Int) ≤ (n : Int) := by omega
              by_cases hm : a + z < n
              · have hmz : (a : Int) + (z : Int) < (n : Int) := by omega
                have HR := Lib.hid (HI.out.2.runs (b := n) (by omega) (Nat.le_refl _) (by omega) (by omega))
                have HC := Lib.hid (symMerge_any T.out cap (n - a) a (a + z) n dk wr (Nat.le_refl _) (by omega) hm (Nat.le_refl _) S1.out HR.out.1 HR.out.2.1 HR.out.2.2)
                go_wp2_with fail
                refine HC.out.mono ?_
                rintro e w2 ⟨rfl, d2, mv2, s2, R2⟩
                have HI2 : Hid (Moved (fn d) (fn d2) 0 n ∧ BSt k n (2 * z) (fn d2)) := ⟨HI.out.1.trans (mv2.mono (Nat.zero_le _) (Nat.le_refl _)), HI.out.2.last (by omega) (by omega) mv2 s2⟩
                have S2 := Lib.hid R2
                clear mv2 s2 R2 HC HI S1 HR
                go_wp2_with fail
                go_roundg (n - 2 * z)
                case measure => omega
                case rel => exact ⟨2 * z, d2, by first | rfl | go_num | (congr 1; omega), by omega, by omega, Nat.le_refl _, S2, HI2⟩
              · have hmz : ¬ (a : Int) + (z : Int) < (n : Int) := by omega
                have HI2 : Hid (Moved (fn d) (fn dk) 0 n ∧ BSt k n (2 * z) (fn dk)) := ⟨HI.out.1, HI.out.2.none (by omega) (by omega)⟩
                clear HI
                go_wp2_with fail
                go_roundg (n - 2 * z)
                case measure => omega
                case rel => exact ⟨2 * z, dk, by first | rfl | go_num | (congr 1; omega), by omega, by omega, Nat.le_refl _, S1, HI2⟩
        · have hltz : ¬ (z : Int) < (n : Int) := by omega
          go_wp2_with fail
          go_end0
          exact ⟨rfl, dz, HB.out.1, HB.out.2.done (by omega), S1.out⟩
set_option maxHeartbeats 1600000 in
theorem sortStable_any {w0 : World} {blk off n : Nat} {g : Nat} {cb : Array Value} {cf : Int → Int → Int} {k : Int → Int} {ok : Int → Prop} {d0 : Array Int} (T0 : Sett w0 blk off n g cb cf k ok d0) (cap : Nat) (d : Array Int) (w : World) (h : Rw w0 blk off n ok d w) (hn1 : n ≤ 1000000) (h0 : ∀ p, p < n → fn d p = p) :
    Calls Try.prog 119 #[.slice (some ⟨blk, off, none⟩) n cap, .func (.func g) #[] cb] w (StbPost w0 blk off n k ok d) := by
  have HC := Lib.hid (stable_any T0 cap d w h hn1 h0)
  clear T0 h h0
  go_enter Try.func119, Try.ntmps119
  go_wp2_with fail
  refine HC.out.mono ?_
  rintro e w2 ⟨rfl, hd⟩
  have HD := Lib.hid hd
  clear hd HC
  go_wp2_with fail
  go_end0
  exact ⟨rfl, HD.out⟩
end Go.Proofs.Ytglpnpjjjihghaa
