/-
  What slices.symMergeCmpFunc comes to, over this seat's translation: a contract for callers.
-/
import Derived.Test.YtblplkajgbbkdaaStb5
namespace Go.Proofs.Ytblplkajgbbkdaa
open Go.RowKit Go.Lib Go.Sort Go.Shelf Go.Proofs.Ytblplkajgbbkdaa.StableLaw

set_option maxHeartbeats 16000000 in
set_option maxRecDepth 1000000 in
theorem sym_lo {w0 : World} {blk off n : Nat} {g : Nat} {cb : Array Value} {cf : Int → Int → Int} {k : Int → Int} {ok : Int → Prop} {d0 : Array Int} (T0 : Sett w0 blk off n g cb cf k ok d0) (cap a m b : Nat) (d : Array Int) (w : World) (h : Rw w0 blk off n ok d w) (h1 : a < m) (h2 : m < b) (h3 : b ≤ n) (hs1 : Srt k (fn d) a m) (hs2 : Srt k (fn d) m b) (hx : Crs (fn d) a m b) (hA : m ≠ a + 1) (hB : b ≠ m + 1) (mid : Nat) (hmid : mid = (a + b) / 2) (hm : m ≤ mid)
    (ih : ∀ (a' m' b' : Nat) (d' : Array Int) (w' : World), b' - a' < b - a → a' < m' → m' < b' → b' ≤ n → Rw w0 blk off n ok d' w' → Srt k (fn d') a' m' → Srt k (fn d') m' b' → Crs (fn d') a' m' b' → Calls Try.prog 97 #[.slice (some ⟨blk, off, none⟩) n cap, .int .i64 (a' : Nat), .int .i64 (m' : Nat), .int .i64 (b' : Nat), .func (.func g) #[] cb] w' (SymPost w0 blk off n k ok d' a' b')) :
    Calls Try.prog 97 #[.slice (some ⟨blk, off, none⟩) n cap, .int .i64 (a : Nat), .int .i64 (m : Nat), .int .i64 (b : Nat), .func (.func g) #[] cb] w (SymPost w0 blk off n k ok d a b) := by
  have eg := T0.enters
  have hn := T0.lt
  have mixed : Try.prog.follows .mixedOrders = true := by kernel_rfl
  have T := Lib.hid T0
  have HH := Lib.hid h
  have HS1 := Lib.hid hs1
  have HS2 := Lib.hid hs2
  have HX := Lib.hid hx
  clear T0 h hs1 hs2 hx
  have IH := Lib.hid ih
  clear ih
  have w1 : IntKind.i64.wrap ((m : Int) - (a : Int)) = (m : Int) - (a : Int) := by rw [IntKind.wrap_i64]; omega
  have n1 : ((m : Int) - (a : Int) == 1) = false := by rw [beq_eq_false_iff_ne]; omega
  have w2 : IntKind.i64.wrap ((b : Int) - (m : Int)) = (b : Int) - (m : Int) := by rw [IntKind.wrap_i64]; omega
  have n2 : ((b : Int) - (m : Int) == 1) = false := by rw [beq_eq_false_iff_ne]; omega
  have hmz : ((a : Int) + (b : Int)) / 2 = (mid : Int) := by omega
  have hm1 : a + b ≤ 2 * mid + 1 := by omega
  have hm2 : 2 * mid ≤ a + b := by omega
  clear hmid
  have hmm : ¬ (mid : Int) < (m : Int) := by omega
  go_enter Try.func97, Try.ntmps97
  go_wp2_with fail
  go_loopg [20, 21] (b - a) (fun kx s t wr => ∃ (i j : Nat), s = .int .i64 i ∧ t = .int .i64 j ∧ a ≤ i ∧ i ≤ j ∧ j ≤ m ∧ j - i ≤ kx ∧ Hid (Rw w0 blk off n ok d wr) ∧ Hid (Srch k (fn d) (mid + m) (a) (m) i j))
  case atStart => exact ⟨a, m, by first | rfl | (congr 1; omega), rfl, Nat.le_refl _, by omega, Nat.le_refl _, by omega, HH, Srch.start _ _ (by omega)⟩
  case round =>
    clear HH
    obtain ⟨s, r, rfl, rfl, hs0, hsr, hr0, hkx, S1, HP⟩ := hrel
    by_cases hlt : s < r
    · have hltz : (s : Int) < (r : Int) := by omega
      obtain ⟨c, hc0⟩ : ∃ q, q = (s + r) / 2 := ⟨_, rfl⟩
      have hcz : ((s : Int) + (r : Int)) / 2 = (c : Int) := by omega
      have hci : s ≤ c := by omega
      have hcj : c < r := by omega
      clear hc0
      obtain ⟨pcx, hpc⟩ : ∃ z9, z9 = mid + m - 1 - c := ⟨_, rfl⟩
      have hpz : (mid : Int) + (m : Int) - 1 - (c : Int) = (pcx : Int) := by omega
      have hp1 : pcx < b := by omega
      have hp2 : m ≤ pcx := by omega
      by_cases hlv : k (fn d pcx) < k (fn d c)
      · have HP2 := Lib.hid (HP.out.left hci hcj (hpc ▸ .inl hlv))
        clear hpc
        have HLV := Lib.hid hlv
        clear HP hlv
        go_wp2_with fail
        obtain ⟨iN, hiN⟩ : ∃ z9, z9 = pcx := ⟨_, rfl⟩
        obtain ⟨jN, hjN⟩ : ∃ z9, z9 = c := ⟨_, rfl⟩
        have ea : ((pcx : Int)).toNat = iN := by omega
        have pa : (0 : Int) ≤ (pcx : Int) := by omega
        have ba : (pcx : Int) < (n : Int) := by omega
        have ra : IntKind.i64.wrap ((pcx : Int)) = (pcx : Int) := by rw [IntKind.wrap_i64]; omega
        have ec : ((c : Int)).toNat = jN := by omega
        have pc : (0 : Int) ≤ (c : Int) := by omega
        have bc : (c : Int) < (n : Int) := by omega
        have rc : IntKind.i64.wrap ((c : Int)) = (c : Int) := by rw [IntKind.wrap_i64]; omega
        obtain ⟨x, hx⟩ : ∃ x, x = fn d (pcx) := ⟨_, rfl⟩
        obtain ⟨y, hy⟩ : ∃ x, x = fn d (c) := ⟨_, rfl⟩
        have la := S1.out.cl T.out (pcx) (by omega)
        have lb := S1.out.cl T.out (c) (by omega)
        rw [← hx, ← hiN] at la
        rw [← hy, ← hjN] at lb
        have hc := S1.out.cmp T.out (pcx) (c) (by omega) (by omega)
        rw [← hx, ← hy] at hc
        have hv : cf x y < 0 := by rw [hx, hy]; exact (T.out.neg _ _ (S1.out.ok _ (by omega)) (S1.out.ok _ (by omega))).2 HLV.out
        have hd : decide (cf x y < 0) = true := decide_eq_true hv
        clear hx hy hiN hjN
        go_wp2_with fail
        go_quiet_grown (first | (go_at_fn g; refine Calls.grown_of (hc _ _)))
        have S2 := Lib.hid (S1.out.grown nq osq)
        clear la lb hc S1
        generalize grow (wr.drewN nq) osq = w2 at S2 ⊢
        clear nq osq ea ec pa pc ba bc ra rc hv hd
        go_wp2
        go_roundg (c - s)
        case measure => omega
        case rel => exact ⟨s, c, rfl, rfl, hs0, by omega, by omega, Nat.le_refl _, S2, HP2⟩
      · have HP2 := Lib.hid (HP.out.right hci hcj (hpc ▸ L.of_le hlv (HX.out c pcx (by omega) (by omega) (by omega) (by omega))))
        clear hpc
        have HLV := Lib.hid hlv
        clear HP hlv
        go_wp2_with fail
        obtain ⟨iN, hiN⟩ : ∃ z9, z9 = pcx := ⟨_, rfl⟩
        obtain ⟨jN, hjN⟩ : ∃ z9, z9 = c := ⟨_, rfl⟩
        have ea : ((pcx : Int)).toNat = iN := by omega
        have pa : (0 : Int) ≤ (pcx : Int) := by omega
        have ba : (pcx : Int) < (n : Int) := by omega
        have ra : IntKind.i64.wrap ((pcx : Int)) = (pcx : Int) := by rw [IntKind.wrap_i64]; omega
        have ec : ((c : Int)).toNat = jN := by omega
        have pc : (0 : Int) ≤ (c : Int) := by omega
        have bc : (c : Int) < (n : Int) := by omega
        have rc : IntKind.i64.wrap ((c : Int)) = (c : Int) := by rw [IntKind.wrap_i64]; omega
        obtain ⟨x, hx⟩ : ∃ x, x = fn d (pcx) := ⟨_, rfl⟩
        obtain ⟨y, hy⟩ : ∃ x, x = fn d (c) := ⟨_, rfl⟩
        have la := S1.out.cl T.out (pcx) (by omega)
        have lb := S1.out.cl T.out (c) (by omega)
        rw [← hx, ← hiN] at la
        rw [← hy, ← hjN] at lb
        have hc := S1.out.cmp T.out (pcx) (c) (by omega) (by omega)
        rw [← hx, ← hy] at hc
        have hv : ¬ cf x y < 0 := by
          intro h9
          rw [hx, hy] at h9
          have h8 := (T.out.neg _ _ (S1.out.ok _ (by omega)) (S1.out.ok _ (by omega))).1 h9
          have h7 := HLV.out
          omega
        have hd : decide (cf x y < 0) = false := decide_eq_false hv
        clear hx hy hiN hjN
        go_wp2_with fail
        go_quiet_grown (first | (go_at_fn g; refine Calls.grown_of (hc _ _)))
        have S2 := Lib.hid (S1.out.grown nq osq)
        clear la lb hc S1
        generalize grow (wr.drewN nq) osq = w2 at S2 ⊢
        clear nq osq ea ec pa pc ba bc ra rc hv hd
        go_wp2
        go_roundg (r - (c + 1))
        case measure => omega
        case rel => exact ⟨c + 1, r, by go_num, rfl, by omega, by omega, hr0, Nat.le_refl _, S2, HP2⟩
    · have hltz : ¬ (s : Int) < (r : Int) := by omega
      have HCUT : Hid (Cut k (fn d) a m b mid s) := HP.out.cut_lo hlt hm (by omega)
      clear HP
      obtain ⟨en, hen⟩ : ∃ q, q = mid + m - s := ⟨_, rfl⟩
      have hez : (mid : Int) + (m : Int) - (s : Int) = (en : Int) := by omega
      have HEN := Lib.hid hen
      have hen1 : en + s ≤ mid + m := by omega
      have hen2 : mid + m ≤ en + s := by omega
      clear hen
      by_cases q1 : s < m
      · have f1 : (s : Int) < (m : Int) := by omega
        have f5 : (mid : Int) < (en : Int) := by omega
        by_cases q2 : s < mid
        · have f2 : (s : Int) < (mid : Int) := by omega
          have f6 : (m : Int) < (en : Int) := by omega
          by_cases q3 : a < s
          · have f3 : (a : Int) < (s : Int) := by omega
            by_cases q4 : en < b
            · have f4 : (en : Int) < (b : Int) := by omega
              have HR := Lib.hid (rotate_rw S1.out T.out (.func (.func g) #[] cb) cap s m en (by omega) (by omega) (by omega))
              go_wp2_with fail
              refine HR.out.mono ?_
              rintro e w2 ⟨rfl, d2, hf2, R2⟩
              have HF2 := Lib.hid hf2
              have S2 := Lib.hid R2
              clear hf2 R2 HR
              have HHV := Lib.hid (HCUT.out.halves HS1.out HS2.out HX.out)
              rw [← HEN.out, ← HF2.out] at HHV
              have HI := Lib.hid (IH.out a s mid d2 w2 (by omega) (by omega) (by omega) (by omega) S2.out HHV.out.1 HHV.out.2.1 HHV.out.2.2.1)
              go_wp2_with fail
              refine HI.out.mono ?_
              rintro e w3 ⟨rfl, d3, mv3, s3, R3⟩
              have MV3 := Lib.hid mv3
              have SS3 := Lib.hid s3
              have S3 := Lib.hid R3
              clear mv3 s3 R3 HI
              have HI2 := Lib.hid (IH.out mid en b d3 w3 (by omega) (by omega) (by omega) (by omega) S3.out (Srt.out HHV.out.2.2.2.1 fun p q1 q2 => MV3.out.out p (.inr q1)) (Srt.out HHV.out.2.2.2.2.1 fun p q1 q2 => MV3.out.out p (.inr (by omega))) (Crs.out HHV.out.2.2.2.2.2 fun p q1 q2 => MV3.out.out p (.inr q1)))
              go_wp2_with fail
              refine HI2.out.mono ?_
              rintro e w4 ⟨rfl, d4, mv4, s4, R4⟩
              have MV4 := Lib.hid mv4
              have SS4 := Lib.hid s4
              have S4 := Lib.hid R4
              clear mv4 s4 R4 HI2
              have HL := Lib.hid (HCUT.out.law HS1.out HS2.out (by rw [← HEN.out]; exact HF2.out) MV3.out SS3.out MV4.out SS4.out (by omega) (by omega))
              go_wp2_with fail
              all_goals go_end0
              all_goals exact ⟨rfl, d4, HL.out.2, HL.out.1, S4.out⟩
            · have f4 : ¬ (en : Int) < (b : Int) := by omega
              have HR := Lib.hid (rotate_rw S1.out T.out (.func (.func g) #[] cb) cap s m en (by omega) (by omega) (by omega))
              go_wp2_with fail
              refine HR.out.mono ?_
              rintro e w2 ⟨rfl, d2, hf2, R2⟩
              have HF2 := Lib.hid hf2
              have S2 := Lib.hid R2
              clear hf2 R2 HR
              have HHV := Lib.hid (HCUT.out.halves HS1.out HS2.out HX.out)
              rw [← HEN.out, ← HF2.out] at HHV
              have HI := Lib.hid (IH.out a s mid d2 w2 (by omega) (by omega) (by omega) (by omega) S2.out HHV.out.1 HHV.out.2.1 HHV.out.2.2.1)
              go_wp2_with fail
              refine HI.out.mono ?_
              rintro e w3 ⟨rfl, d3, mv3, s3, R3⟩
              have MV3 := Lib.hid mv3
              have SS3 := Lib.hid s3
              have S3 := Lib.hid R3
              clear mv3 s3 R3 HI
              have MV4 := Lib.hid (Moved.refl (fn d3) mid b)
              have SS4 : Hid (Srt k (fn d3) mid b) := Srt.out ((show en = b by omega) ▸ HHV.out.2.2.2.1) fun p q1 q2 => MV3.out.out p (.inr (by omega))
              have HL := Lib.hid (HCUT.out.law HS1.out HS2.out (by rw [← HEN.out]; exact HF2.out) MV3.out SS3.out MV4.out SS4.out (by omega) (by omega))
              go_wp2_with fail
              all_goals go_end0
              all_goals exact ⟨rfl, d3, HL.out.2, HL.out.1, S3.out⟩
          · have f3 : ¬ (a : Int) < (s : Int) := by omega
            by_cases q4 : en < b
            · have f4 : (en : Int) < (b : Int) := by omega
              have HR := Lib.hid (rotate_rw S1.out T.out (.func (.func g) #[] cb) cap s m en (by omega) (by omega) (by omega))
              go_wp2_with fail
              refine HR.out.mono ?_
              rintro e w2 ⟨rfl, d2, hf2, R2⟩
              have HF2 := Lib.hid hf2
              have S2 := Lib.hid R2
              clear hf2 R2 HR
              have HHV := Lib.hid (HCUT.out.halves HS1.out HS2.out HX.out)
              rw [← HEN.out, ← HF2.out] at HHV
              have MV3 := Lib.hid (Moved.refl (fn d2) a mid)
              have SS3 : Hid (Srt k (fn d2) a mid) := (show s = a by omega) ▸ HHV.out.2.1
              have HI2 := Lib.hid (IH.out mid en b d2 w2 (by omega) (by omega) (by omega) (by omega) S2.out (Srt.out HHV.out.2.2.2.1 fun p q1 q2 => MV3.out.out p (.inr q1)) (Srt.out HHV.out.2.2.2.2.1 fun p q1 q2 => MV3.out.out p (.inr (by omega))) (Crs.out HHV.out.2.2.2.2.2 fun p q1 q2 => MV3.out.out p (.inr q1)))
              go_wp2_with fail
              refine HI2.out.mono ?_
              rintro e w4 ⟨rfl, d4, mv4, s4, R4⟩
              have MV4 := Lib.hid mv4
              have SS4 := Lib.hid s4
              have S4 := Lib.hid R4
              clear mv4 s4 R4 HI2
              have HL := Lib.hid (HCUT.out.law HS1.out HS2.out (by rw [← HEN.out]; exact HF2.out) MV3.out SS3.out MV4.out SS4.out (by omega) (by omega))
              go_wp2_with fail
              all_goals go_end0
              all_goals exact ⟨rfl, d4, HL.out.2, HL.out.1, S4.out⟩
            · have f4 : ¬ (en : Int) < (b : Int) := by omega
              have HR := Lib.hid (rotate_rw S1.out T.out (.func (.func g) #[] cb) cap s m en (by omega) (by omega) (by omega))
              go_wp2_with fail
              refine HR.out.mono ?_
              rintro e w2 ⟨rfl, d2, hf2, R2⟩
              have HF2 := Lib.hid hf2
              have S2 := Lib.hid R2
              clear hf2 R2 HR
              have HHV := Lib.hid (HCUT.out.halves HS1.out HS2.out HX.out)
              rw [← HEN.out, ← HF2.out] at HHV
              have MV3 := Lib.hid (Moved.refl (fn d2) a mid)
              have SS3 : Hid (Srt k (fn d2) a mid) := (show s = a by omega) ▸ HHV.out.2.1
              have MV4 := Lib.hid (Moved.refl (fn d2) mid b)
              have SS4 : Hid (Srt k (fn d2) mid b) := Srt.out ((show en = b by omega) ▸ HHV.out.2.2.2.1) fun p q1 q2 => MV3.out.out p (.inr (by omega))
              have HL := Lib.hid (HCUT.out.law HS1.out HS2.out (by rw [← HEN.out]; exact HF2.out) MV3.out SS3.out MV4.out SS4.out (by omega) (by omega))
              go_wp2_with fail
              all_goals go_end0
              all_goals exact ⟨rfl, d2, HL.out.2, HL.out.1, S2.out⟩
        · have f2 : ¬ (s : Int) < (mid : Int) := by omega
          have f6 : ¬ (m : Int) < (en : Int) := by omega
          by_cases q3 : a < s
          · have f3 : (a : Int) < (s : Int) := by omega
            by_cases q4 : en < b
            · have f4 : (en : Int) < (b : Int) := by omega
              have HF2 : Hid (fn d = rot (fn d) s m en) := (rot_none _ (.inr (by omega))).symm
              have HHV := Lib.hid (HCUT.out.halves HS1.out HS2.out HX.out)
              rw [← HEN.out, ← HF2.out] at HHV
              have MV3 := Lib.hid (Moved.refl (fn d) a mid)
              have SS3 : Hid (Srt k (fn d) a mid) := (show s = mid by omega) ▸ HHV.out.1
              have HI2 := Lib.hid (IH.out mid en b d wr (by omega) (by omega) (by omega) (by omega) S1.out (Srt.out HHV.out.2.2.2.1 fun p q1 q2 => MV3.out.out p (.inr q1)) (Srt.out HHV.out.2.2.2.2.1 fun p q1 q2 => MV3.out.out p (.inr (by omega))) (Crs.out HHV.out.2.2.2.2.2 fun p q1 q2 => MV3.out.out p (.inr q1)))
              go_wp2_with fail
              refine HI2.out.mono ?_
              rintro e w4 ⟨rfl, d4, mv4, s4, R4⟩
              have MV4 := Lib.hid mv4
              have SS4 := Lib.hid s4
              have S4 := Lib.hid R4
              clear mv4 s4 R4 HI2
              have HL := Lib.hid (HCUT.out.law HS1.out HS2.out (by rw [← HEN.out]; exact HF2.out) MV3.out SS3.out MV4.out SS4.out (by omega) (by omega))
              go_wp2_with fail
              all_goals go_end0
              all_goals exact ⟨rfl, d4, HL.out.2, HL.out.1, S4.out⟩
            · have f4 : ¬ (en : Int) < (b : Int) := by omega
              have HF2 : Hid (fn d = rot (fn d) s m en) := (rot_none _ (.inr (by omega))).symm
              have HHV := Lib.hid (HCUT.out.halves HS1.out HS2.out HX.out)
              rw [← HEN.out, ← HF2.out] at HHV
              have MV3 := Lib.hid (Moved.refl (fn d) a mid)
              have SS3 : Hid (Srt k (fn d) a mid) := (show s = mid by omega) ▸ HHV.out.1
              have MV4 := Lib.hid (Moved.refl (fn d) mid b)
              have SS4 : Hid (Srt k (fn d) mid b) := Srt.out ((show en = b by omega) ▸ HHV.out.2.2.2.1) fun p q1 q2 => MV3.out.out p (.inr (by omega))
              have HL := Lib.hid (HCUT.out.law HS1.out HS2.out (by rw [← HEN.out]; exact HF2.out) MV3.out SS3.out MV4.out SS4.out (by omega) (by omega))
              go_wp2_with fail
              all_goals go_end0
              all_goals exact ⟨rfl, d, HL.out.2, HL.out.1, S1.out⟩
          · have f3 : ¬ (a : Int) < (s : Int) := by omega
            by_cases q4 : en < b
            · have f4 : (en : Int) < (b : Int) := by omega
              have HF2 : Hid (fn d = rot (fn d) s m en) := (rot_none _ (.inr (by omega))).symm
              have HHV := Lib.hid (HCUT.out.halves HS1.out HS2.out HX.out)
              rw [← HEN.out, ← HF2.out] at HHV
              have MV3 := Lib.hid (Moved.refl (fn d) a mid)
              have SS3 : Hid (Srt k (fn d) a mid) := (show s = mid by omega) ▸ HHV.out.1
              have HI2 := Lib.hid (IH.out mid en b d wr (by omega) (by omega) (by omega) (by omega) S1.out (Srt.out HHV.out.2.2.2.1 fun p q1 q2 => MV3.out.out p (.inr q1)) (Srt.out HHV.out.2.2.2.2.1 fun p q1 q2 => MV3.out.out p (.inr (by omega))) (Crs.out HHV.out.2.2.2.2.2 fun p q1 q2 => MV3.out.out p (.inr q1)))
              go_wp2_with fail
              refine HI2.out.mono ?_
              rintro e w4 ⟨rfl, d4, mv4, s4, R4⟩
              have MV4 := Lib.hid mv4
              have SS4 := Lib.hid s4
              have S4 := Lib.hid R4
              clear mv4 s4 R4 HI2
              have HL := Lib.hid (HCUT.out.law HS1.out HS2.out (by rw [← HEN.out]; exact HF2.out) MV3.out SS3.out MV4.out SS4.out (by omega) (by omega))
              go_wp2_with fail
              all_goals go_end0
              all_goals exact ⟨rfl, d4, HL.out.2, HL.out.1, S4.out⟩
            · have f4 : ¬ (en : Int) < (b : Int) := by omega
              have HF2 : Hid (fn d = rot (fn d) s m en) := (rot_none _ (.inr (by omega))).symm
              have HHV := Lib.hid (HCUT.out.halves HS1.out HS2.out HX.out)
              rw [← HEN.out, ← HF2.out] at HHV
              have MV3 := Lib.hid (Moved.refl (fn d) a mid)
              have SS3 : Hid (Srt k (fn d) a mid) := (show s = mid by omega) ▸ HHV.out.1
              have MV4 := Lib.hid (Moved.refl (fn d) mid b)
              have SS4 : Hid (Srt k (fn d) mid b) := Srt.out ((show en = b by omega) ▸ HHV.out.2.2.2.1) fun p q1 q2 => MV3.out.out p (.inr (by omega))
              have HL := Lib.hid (HCUT.out.law HS1.out HS2.out (by rw [← HEN.out]; exact HF2.out) MV3.out SS3.out MV4.out SS4.out (by omega) (by omega))
              go_wp2_with fail
              all_goals go_end0
              all_goals exact ⟨rfl, d, HL.out.2, HL.out.1, S1.out⟩
      · have f1 : ¬ (s : Int) < (m : Int) := by omega
        have f5 : ¬ (mid : Int) < (en : Int) := by omega
        by_cases q2 : s < mid
        · have f2 : (s : Int) < (mid : Int) := by omega
          have f6 : (m : Int) < (en : Int) := by omega
          by_cases q3 : a < s
          · have f3 : (a : Int) < (s : Int) := by omega
            by_cases q4 : en < b
            · have f4 : (en : Int) < (b : Int) := by omega
              have HF2 : Hid (fn d = rot (fn d) s m en) := (rot_none _ (.inl (by omega))).symm
              have HHV := Lib.hid (HCUT.out.halves HS1.out HS2.out HX.out)
              rw [← HEN.out, ← HF2.out] at HHV
              have HI := Lib.hid (IH.out a s mid d wr (by omega) (by omega) (by omega) (by omega) S1.out HHV.out.1 HHV.out.2.1 HHV.out.2.2.1)
              go_wp2_with fail
              refine HI.out.mono ?_
              rintro e w3 ⟨rfl, d3, mv3, s3, R3⟩
              have MV3 := Lib.hid mv3
              have SS3 := Lib.hid s3
              have S3 := Lib.hid R3
              clear mv3 s3 R3 HI
              have MV4 := Lib.hid (Moved.refl (fn d3) mid b)
              have SS4 : Hid (Srt k (fn d3) mid b) := Srt.out ((show en = mid by omega) ▸ HHV.out.2.2.2.2.1) fun p q1 q2 => MV3.out.out p (.inr (by omega))
              have HL := Lib.hid (HCUT.out.law HS1.out HS2.out (by rw [← HEN.out]; exact HF2.out) MV3.out SS3.out MV4.out SS4.out (by omega) (by omega))
              go_wp2_with fail
              all_goals go_end0
              all_goals exact ⟨rfl, d3, HL.out.2, HL.out.1, S3.out⟩
            · have f4 : ¬ (en : Int) < (b : Int) := by omega
              have HF2 : Hid (fn d = rot (fn d) s m en) := (rot_none _ (.inl (by omega))).symm
              have HHV := Lib.hid (HCUT.out.halves HS1.out HS2.out HX.out)
              rw [← HEN.out, ← HF2.out] at HHV
              have HI := Lib.hid (IH.out a s mid d wr (by omega) (by omega) (by omega) (by omega) S1.out HHV.out.1 HHV.out.2.1 HHV.out.2.2.1)
              go_wp2_with fail
              refine HI.out.mono ?_
              rintro e w3 ⟨rfl, d3, mv3, s3, R3⟩
              have MV3 := Lib.hid mv3
              have SS3 := Lib.hid s3
              have S3 := Lib.hid R3
              clear mv3 s3 R3 HI
              have MV4 := Lib.hid (Moved.refl (fn d3) mid b)
              have SS4 : Hid (Srt k (fn d3) mid b) := Srt.out ((show en = mid by omega) ▸ HHV.out.2.2.2.2.1) fun p q1 q2 => MV3.out.out p (.inr (by omega))
              have HL := Lib.hid (HCUT.out.law HS1.out HS2.out (by rw [← HEN.out]; exact HF2.out) MV3.out SS3.out MV4.out SS4.out (by omega) (by omega))
              go_wp2_with fail
              all_goals go_end0
              all_goals exact ⟨rfl, d3, HL.out.2, HL.out.1, S3.out⟩
          · have f3 : ¬ (a : Int) < (s : Int) := by omega
            by_cases q4 : en < b
            · have f4 : (en : Int) < (b : Int) := by omega
              have HF2 : Hid (fn d = rot (fn d) s m en) := (rot_none _ (.inl (by omega))).symm
              have HHV := Lib.hid (HCUT.out.halves HS1.out HS2.out HX.out)
              rw [← HEN.out, ← HF2.out] at HHV
              have MV3 := Lib.hid (Moved.refl (fn d) a mid)
              have SS3 : Hid (Srt k (fn d) a mid) := (show s = a by omega) ▸ HHV.out.2.1
              have MV4 := Lib.hid (Moved.refl (fn d) mid b)
              have SS4 : Hid (Srt k (fn d) mid b) := Srt.out ((show en = mid by omega) ▸ HHV.out.2.2.2.2.1) fun p q1 q2 => MV3.out.out p (.inr (by omega))
              have HL := Lib.hid (HCUT.out.law HS1.out HS2.out (by rw [← HEN.out]; exact HF2.out) MV3.out SS3.out MV4.out SS4.out (by omega) (by omega))
              go_wp2_with fail
              all_goals go_end0
              all_goals exact ⟨rfl, d, HL.out.2, HL.out.1, S1.out⟩
            · have f4 : ¬ (en : Int) < (b : Int) := by omega
              have HF2 : Hid (fn d = rot (fn d) s m en) := (rot_none _ (.inl (by omega))).symm
              have HHV := Lib.hid (HCUT.out.halves HS1.out HS2.out HX.out)
              rw [← HEN.out, ← HF2.out] at HHV
              have MV3 := Lib.hid (Moved.refl (fn d) a mid)
              have SS3 : Hid (Srt k (fn d) a mid) := (show s = a by omega) ▸ HHV.out.2.1
              have MV4 := Lib.hid (Moved.refl (fn d) mid b)
              have SS4 : Hid (Srt k (fn d) mid b) := Srt.out ((show en = mid by omega) ▸ HHV.out.2.2.2.2.1) fun p q1 q2 => MV3.out.out p (.inr (by omega))
              have HL := Lib.hid (HCUT.out.law HS1.out HS2.out (by rw [← HEN.out]; exact HF2.out) MV3.out SS3.out MV4.out SS4.out (by omega) (by omega))
              go_wp2_with fail
              all_goals go_end0
              all_goals exact ⟨rfl, d, HL.out.2, HL.out.1, S1.out⟩
        · have f2 : ¬ (s : Int) < (mid : Int) := by omega
          have f6 : ¬ (m : Int) < (en : Int) := by omega
          by_cases q3 : a < s
          · have f3 : (a : Int) < (s : Int) := by omega
            by_cases q4 : en < b
            · have f4 : (en : Int) < (b : Int) := by omega
              have HF2 : Hid (fn d = rot (fn d) s m en) := (rot_none _ (.inl (by omega))).symm
              have HHV := Lib.hid (HCUT.out.halves HS1.out HS2.out HX.out)
              rw [← HEN.out, ← HF2.out] at HHV
              have MV3 := Lib.hid (Moved.refl (fn d) a mid)
              have SS3 : Hid (Srt k (fn d) a mid) := (show s = mid by omega) ▸ HHV.out.1
              have MV4 := Lib.hid (Moved.refl (fn d) mid b)
              have SS4 : Hid (Srt k (fn d) mid b) := Srt.out ((show en = mid by omega) ▸ HHV.out.2.2.2.2.1) fun p q1 q2 => MV3.out.out p (.inr (by omega))
              have HL := Lib.hid (HCUT.out.law HS1.out HS2.out (by rw [← HEN.out]; exact HF2.out) MV3.out SS3.out MV4.out SS4.out (by omega) (by omega))
              go_wp2_with fail
              all_goals go_end0
              all_goals exact ⟨rfl, d, HL.out.2, HL.out.1, S1.out⟩
            · have f4 : ¬ (en : Int) < (b : Int) := by omega
              have HF2 : Hid (fn d = rot (fn d) s m en) := (rot_none _ (.inl (by omega))).symm
              have HHV := Lib.hid (HCUT.out.halves HS1.out HS2.out HX.out)
              rw [← HEN.out, ← HF2.out] at HHV
              have MV3 := Lib.hid (Moved.refl (fn d) a mid)
              have SS3 : Hid (Srt k (fn d) a mid) := (show s = mid by omega) ▸ HHV.out.1
              have MV4 := Lib.hid (Moved.refl (fn d) mid b)
              have SS4 : Hid (Srt k (fn d) mid b) := Srt.out ((show en = mid by omega) ▸ HHV.out.2.2.2.2.1) fun p q1 q2 => MV3.out.out p (.inr (by omega))
              have HL := Lib.hid (HCUT.out.law HS1.out HS2.out (by rw [← HEN.out]; exact HF2.out) MV3.out SS3.out MV4.out SS4.out (by omega) (by omega))
              go_wp2_with fail
              all_goals go_end0
              all_goals exact ⟨rfl, d, HL.out.2, HL.out.1, S1.out⟩
          · have f3 : ¬ (a : Int) < (s : Int) := by omega
            by_cases q4 : en < b
            · have f4 : (en : Int) < (b : Int) := by omega
              have HF2 : Hid (fn d = rot (fn d) s m en) := (rot_none _ (.inl (by omega))).symm
              have HHV := Lib.hid (HCUT.out.halves HS1.out HS2.out HX.out)
              rw [← HEN.out, ← HF2.out] at HHV
              have MV3 := Lib.hid (Moved.refl (fn d) a mid)
              have SS3 : Hid (Srt k (fn d) a mid) := (show s = mid by omega) ▸ HHV.out.1
              have MV4 := Lib.hid (Moved.refl (fn d) mid b)
              have SS4 : Hid (Srt k (fn d) mid b) := Srt.out ((show en = mid by omega) ▸ HHV.out.2.2.2.2.1) fun p q1 q2 => MV3.out.out p (.inr (by omega))
              have HL := Lib.hid (HCUT.out.law HS1.out HS2.out (by rw [← HEN.out]; exact HF2.out) MV3.out SS3.out MV4.out SS4.out (by omega) (by omega))
              go_wp2_with fail
              all_goals go_end0
              all_goals exact ⟨rfl, d, HL.out.2, HL.out.1, S1.out⟩
            · have f4 : ¬ (en : Int) < (b : Int) := by omega
              have HF2 : Hid (fn d = rot (fn d) s m en) := (rot_none _ (.inl (by omega))).symm
              have HHV := Lib.hid (HCUT.out.halves HS1.out HS2.out HX.out)
              rw [← HEN.out, ← HF2.out] at HHV
              have MV3 := Lib.hid (Moved.refl (fn d) a mid)
              have SS3 : Hid (Srt k (fn d) a mid) := (show s = mid by omega) ▸ HHV.out.1
              have MV4 := Lib.hid (Moved.refl (fn d) mid b)
              have SS4 : Hid (Srt k (fn d) mid b) := Srt.out ((show en = mid by omega) ▸ HHV.out.2.2.2.2.1) fun p q1 q2 => MV3.out.out p (.inr (by omega))
              have HL := Lib.hid (HCUT.out.law HS1.out HS2.out (by rw [← HEN.out]; exact HF2.out) MV3.out SS3.out MV4.out SS4.out (by omega) (by omega))
              go_wp2_with fail
              all_goals go_end0
              all_goals exact ⟨rfl, d, HL.out.2, HL.out.1, S1.out⟩
theorem symMerge_any {w0 : World} {blk off n : Nat} {g : Nat} {cb : Array Value} {cf : Int → Int → Int} {k : Int → Int} {ok : Int → Prop} {d0 : Array Int} (T : Sett w0 blk off n g cb cf k ok d0) (cap : Nat) : ∀ (N a m b : Nat) (d : Array Int) (w : World), b - a ≤ N → a < m → m < b → b ≤ n → Rw w0 blk off n ok d w → Srt k (fn d) a m → Srt k (fn d) m b → Crs (fn d) a m b →
    Calls Try.prog 97 #[.slice (some ⟨blk, off, none⟩) n cap, .int .i64 (a : Nat), .int .i64 (m : Nat), .int .i64 (b : Nat), .func (.func g) #[] cb] w (SymPost w0 blk off n k ok d a b)
  | 0, a, m, b, d, w, hN, h1, h2, _, _, _, _, _ => by omega
  | N + 1, a, m, b, d, w, hN, h1, h2, h3, h, hs1, hs2, hx => by
    by_cases hA : m = a + 1
    · exact sym_a T cap a m b d w h h1 h2 h3 hs1 hs2 hx hA
    · by_cases hB : b = m + 1
      · exact sym_b T cap a m b d w h h1 h2 h3 hs1 hs2 hx hA hB
      · by_cases hm : (a + b) / 2 < m
        · exact sym_hi T cap a m b d w h h1 h2 h3 hs1 hs2 hx hA hB _ rfl hm fun a' m' b' d' w' q1 q2 q3 q4 q5 q6 q7 q8 => symMerge_any T cap N a' m' b' d' w' (by omega) q2 q3 q4 q5 q6 q7 q8
        · exact sym_lo T cap a m b d w h h1 h2 h3 hs1 hs2 hx hA hB _ rfl (by omega) fun a' m' b' d' w' q1 q2 q3 q4 q5 q6 q7 q8 => symMerge_any T cap N a' m' b' d' w' (by omega) q2 q3 q4 q5 q6 q7 q8
end Go.Proofs.Ytblplkajgbbkdaa
