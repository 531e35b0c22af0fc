/-
  What slices.stableCmpFunc and slices.SortStableFunc come to at numbers that stand in their own order, over this seat's translation: contracts for callers.
-/
import Derived.Test.YtblplkajgbbkdaaStb6
import Derived.Test.YtblplkajgbbkdaaStableLaw2
namespace Go.Proofs.Ytblplkajgbbkdaa
open Go.RowKit Go.Lib Go.Sort Go.Shelf Go.Proofs.Ytblplkajgbbkdaa.StableLaw

def StbPost (w0 : World) (blk off n : Nat) (k : Int → Int) (ok : Int → Prop) (d : Array Int) : Ending → World → Prop := fun e w' => e = .returned (.tuple #[]) ∧ ∃ d' : Array Int, Moved (fn d) (fn d') 0 n ∧ Srt k (fn d') 0 n ∧ Rw w0 blk off n ok d' w'
set_option maxHeartbeats 16000000 in
set_option maxRecDepth 1000000 in
theorem stable_any {w0 : World} {blk off n : Nat} {g : Nat} {cb : Array Value} {cf : Int → Int → Int} {k : Int → Int} {ok : Int → Prop} {d0 : Array Int} (T0 : Sett w0 blk off n g cb cf k ok d0) (cap : Nat) (d : Array Int) (w : World) (h : Rw w0 blk off n ok d w) (hn1 : n ≤ 1000000) (h0 : ∀ p, p < n → fn d p = p) :
    Calls Try.prog 89 #[.slice (some ⟨blk, off, none⟩) n cap, .int .i64 (n : Nat), .func (.func g) #[] cb] w (StbPost w0 blk off n k ok d) := by
  have T := Lib.hid T0
  have HH := Lib.hid h
  have H0 := Lib.hid h0
  clear T0 h h0
  go_enter Try.func89, Try.ntmps89
  go_wp2_with fail
  go_loopg [7, 8] (n + 20) (fun kx s t wr => ∃ (a b : Nat) (dk : Array Int), s = .int .i64 a ∧ t = .int .i64 b ∧ b ≤ a + 20 ∧ a + 20 ≤ b ∧ a ≤ n ∧ n + 20 - a ≤ kx ∧ Hid (Rw w0 blk off n ok dk wr) ∧ Hid (Moved (fn d) (fn dk) 0 n ∧ ISt k n (fn dk) a))
  case atStart => exact ⟨0, 20, d, rfl, rfl, by omega, by omega, Nat.zero_le _, by omega, HH, Moved.refl _ _ _, ISt.start H0.out⟩
  case round =>
    clear HH H0
    obtain ⟨a, b, dk, rfl, rfl, hb1, hb2, han, hkx, S1, HI⟩ := hrel
    by_cases hlt : b ≤ n
    · have hltz : (b : Int) ≤ (n : Int) := by omega
      have HC := Lib.hid (insertion_any T.out cap a b dk wr S1.out (by omega) hlt (HI.out.2.rising hlt))
      go_wp2_with fail
      refine HC.out.mono ?_
      rintro e w2 ⟨rfl, d2, mv2, s2, R2⟩
      have HI2 : Hid (Moved (fn d) (fn d2) 0 n ∧ ISt k n (fn d2) b) := by
        have e : b = a + 20 := by omega
        subst e
        exact ⟨HI.out.1.trans (mv2.mono (Nat.zero_le _) hlt), HI.out.2.next hlt mv2 s2⟩
      have S2 := Lib.hid R2
      clear mv2 s2 R2 HC HI S1
      go_wp2_with fail
      go_roundg (n + 20 - b)
      case measure => omega
      case rel => exact ⟨b, b + 20, d2, rfl, by go_num, Nat.le_refl _, Nat.le_refl _, hlt, Nat.le_refl _, S2, HI2⟩
    · have hltz : ¬ (b : Int) ≤ (n : Int) := by omega
      have HC := Lib.hid (insertion_any T.out cap a n dk wr S1.out han (Nat.le_refl _) (HI.out.2.rising (Nat.le_refl _)))
      go_wp2_with fail
      refine HC.out.mono ?_
      rintro e w2 ⟨rfl, d2, mv2, s2, R2⟩
      have HI2 : Hid (Moved (fn d) (fn d2) 0 n ∧ BSt k n 20 (fn d2)) := ⟨HI.out.1.trans (mv2.mono (Nat.zero_le _) (Nat.le_refl _)), HI.out.2.last (by omega) mv2 s2⟩
      have S2 := Lib.hid R2
      clear mv2 s2 R2 HC HI S1 hltz hlt hb1 hb2 hkx
      go_wp2_with fail
      go_loopg [6, 7, 8, 9] n (fun kx s _ _ _ wr => ∃ (z : Nat) (dk : Array Int), s = .int .i64 z ∧ 20 ≤ z ∧ z ≤ 2 * n + 20 ∧ n - z ≤ kx ∧ Hid (Rw w0 blk off n ok dk wr) ∧ Hid (Moved (fn d) (fn dk) 0 n ∧ BSt k n z (fn dk)))
      case atStart => exact ⟨20, d2, rfl, by omega, by omega, by omega, S2, HI2⟩
      case round =>
        clear S2 HI2
        obtain ⟨z, dz, rfl, hz1, hz2, hkx, S1, HB⟩ := hrel
        by_cases hlt : z < n
        · have hltz : (z : Int) < (n : Int) := by omega
          obtain ⟨wo, rfl⟩ : ∃ wo : World, wo = wr := ⟨_, rfl⟩
          have HM0 : Hid (Moved (fn d) (fn dz) 0 n ∧ MSt k n z (fn dz) 0) := ⟨HB.out.1, HB.out.2.start⟩
          clear HB
          go_wp2_with fail
          go_loopg [7, 8] (n + 2 * z) (fun kx s t wr => ∃ (a b : Nat) (dk : Array Int), s = .int .i64 a ∧ t = .int .i64 b ∧ b ≤ a + 2 * z ∧ a + 2 * z ≤ b ∧ a ≤ n ∧ n + 2 * z - a ≤ kx ∧ Hid (Rw w0 blk off n ok dk wr) ∧ Hid (Moved (fn d) (fn dk) 0 n ∧ MSt k n z (fn dk) a))
          case atStart => exact ⟨0, 2 * z, dz, rfl, by first | rfl | go_num, by omega, by omega, Nat.zero_le _, by omega, S1, HM0⟩
          case round =>
            clear S1 HM0
            obtain ⟨a, b, dk, rfl, rfl, hb1, hb2, han, hkx, S1, HI⟩ := hrel
            by_cases hlt2 : b ≤ n
            · have hltz2 : (b : Int) ≤ (n : Int) := by omega
              have HR := Lib.hid (HI.out.2.runs (b := b) (by omega) hlt2 hb1 (by omega))
              have HC := Lib.hid (symMerge_any T.out cap (b - a) a (a + z) b dk wr (Nat.le_refl _) (by omega) (by omega) hlt2 S1.out HR.out.1 HR.out.2.1 HR.out.2.2)
              go_wp2_with fail
              refine HC.out.mono ?_
              rintro e w2 ⟨rfl, d2, mv2, s2, R2⟩
              have HI2 : Hid (Moved (fn d) (fn d2) 0 n ∧ MSt k n z (fn d2) b) := by
                have e : b = a + 2 * z := by omega
                subst e
                exact ⟨HI.out.1.trans (mv2.mono (Nat.zero_le _) hlt2), HI.out.2.next (by omega) hlt2 mv2 s2⟩
              have S2 := Lib.hid R2
              clear mv2 s2 R2 HC HI S1 HR
              go_wp2_with fail
              go_roundg (n + 2 * z - b)
              case measure => omega
              case rel => exact ⟨b, b + 2 * z, d2, rfl, by go_num, Nat.le_refl _, Nat.le_refl _, hlt2, Nat.le_refl _, S2, HI2⟩
            · have hltz2 : ¬ (b : Int) ≤ (n : Int) := by omega
              by_cases hm : a + z < n
              · have hmz : (a : Int) + (z : Int) < (n : Int) := by omega
                have HR := Lib.hid (HI.out.2.runs (b := n) (by omega) (Nat.le_refl _) (by omega) (by omega))
                have HC := Lib.hid (symMerge_any T.out cap (n - a) a (a + z) n dk wr (Nat.le_refl _) (by omega) hm (Nat.le_refl _) S1.out HR.out.1 HR.out.2.1 HR.out.2.2)
                go_wp2_with fail
                refine HC.out.mono ?_
                rintro e w2 ⟨rfl, d2, mv2, s2, R2⟩
                have HI2 : Hid (Moved (fn d) (fn d2) 0 n ∧ BSt k n (2 * z) (fn d2)) := ⟨HI.out.1.trans (mv2.mono (Nat.zero_le _) (Nat.le_refl _)), HI.out.2.last (by omega) (by omega) mv2 s2⟩
                have S2 := Lib.hid R2
                clear mv2 s2 R2 HC HI S1 HR
                go_wp2_with fail
                go_roundg (n - 2 * z)
                case measure => omega
                case rel => exact ⟨2 * z, d2, by first | rfl | go_num | (congr 1; omega), by omega, by omega, Nat.le_refl _, S2, HI2⟩
              · have hmz : ¬ (a : Int) + (z : Int) < (n : Int) := by omega
                have HI2 : Hid (Moved (fn d) (fn dk) 0 n ∧ BSt k n (2 * z) (fn dk)) := ⟨HI.out.1, HI.out.2.none (by omega) (by omega)⟩
                clear HI
                go_wp2_with fail
                go_roundg (n - 2 * z)
                case measure => omega
                case rel => exact ⟨2 * z, dk, by first | rfl | go_num | (congr 1; omega), by omega, by omega, Nat.le_refl _, S1, HI2⟩
        · have hltz : ¬ (z : Int) < (n : Int) := by omega
          go_wp2_with fail
          go_end0
          exact ⟨rfl, dz, HB.out.1, HB.out.2.done (by omega), S1.out⟩
set_option maxHeartbeats 1600000 in
theorem sortStable_any {w0 : World} {blk off n : Nat} {g : Nat} {cb : Array Value} {cf : Int → Int → Int} {k : Int → Int} {ok : Int → Prop} {d0 : Array Int} (T0 : Sett w0 blk off n g cb cf k ok d0) (cap : Nat) (d : Array Int) (w : World) (h : Rw w0 blk off n ok d w) (hn1 : n ≤ 1000000) (h0 : ∀ p, p < n → fn d p = p) :
    Calls Try.prog 73 #[.slice (some ⟨blk, off, none⟩) n cap, .func (.func g) #[] cb] w (StbPost w0 blk off n k ok d) := by
  have HC := Lib.hid (stable_any T0 cap d w h hn1 h0)
  clear T0 h h0
  go_enter Try.func73, Try.ntmps73
  go_wp2_with fail
  refine HC.out.mono ?_
  rintro e w2 ⟨rfl, hd⟩
  have HD := Lib.hid hd
  clear hd HC
  go_wp2_with fail
  go_end0
  exact ⟨rfl, HD.out⟩
end Go.Proofs.Ytblplkajgbbkdaa
