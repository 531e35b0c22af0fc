/-
  What alloc.Split comes to, over this seat's translation: a contract for callers.
-/
import Derived.Test.YtglpnpjjjihghaaAl2
import Derived.Test.YtglpnpjjjihghaaTwo
namespace Go.Proofs.Ytglpnpjjjihghaa
open Go.RowKit

theorem clm_chk {avail : Int} {L : List Lg} (h : shE avail L = 0) : chkE avail (amts L) = 0 ∧ clmE L = 0 ∧ 0 ≤ avail := by
  unfold shE at h
  by_cases h1 : clmE L ≠ 0
  · rw [if_pos h1] at h; exact absurd h h1
  · rw [if_neg h1] at h
    have h0 : clmE L = 0 := by omega
    obtain ⟨a, b, d⟩ := clmE_ok h0
    have hA : 0 ≤ avail := by
      by_cases h2 : avail < 0
      · rw [if_pos h2] at h; omega
      · omega
    refine ⟨?_, h0, hA⟩
    have hn : negB (amts L) = false := negB_of fun k hk => by
      rw [amts_len] at hk
      have := b k hk
      rw [badAt_at hk] at this
      simp only [Bool.or_eq_false_iff, decide_eq_false_iff_not] at this
      have e : (amts L)[k]'(by rw [amts_len]; exact hk) = L[k].n := by unfold amts; rw [List.getElem_map]
      rw [e]
      omega
    unfold chkE
    rw [if_neg (by rw [amts_len]; omega), if_neg (by rw [hn]; simp; omega), (amt_in d).2]

/-- What claims are given, and what is lacking. -/
def givL (avail : Int) (L : List Lg) : List Lg := if shE avail L = 0 then someL L (alL avail (amts L)) else []
def lackL (avail : Int) (L : List Lg) : List Lg := if shE avail L = 0 then someL L (lostL (amts L) (alL avail (amts L))) else []
/-- Two lists of legs came back, and an error. -/
def Legs2 (w : World) (g l : List Lg) (err : Int) : Ending → World → Prop := fun e w' => ∃ A c B d, e = .returned (.tuple #[.slice A g.length c, .slice B l.length d, .int .i64 err]) ∧ Seg w' w'.heap.size A (lgRows g) ∧ Seg w' w'.heap.size B (lgRows l) ∧ Below w.heap.size w w'
theorem lost_len {T : Int} {l : List Int} (h : chkE T l = 0) : (lostL l (alL T l)).length = l.length ∧ lostE l (alL T l) = 0 := by
  have G := given_of h
  unfold lostL lostE
  rw [given_fit h]
  refine ⟨?_, rfl⟩
  rw [if_pos rfl, List.length_zipWith, G.len, Nat.min_self]
set_option maxHeartbeats 1600000 in
set_option maxRecDepth 100000 in
theorem split_any (avail : Int) (L : List Lg) (A : Option Addr) (c : Nat) (w : World) (hA : I64 avail) (hs : Seg w w.heap.size A (lgRows L)) (hI : ∀ x ∈ L, I64 x.n) (hl : L.length ≤ 100000) :
    Calls Try.prog 63 #[.int .i64 avail, .slice A L.length c] w (Legs2 w (givL avail L) (lackL avail L) (shE avail L)) := by
  have hb0 : Below w.heap.size w (w.alloc (.cells #[.slice A L.length c] 27)) := (Below.refl _ _).alloc (Nat.le_refl _) _
  have hs0 := (hs.below hb0).mono hb0.size
  have HC := Lib.hid (short_any avail L A c _ hA hs0 hI hl)
  have HB0 := Lib.hid hb0
  have HS0 := Lib.hid hs0
  have HBX : Hid (∀ W, Below (w.heap.size + 1) (w.alloc (.cells #[.slice A L.length c] 27)) W → W.cell? ⟨w.heap.size, 0, none⟩ = some (.slice A L.length c)) := fun W hW => by
    rw [hW.cell (p := ⟨w.heap.size, 0, none⟩) (by simp), cell_new _ _ _ _ rfl]; rfl
  have HV := Lib.hid (show givL avail L = if shE avail L = 0 then someL L (alL avail (amts L)) else [] from rfl)
  have HW := Lib.hid (show lackL avail L = if shE avail L = 0 then someL L (lostL (amts L) (alL avail (amts L))) else [] from rfl)
  have hsz0 : (w.alloc (.cells #[.slice A L.length c] 27)).heap.size = w.heap.size + 1 := by simp
  have HI := Lib.hid hI
  have HIA := Lib.hid hA
  have HZ0 := Lib.hid hsz0
  clear hs hs0 hb0 hI hA hsz0
  by_cases h0 : shE avail L = 0
  · have HCK := Lib.hid (clm_chk h0).1
    have hG := given_of HCK.out
    have HGL := Lib.hid hG.len
    have HGE := Lib.hid hG.err
    have HLL := Lib.hid (lost_len HCK.out)
    have HGV : Hid (givL avail L = someL L (alL avail (amts L))) := by show _ = _; rw [HV.out, if_pos h0]
    have HLV : Hid (lackL avail L = someL L (lostL (amts L) (alL avail (amts L)))) := by show _ = _; rw [HW.out, if_pos h0]
    have HE := Lib.hid h0
    have HBG : Hid (∀ x ∈ alL avail (amts L), I64 x) := fun x hx => by
      obtain ⟨i, hi, rfl⟩ := List.mem_iff_getElem.1 hx
      have hi' : i < (amts L).length := by rw [← hG.len]; exact hi
      have := hG.bd i hi hi'
      have := amts_I64 HI.out _ (List.getElem_mem hi')
      unfold I64 at *
      omega
    clear hG HV HW
    rw [h0] at HC
    clear h0
    go_enter Try.func63, Try.ntmps63
    go_wp2_with fail
    refine HC.out.mono ?_
    rintro e w1 ⟨rfl, hb1⟩
    have HB1 : Hid (Below (w.heap.size + 1) (w.alloc (.cells #[.slice A L.length c] 27)) w1) := by have := HZ0.out; rw [this] at hb1; exact hb1
    have sz1 : w.heap.size < w1.heap.size := by have := HB1.out.size; have := HZ0.out; omega
    have c1 := HBX.out _ HB1.out
    have HS1 : Hid (Seg w1 w1.heap.size A (lgRows L)) := (HS0.out.below hb1).mono hb1.size
    have HT1 : Hid (Below w.heap.size w w1) := HB0.out.trans (hb1.mono (by simp))
    clear hb1 HC
    go_wp2_with fail
    refine (amounts_any L A c _ HS1.out hl).mono ?_
    rintro e w2 ⟨A2, k2, rfl, hs2, hb2⟩
    have HS2 := Lib.hid hs2
    have HB2 : Hid (Below (w.heap.size + 1) (w.alloc (.cells #[.slice A L.length c] 27)) w2) := HB1.out.trans (hb2.mono (by omega))
    have sz2 : w.heap.size < w2.heap.size := by have := hb2.size; omega
    have HS2L : Hid (Seg w2 w2.heap.size A (lgRows L)) := (HS1.out.below hb2).mono hb2.size
    have HT2 : Hid (Below w.heap.size w w2) := HT1.out.trans (hb2.mono (by omega))
    have hal : (amts L).length ≤ maxLen := by rw [amts_len]; unfold maxLen; omega
    have hal2 : (amts L).length ≤ 1000000 := by rw [amts_len]; omega
    clear hs2 hb2 c1
    go_wp2_with fail
    refine (Allocate_any avail (amts L) A2 k2 _ HIA.out (amts_I64 HI.out) HS2.out hal).mono ?_
    rintro e w3 ⟨A3, k3, rfl, hs3, hb3⟩
    have HS3 := Lib.hid hs3
    have HB3 : Hid (Below (w.heap.size + 1) (w.alloc (.cells #[.slice A L.length c] 27)) w3) := HB2.out.trans (hb3.mono (by omega))
    have sz3 : w.heap.size < w3.heap.size := by have := hb3.size; omega
    have HS3L : Hid (Seg w3 w3.heap.size A (lgRows L)) := (HS2L.out.below hb3).mono hb3.size
    have HS3A : Hid (Seg w3 w3.heap.size A2 ((amts L).map (Value.int .i64))) := (HS2.out.below hb3).mono hb3.size
    have HT3 : Hid (Below w.heap.size w w3) := HT2.out.trans (hb3.mono (by omega))
    clear hs3 hb3
    go_wp2_with fail
    refine (Lost_any (amts L) (alL avail (amts L)) A2 A3 k2 k3 _ (amts_I64 HI.out) HS3A.out HS3.out hal2).mono ?_
    rintro e w4 ⟨A4, k4, rfl, hs4, hb4⟩
    have HS4 := Lib.hid hs4
    have HB4 : Hid (Below (w.heap.size + 1) (w.alloc (.cells #[.slice A L.length c] 27)) w4) := HB3.out.trans (hb4.mono (by omega))
    have sz4 : w.heap.size < w4.heap.size := by have := hb4.size; omega
    have c4 := HBX.out _ HB4.out
    have HS4L : Hid (Seg w4 w4.heap.size A (lgRows L)) := (HS3L.out.below hb4).mono hb4.size
    have HS4G : Hid (Seg w4 w4.heap.size A3 ((alL avail (amts L)).map (Value.int .i64))) := (HS3.out.below hb4).mono hb4.size
    have HT4 : Hid (Below w.heap.size w w4) := HT3.out.trans (hb4.mono (by omega))
    have xl1 : Hid ((alL avail (amts L)).length = L.length) := by show _ = _; rw [HGL.out, amts_len]
    have xl2 : Hid ((lostL (amts L) (alL avail (amts L))).length = L.length) := by show _ = _; rw [HLL.out.1, amts_len]
    clear hs4 hb4
    go_wp2_with fail
    refine (some1_any L (alL avail (amts L)) A A3 c k3 w.heap.size _ HS4L.out HS4G.out c4 sz4 hl xl1.out).mono ?_
    rintro e w5 ⟨A5, k5, rfl, hs5, hb5⟩
    have HS5 := Lib.hid hs5
    have HB5 : Hid (Below (w.heap.size + 1) (w.alloc (.cells #[.slice A L.length c] 27)) w5) := HB4.out.trans (hb5.mono (by omega))
    have sz5 : w.heap.size < w5.heap.size := by have := hb5.size; omega
    have c5 := HBX.out _ HB5.out
    have HS5L : Hid (Seg w5 w5.heap.size A (lgRows L)) := (HS4L.out.below hb5).mono hb5.size
    have HS5G : Hid (Seg w5 w5.heap.size A4 ((lostL (amts L) (alL avail (amts L))).map (Value.int .i64))) := (HS4.out.below hb5).mono hb5.size
    have HT5 : Hid (Below w.heap.size w w5) := HT4.out.trans (hb5.mono (by omega))
    clear hs5 hb5 c4
    go_wp2_with fail
    refine (some1_any L (lostL (amts L) (alL avail (amts L))) A A4 c k4 w.heap.size _ HS5L.out HS5G.out c5 sz5 hl xl2.out).mono ?_
    rintro e w6 ⟨A6, k6, rfl, hs6, hb6⟩
    have HS6 := Lib.hid hs6
    have HS6G : Hid (Seg w6 w6.heap.size A5 (lgRows (someL L (alL avail (amts L))))) := (HS5.out.below hb6).mono hb6.size
    have HT6 : Hid (Below w.heap.size w w6) := HT5.out.trans (hb6.mono (by omega))
    clear hs6 hb6 c5
    go_wp2_with fail
    go_ret3
    rw [HGV.out, HLV.out, HE.out]
    exact ⟨A5, k5, A6, k6, rfl, HS6G.out, HS6.out, HT6.out⟩
  · have HGV : Hid (givL avail L = []) := by show _ = _; rw [HV.out, if_neg h0]
    have HLV : Hid (lackL avail L = []) := by show _ = _; rw [HW.out, if_neg h0]
    have h0b : (shE avail L != 0) = true := by simpa [bne] using h0
    rw [HGV.out, HLV.out]
    clear h0 HV HW HGV HLV
    generalize shE avail L = E at *
    generalize shV avail L = V at *
    go_enter Try.func63, Try.ntmps63
    go_wp2_with fail
    refine HC.out.mono ?_
    rintro e w1 ⟨rfl, hb1⟩
    have HT1 : Hid (Below w.heap.size w w1) := HB0.out.trans (hb1.mono (by simp))
    clear hb1
    go_wp2_with fail
    go_ret3
    exact ⟨none, 0, none, 0, rfl, Seg.nil, Seg.nil, HT1.out⟩
end Go.Proofs.Ytglpnpjjjihghaa
