/-
  What comp.check, complineref27.Cash and comp.Pay come to, over this seat's translation: contracts for callers.
-/
import Derived.Test.YtglpnpjjjihghaaPayLaw
namespace Go.Proofs.Ytglpnpjjjihghaa
open Go.RowKit

theorem cash_cell {w : World} {B : Nat} {A : Option Addr} {L : List Lg} (h : Seg w B A (lgRows L)) (hk : 0 < L.length) : ∃ b o, A = some ⟨b, o, none⟩ ∧ b < B ∧ w.cell? ⟨b, o + 1, none⟩ = some (.int .i64 (ast0 L)) := by
  obtain ⟨b, o, e, hb, _, d1, _⟩ := lg_at h hk
  rw [Nat.zero_mul, Nat.add_zero, ← ast0_at hk] at d1
  exact ⟨b, o, e, hb, d1⟩
set_option maxHeartbeats 800000 in
theorem cash27_any (L : List Lg) (A : Option Addr) (c : Nat) (w : World) (hs : Seg w w.heap.size A (lgRows L)) (hl : L.length ≤ 100000) :
    Calls Try.prog 38 #[.slice A L.length c] w fun e w' => e = .returned (.bool (cashB L)) ∧ w = w' := by
  have HS := Lib.hid hs
  clear hs
  rcases Nat.eq_zero_or_pos L.length with h0 | h0
  · have hE : cashB L = true := by unfold cashB; rw [decide_eq_true h0]; rfl
    rw [hE, h0]
    go_enter Try.func38, Try.ntmps38
    go_wp2_with fail
    go_ret
    exact ⟨rfl, rfl⟩
  · obtain ⟨b, o, rfl, hb, d1⟩ := cash_cell HS.out h0
    have hE : cashB L = (ast0 L == 0) := by
      unfold cashB
      rw [decide_eq_false (by omega), Bool.false_or]
      rfl
    have HE := Lib.hid hE
    have hn : ((L.length : Int) == 0) = false := by rw [beq_eq_false_iff_ne]; omega
    generalize ast0 L = a at *
    clear hE
    have hl0 : (0 : Int) < (L.length : Int) := by omega
    by_cases ha : a = 0
    · subst ha
      rw [HE.out]
      go_enter Try.func38, Try.ntmps38
      go_wp2_with fail
      go_ret
      exact ⟨rfl, rfl⟩
    · have hab : (a == 0) = false := by rw [beq_eq_false_iff_ne]; exact ha
      rw [HE.out, hab]
      go_enter Try.func38, Try.ntmps38
      go_wp2_with fail
      go_ret
      exact ⟨rfl, rfl⟩
set_option maxHeartbeats 800000 in
theorem check27_any (L : List Lg) (A : Option Addr) (c : Nat) (w : World) (hs : Seg w w.heap.size A (lgRows L)) (hI : ∀ x ∈ L, I64 x.n) (hl : L.length ≤ 100000) :
    Calls Try.prog 58 #[.slice A L.length c] w fun e w' => e = .returned (.int .i64 (chkcE L)) ∧ Below w.heap.size w w' := by
  have HC := Lib.hid (clm_any L A c w hs hI hl)
  have HS := Lib.hid hs
  have HD : Hid (chkcE L = if clmE L ≠ 0 then clmE L else if cashB L = false then 1 else 0) := Lib.hid rfl
  have HCB : Hid (cashB L = (decide (L.length = 0) || decide (ast0 L = 0))) := Lib.hid rfl
  clear hs hI
  generalize chkcE L = ce at *
  by_cases he : clmE L = 0
  · rw [he] at HC HD
    rcases Nat.eq_zero_or_pos L.length with h0 | h0
    · have hE : ce = 0 := by rw [HD.out, HCB.out, decide_eq_true h0]; rfl
      subst hE
      rw [h0] at HC ⊢
      go_enter Try.func58, Try.ntmps58
      go_wp2_with (go_at_call 57; refine HC.out.mono ?_; rintro e w1 ⟨rfl, hb1⟩; have HB1 := Lib.hid hb1; clear hb1)
      go_ret
      exact ⟨rfl, HB1.out⟩
    · have hl0 : (0 : Int) < (L.length : Int) := by omega
      have HK : Hid (∀ W, Below w.heap.size w W → ∃ b o, A = some ⟨b, o, none⟩ ∧ b < w.heap.size ∧ W.cell? ⟨b, o + 1, none⟩ = some (.int .i64 (ast0 L))) := Lib.hid fun W hW => cash_cell (HS.out.below hW) h0
      have HCE : Hid (cashB L = decide (ast0 L = 0)) := Lib.hid (by rw [HCB.out, decide_eq_false (by omega), Bool.false_or])
      generalize ast0 L = a at *
      by_cases ha : a = 0
      · have hE : ce = 0 := by rw [HD.out, HCE.out, decide_eq_true ha]; rfl
        subst hE ha
        go_enter Try.func58, Try.ntmps58
        go_wp2_with (go_at_call 57; refine HC.out.mono ?_; rintro e w1 ⟨rfl, hb1⟩; have HB1 := Lib.hid hb1; obtain ⟨b, o, rfl, hb, d1⟩ := HK.out _ hb1; clear hb1)
        go_ret
        exact ⟨rfl, HB1.out⟩
      · have hE : ce = 1 := by rw [HD.out, HCE.out, decide_eq_false ha]; rfl
        subst hE
        have hab : (a != 0) = true := by simpa [bne] using ha
        go_enter Try.func58, Try.ntmps58
        go_wp2_with (go_at_call 57; refine HC.out.mono ?_; rintro e w1 ⟨rfl, hb1⟩; have HB1 := Lib.hid hb1; obtain ⟨b, o, rfl, hb, d1⟩ := HK.out _ hb1; clear hb1)
        go_ret
        exact ⟨rfl, HB1.out⟩
  · have hE : ce = clmE L := by rw [HD.out, if_pos he]
    rw [hE]
    generalize clmE L = ge at *
    go_enter Try.func58, Try.ntmps58
    go_wp2_with (go_at_call 57; refine HC.out.mono ?_; rintro e w1 ⟨rfl, hb1⟩; have HB1 := Lib.hid hb1; clear hb1)
    go_ret
    exact ⟨rfl, HB1.out⟩
set_option maxHeartbeats 800000 in
theorem pay_any (cash : Int) (L : List Lg) (A : Option Addr) (c : Nat) (w : World) (hA : I64 cash) (hs : Seg w w.heap.size A (lgRows L)) (hI : ∀ x ∈ L, I64 x.n) (hl : L.length ≤ 100000) :
    Calls Try.prog 36 #[.int .i64 cash, .slice A L.length c] w (Legs2 w (cpayG cash L) (cpayK cash L) (cpayE cash L)) := by
  have HC := Lib.hid (check27_any L A c w hs hI hl)
  have HP : Hid (∀ W, Below w.heap.size w W → Calls Try.prog 63 #[.int .i64 cash, .slice A L.length c] W (Legs2 W (givL cash L) (lackL cash L) (shE cash L))) := Lib.hid fun W hW => split_any cash L A c W hA ((hs.below hW).mono hW.size) hI hl
  clear hs hI hA
  by_cases he : chkcE L = 0
  · obtain ⟨e1, e2, e3⟩ := pay_good (cash := cash) he
    rw [e1, e2, e3]
    rw [he] at HC
    clear e1 e2 e3 he
    go_enter Try.func36, Try.ntmps36
    go_wp2_with fail
    refine HC.out.mono ?_
    rintro e w1 ⟨rfl, hb1⟩
    have HB1 := Lib.hid hb1
    have hz := hb1.size
    clear hb1
    go_wp2_with fail
    refine (HP.out w1 HB1.out).mono ?_
    rintro e w2 ⟨A1, c1, A2, c2, rfl, hs1, hs2, hb2⟩
    have HS1 := Lib.hid hs1
    have HS2 := Lib.hid hs2
    have HB2 : Hid (Below w.heap.size w w2) := Lib.hid (HB1.out.trans (hb2.mono hz))
    clear hs1 hs2 hb2
    go_wp2_with fail
    go_ret3
    exact ⟨A1, c1, A2, c2, rfl, HS1.out, HS2.out, HB2.out⟩
  · obtain ⟨e1, e2, e3⟩ := pay_bad (cash := cash) he
    rw [e1, e2, e3]
    generalize chkcE L = ce at *
    clear e1 e2 e3
    go_enter Try.func36, Try.ntmps36
    go_wp2_with fail
    refine HC.out.mono ?_
    rintro e w1 ⟨rfl, hb1⟩
    have HB1 := Lib.hid hb1
    clear hb1
    go_wp2_with fail
    go_ret3
    exact ⟨none, 0, none, 0, rfl, Seg.nil, Seg.nil, HB1.out⟩
end Go.Proofs.Ytglpnpjjjihghaa
