/-
  What conf.Sec and comp.worth come to, over this seat's translation: contracts for callers.
-/
import Derived.Test.YtglpnpjjjihghaaCfg2
import Derived.Test.YtglpnpjjjihghaaMul1
namespace Go.Proofs.Ytglpnpjjjihghaa
open Go.RowKit

/-- Is there such a security? -/
def secIn (x : Cfg) (i : Int) : Prop := 1 ≤ i ∧ i ≤ x.ss.length
instance (x : Cfg) (i : Int) : Decidable (secIn x i) := inferInstanceAs (Decidable (_ ∧ _))
def secP (x : Cfg) (i : Int) : Pr := if secIn x i then x.ss.getD (i - 1).toNat ⟨0, 0⟩ else ⟨0, 0⟩
def secE (x : Cfg) (i : Int) : Int := if secIn x i then 0 else 10
theorem sec_no {x : Cfg} {i : Int} (h : ¬ secIn x i) : secP x i = ⟨0, 0⟩ ∧ secE x i = 10 := by
  unfold secP secE
  rw [if_neg h, if_neg h]
  exact ⟨rfl, rfl⟩
theorem sec_yes {x : Cfg} {k : Nat} (h : k < x.ss.length) : secP x ((k : Int) + 1) = x.ss[k] ∧ secE x ((k : Int) + 1) = 0 := by
  have h1 : secIn x ((k : Int) + 1) := by unfold secIn; omega
  unfold secP secE
  rw [if_pos h1, if_pos h1, show ((k : Int) + 1 - 1).toNat = k by omega]
  exact ⟨by simp [List.getD, h], rfl⟩
theorem ret_pr {a b c d e f : Int} (h : a = d) (h1 : b = e) (h2 : c = f) : Ending.returned (.tuple #[.agg #[.int .i64 a, .int .i64 b], .int .i64 c]) = .returned (.tuple #[.agg #[.int .i64 d, .int .i64 e], .int .i64 f]) := by rw [h, h1, h2]
set_option maxRecDepth 100000 in
set_option maxHeartbeats 1600000 in
theorem sec_any (x : Cfg) (i : Int) (w : World) (h : CfOk w x) (hI : I64 i) :
    Calls Try.prog 65 #[x.val, .int .i64 i] w fun e w' => e = .returned (.tuple #[.agg #[.int .i64 (secP x i).a, .int .i64 (secP x i).b], .int .i64 (secE x i)]) ∧ Below w.heap.size w w' := by
  have HB0 := Lib.hid (box_below w x)
  have HC1 := (cf_new w x).c1
  have HS := Lib.hid (h.s.below (box_below w x))
  have hI1 := hI.1
  have hI2 := hI.2
  clear h hI
  by_cases h1 : i < 1
  · have hP := sec_no (x := x) (i := i) (by unfold secIn; omega)
    rw [hP.1, hP.2]
    clear hP
    unfold Cfg.val at *
    go_enter Try.func65, Try.ntmps65
    go_wp2_with fail
    exact bodyPost_ret (v := .tuple #[.agg #[.int .i64 0, .int .i64 0], .int .i64 10]) (by simp [results, Try.results65, go_sem]) rfl ⟨rfl, by repeat (first | exact HB0.out | refine Below.setCell ?_ (by simp) _ | refine Below.alloc ?_ (by simp) _)⟩
  · by_cases h2 : i ≤ x.ss.length
    · obtain ⟨k, hk⟩ : ∃ k : Nat, k = (i - 1).toNat := ⟨_, rfl⟩
      have hkl : k < x.ss.length := by omega
      have hik : i = (k : Int) + 1 := by omega
      have hP := sec_yes hkl
      rw [← hik] at hP
      rw [hP.1, hP.2]
      have em : i - 1 = (k : Int) := by omega
      have h3 : ¬ i > (x.ss.length : Int) := by omega
      clear hP hk hik h2
      unfold Cfg.val at *
      obtain ⟨b, o, hA, hb, d0, d1⟩ := pr_at HS.out hkl
      rw [hA] at HB0 HC1 d0 d1 ⊢
      have HBB := Lib.hid hb
      generalize x.ss[k] = p at *
      go_enter Try.func65, Try.ntmps65
      go_wp2_with fail
      exact bodyPost_ret (v := .tuple #[.agg #[.int .i64 p.a, .int .i64 p.b], .int .i64 0]) (by simp [results, Try.results65, go_sem]) rfl ⟨rfl, by repeat (first | exact HB0.out | refine Below.setCell ?_ (by simp) _ | refine Below.alloc ?_ (by simp) _)⟩
    · have hP := sec_no (x := x) (i := i) (by unfold secIn; omega)
      rw [hP.1, hP.2]
      clear hP
      unfold Cfg.val at *
      go_enter Try.func65, Try.ntmps65
      go_wp2_with fail
      exact bodyPost_ret (v := .tuple #[.agg #[.int .i64 0, .int .i64 0], .int .i64 10]) (by simp [results, Try.results65, go_sem]) rfl ⟨rfl, by repeat (first | exact HB0.out | refine Below.setCell ?_ (by simp) _ | refine Below.alloc ?_ (by simp) _)⟩
/-- What a lack is worth, or why that is not told. -/
def wthV (x : Cfg) (a n : Int) : Int := if secIn x a then (if n < 1 then 0 else amtV (n * (secP x a).a)) else 0
def wthE (x : Cfg) (a n : Int) : Int := if secIn x a then (if n < 1 then 1 else amtE (n * (secP x a).a)) else 10
set_option maxRecDepth 100000 in
set_option maxHeartbeats 1600000 in
theorem worth_any (x : Cfg) (m a n : Int) (w : World) (h : CfOk w x) (ha : I64 a) (hn : I64 n) (hp : I64 (secP x a).a) :
    Calls Try.prog 42 #[x.val, .agg #[.int .i64 m, .int .i64 a, .int .i64 n]] w fun e w' => e = .returned (.tuple #[.int .i64 (wthV x a n), .int .i64 (wthE x a n)]) ∧ Below w.heap.size w w' := by
  have HB0 := Lib.hid (((Below.refl _ w).alloc (Nat.le_refl _) (.cells #[.slice x.Am x.ms.length x.cm, .slice x.As x.ss.length x.cs, .slice x.Ac x.cy.length x.cc, .int .i64 x.line, .int .i64 x.capi, .int .i64 x.lead, .int .i64 x.tr, .int .i64 x.bids] 26)).alloc (by simp) (.cells #[.int .i64 m, .int .i64 a, .int .i64 n] 75))
  have HS := fun W (hb : Below w.heap.size w W) => Lib.hid (sec_any x a W (h.below hb) ha)
  have HSS := Lib.hid HS
  have HN := Lib.hid hn
  have HP := Lib.hid hp
  have hV : wthV x a n = if secIn x a then (if n < 1 then 0 else amtV (n * (secP x a).a)) else 0 := rfl
  have hE : wthE x a n = if secIn x a then (if n < 1 then 1 else amtE (n * (secP x a).a)) else 10 := rfl
  have hsE : secE x a = if secIn x a then 0 else 10 := rfl
  generalize wthV x a n = V at *
  generalize wthE x a n = E at *
  unfold Cfg.val at *
  clear h ha hn hp HS
  have HC2 : Hid (∀ W, Below ((w.alloc (.cells #[.slice x.Am x.ms.length x.cm, .slice x.As x.ss.length x.cs, .slice x.Ac x.cy.length x.cc, .int .i64 x.line, .int .i64 x.capi, .int .i64 x.lead, .int .i64 x.tr, .int .i64 x.bids] 26)).alloc (.cells #[.int .i64 m, .int .i64 a, .int .i64 n] 75)).heap.size ((w.alloc (.cells #[.slice x.Am x.ms.length x.cm, .slice x.As x.ss.length x.cs, .slice x.Ac x.cy.length x.cc, .int .i64 x.line, .int .i64 x.capi, .int .i64 x.lead, .int .i64 x.tr, .int .i64 x.bids] 26)).alloc (.cells #[.int .i64 m, .int .i64 a, .int .i64 n] 75)) W → W.cell? ⟨w.heap.size + 1, 2, none⟩ = some (.int .i64 n)) := Lib.hid fun W hb => by
    rw [hb.cell (p := ⟨w.heap.size + 1, 2, none⟩) (by simp)]
    simp
  by_cases hs : secIn x a
  · rw [if_pos hs] at hV hE hsE
    rw [hsE] at HSS
    generalize secP x a = q at *
    clear hs hsE
    by_cases h1 : n < 1
    · rw [if_pos h1] at hV hE
      subst hV hE
      go_enter Try.func42, Try.ntmps42
      go_wp2_with (first | (go_at_call 65; refine (HSS.out _ HB0.out).out.mono ?_; rintro e w1 ⟨rfl, hb1⟩; have HB1 := Lib.hid (HB0.out.trans (hb1.mono (by simp; omega))); have hl1 : w.heap.size + 1 < w1.heap.size := (by have := hb1.size; simp at this; omega); have k2 := HC2.out _ hb1; clear hb1) | (go_at_call 66; refine (mul_any _ _ _ HN.out HP.out).mono ?_; rintro e w1 ⟨rfl, rfl⟩))
      go_ret2
      exact ⟨rfl, HB1.out.alloc (by omega) _⟩
    · rw [if_neg h1] at hV hE
      subst hV hE
      go_enter Try.func42, Try.ntmps42
      go_wp2_with (first | (go_at_call 65; refine (HSS.out _ HB0.out).out.mono ?_; rintro e w1 ⟨rfl, hb1⟩; have HB1 := Lib.hid (HB0.out.trans (hb1.mono (by simp; omega))); have hl1 : w.heap.size + 1 < w1.heap.size := (by have := hb1.size; simp at this; omega); have k2 := HC2.out _ hb1; clear hb1) | (go_at_call 66; refine (mul_any _ _ _ HN.out HP.out).mono ?_; rintro e w1 ⟨rfl, rfl⟩))
      go_ret2
      exact ⟨rfl, HB1.out.alloc (by omega) _⟩
  · rw [if_neg hs] at hV hE hsE
    rw [hsE] at HSS
    generalize secP x a = q at *
    clear hs hsE
    subst hV hE
    go_enter Try.func42, Try.ntmps42
    go_wp2_with (first | (go_at_call 65; refine (HSS.out _ HB0.out).out.mono ?_; rintro e w1 ⟨rfl, hb1⟩; have HB1 := Lib.hid (HB0.out.trans (hb1.mono (by simp; omega))); have hl1 : w.heap.size + 1 < w1.heap.size := (by have := hb1.size; simp at this; omega); have k2 := HC2.out _ hb1; clear hb1) | (go_at_call 66; refine (mul_any _ _ _ HN.out HP.out).mono ?_; rintro e w1 ⟨rfl, rfl⟩))
    go_ret2
    exact ⟨rfl, HB1.out.alloc (by omega) _⟩
end Go.Proofs.Ytglpnpjjjihghaa
