/-
  What fall.Check and fall.may come to, over this seat's translation: contracts for callers.
-/
import Derived.Test.YtglpnpjjjihghaaFl3
namespace Go.Proofs.Ytglpnpjjjihghaa
open Go.RowKit

theorem seg_mk (w : World) (t : TypeId) (xs : List Value) {b : Nat} (hb : b = w.heap.size) : Seg (w.alloc (.cells xs.toArray t)) (w.alloc (.cells xs.toArray t)).heap.size (some ⟨b, 0, none⟩) xs := fun j u hu =>
  ⟨b, 0, rfl, by rw [hb]; simp, by rw [Nat.zero_add, cell_new _ _ _ j hb, ← Array.getElem?_toList]; exact hu⟩
def Pol.val (p : Pol) : Value := .agg #[.slice p.Ac p.co.length p.cc, .slice p.Af p.fu.length p.cf, .int .i64 p.line, .int .i64 p.cap]
/-- A pool's lists lie in memory. -/
structure PolOk (w : World) (p : Pol) : Prop where
  c : AmSrc w p.Ac p.cc p.co
  f : AmSrc w p.Af p.cf p.fu
theorem PolOk.below {w w' : World} {p : Pol} (h : PolOk w p) (hb : Below w.heap.size w w') : PolOk w' p := ⟨h.c.below hb, h.f.below hb⟩
def okN (n : Int) : Bool := decide (0 ≤ n) && decide (n ≤ 1099511627776)
def polL (p : Pol) : List Int := p.co ++ p.fu ++ [p.line, p.cap]
def polB (p : Pol) : Bool := decide (p.co.length = p.fu.length) && (decide (p.co.length ≤ 16) && (polL p).all okN)
def polE (p : Pol) : Int := if polB p then 0 else 1
theorem polE_len {p : Pol} (h : ¬ p.co.length = p.fu.length) : polE p = 1 := by unfold polE polB; rw [decide_eq_false h]; rfl
theorem polE_big {p : Pol} (h : ¬ p.co.length ≤ 16) : polE p = 1 := by unfold polE polB; rw [decide_eq_false h, Bool.false_and, Bool.and_false]; rfl
theorem polE_bad {p : Pol} {k : Nat} (hk : k < (polL p).length) (h : okN (polL p)[k] = false) : polE p = 1 := by
  have : (polL p).all okN = false := by
    rw [List.all_eq_false]
    exact ⟨_, List.getElem_mem hk, by rw [h]; decide⟩
  unfold polE polB
  rw [this, Bool.and_false, Bool.and_false]
  rfl
theorem polE_good {p : Pol} (h1 : p.co.length = p.fu.length) (h2 : p.co.length ≤ 16) (h : ∀ k (hk : k < (polL p).length), okN (polL p)[k] = true) : polE p = 0 := by
  have : (polL p).all okN = true := by
    rw [List.all_eq_true]
    intro x hx
    obtain ⟨k, hk, rfl⟩ := List.getElem_of_mem hx
    exact h k hk
  unfold polE polB
  rw [this, decide_eq_true h1, decide_eq_true h2]
  rfl
set_option maxRecDepth 100000 in
set_option maxHeartbeats 1600000 in
theorem pcheck_any (p : Pol) (w : World) (h : PolOk w p) (hc : p.co.length ≤ maxLen) :
    Calls Try.prog 24 #[p.val] w fun e w' => e = .returned (.int .i64 (polE p)) ∧ Below w.heap.size w w' := by
  unfold maxLen at hc
  have HB0 : Hid (Below w.heap.size w (w.alloc (.cells #[.slice p.Ac p.co.length p.cc, .slice p.Af p.fu.length p.cf, .int .i64 p.line, .int .i64 p.cap] 37))) := Lib.hid ((Below.refl _ _).alloc (Nat.le_refl _) _)
  have HP := Lib.hid h
  clear h
  unfold Pol.val
  by_cases h1 : p.co.length = p.fu.length
  · by_cases h2 : p.co.length ≤ 16
    · have HC : Hid (∀ (W : World) (A3 : Option Addr) (c3 g : Nat), Below w.heap.size w W → AmSrc W A3 c3 [p.line, p.cap] → W.cell? ⟨g, 0, none⟩ = some (.slice p.Ac p.co.length p.cc) → W.cell? ⟨g, 1, none⟩ = some (.slice p.Af p.fu.length p.cf) → W.cell? ⟨g, 2, none⟩ = some (.slice A3 2 c3) → g < W.heap.size → Calls Try.prog 51 #[.slice (some ⟨g, 0, none⟩) 3 3] W (GotAm (polL p) W)) := Lib.hid fun W A3 c3 g hW h3 g0 g1 g2 hg => concatA_any p.co p.fu p.line p.cap p.Ac p.Af A3 p.cc p.cf c3 g W (HP.out.c.below hW) (HP.out.f.below hW) h3 g0 g1 g2 hg (by omega) (by omega)
      have HG := Lib.hid (polE_good h1 h2)
      have HBD := Lib.hid (fun k hk => polE_bad (p := p) (k := k) hk)
      have hpl : (polL p).length ≤ 100 := by unfold polL; simp; omega
      have hne : ((p.co.length : Int) != (p.fu.length : Int)) = false := by rw [h1]; simp
      have hgt : decide ((16 : Int) < (p.co.length : Int)) = false := decide_eq_false (by omega)
      have hgt2 : decide ((16 : Int) < (p.fu.length : Int)) = false := decide_eq_false (by omega)
      have H1 := Lib.hid h1
      clear h1
      generalize polL p = L at *
      generalize polE p = pe at *
      go_enter Try.func24, Try.ntmps24
      go_wp2_with fail
      refine (HC.out _ (some ⟨w.heap.size + 1, 0, none⟩) 2 (w.heap.size + 2) ?_ ⟨?_, fun e => by cases e⟩ ?_ ?_ ?_ (by simp)).mono ?_
      · exact (((Below.refl _ _).alloc (Nat.le_refl _) _).alloc (by simp) _).alloc (by simp; omega) _
      · exact ((seg_mk _ 2 [.int .i64 p.line, .int .i64 p.cap] (by simp)).below ((Below.refl _ _).alloc (Nat.le_refl _) _)).mono (by simp)
      · rw [cell_new _ _ _ _ (by simp)]; rfl
      · rw [cell_new _ _ _ _ (by simp)]; rfl
      · rw [cell_new _ _ _ _ (by simp)]; rfl
      rintro e w1 ⟨A1, c1, rfl, hs1, hb1⟩
      have HS1 := Lib.hid hs1
      have HB1 : Hid (Below w.heap.size w w1) := Lib.hid (((((Below.refl _ _).alloc (Nat.le_refl _) _).alloc (by simp) _).alloc (by simp; omega) _).trans (hb1.mono (by simp; omega)))
      clear hs1 hb1 HC
      go_wp2_with fail
      go_loop [30] (fun i => ∃ k : Nat, k ≤ L.length ∧ i = .int .i64 k ∧ Hid (∀ j (hj : j < L.length), j < k → okN L[j] = true)) (fun i => L.length - (intOf i).toNat)
      case atStart => exact ⟨0, Nat.zero_le _, rfl, fun j _ h => absurd h (Nat.not_lt_zero _)⟩
      case round =>
        obtain ⟨k, hk, rfl, HK⟩ := hrel
        by_cases hlt : k < L.length
        · obtain ⟨b, o, rfl, hb, d0⟩ := int_at HS1.out hlt
          have HOK : Hid (okN L[k] = (decide (0 ≤ L[k]) && decide (L[k] ≤ 1099511627776))) := Lib.hid rfl
          have HKB := Lib.hid (HBD.out k hlt)
          have HK2 : Hid (okN L[k] = true → ∀ j (hj : j < L.length), j < k + 1 → okN L[j] = true) := Lib.hid fun h j hj hjk => by
            by_cases e : j = k
            · subst e; exact h
            · exact HK.out j hj (by omega)
          generalize okN L[k] = ok at *
          generalize L[k] = x at *
          by_cases hx0 : x < 0
          · have hE : ok = false := by rw [HOK.out, decide_eq_false (by omega)]; rfl
            have HE := Lib.hid (HKB.out hE)
            have hxd : decide (x < 0) = true := decide_eq_true hx0
            clear hE
            go_wp2_with fail
            go_ret
            exact ⟨ret_int HE.out.symm, HB1.out⟩
          · have hxd : decide (x < 0) = false := decide_eq_false hx0
            by_cases hx1 : 1099511627776 < x
            · have hE : ok = false := by rw [HOK.out, decide_eq_false (by omega : ¬ x ≤ 1099511627776), Bool.and_false]
              have HE := Lib.hid (HKB.out hE)
              have hxe : decide (1099511627776 < x) = true := decide_eq_true hx1
              clear hE
              go_wp2_with fail
              go_ret
              exact ⟨ret_int HE.out.symm, HB1.out⟩
            · have hxe : decide (1099511627776 < x) = false := decide_eq_false hx1
              have hE : ok = true := by rw [HOK.out, decide_eq_true (by omega : 0 ≤ x), decide_eq_true (by omega : x ≤ 1099511627776)]; rfl
              have HK3 := Lib.hid (HK2.out hE)
              clear hE
              go_wp2_with fail
              go_round
              case rel => exact ⟨k + 1, by omega, by go_num, HK3⟩
              case measure => simp [intOf]; omega
        · obtain rfl : k = L.length := by omega
          have HE := Lib.hid (HG.out fun j hj => HK.out j hj hj)
          go_wp2_with fail
          go_ret
          exact ⟨ret_int HE.out.symm, HB1.out⟩
    · have HE := Lib.hid (polE_big h2)
      have hne : ((p.co.length : Int) != (p.fu.length : Int)) = false := by rw [h1]; simp
      have hgt : decide ((16 : Int) < (p.co.length : Int)) = true := decide_eq_true (by omega)
      have hgt2 : decide ((16 : Int) < (p.fu.length : Int)) = true := decide_eq_true (by omega)
      clear h1 HP
      generalize polE p = pe at *
      go_enter Try.func24, Try.ntmps24
      go_wp2_with fail
      go_ret
      exact ⟨ret_int HE.out.symm, HB0.out⟩
  · have HE := Lib.hid (polE_len h1)
    have hne : ((p.co.length : Int) != (p.fu.length : Int)) = true := by simp [bne]; omega
    clear h1 HP
    generalize polE p = pe at *
    go_enter Try.func24, Try.ntmps24
    go_wp2_with fail
    go_ret
    exact ⟨ret_int HE.out.symm, HB0.out⟩
/-- Is a member who is out none, or out of order? -/
def obad (n : Nat) (os : List Int) (k : Nat) : Bool := decide (os.getD k 0 < 1) || (decide ((n : Int) < os.getD k 0) || (decide (0 < k) && decide (os.getD k 0 ≤ os.getD (k - 1) 0)))
def mayE (p : Pol) (os : List Int) : Int := if polE p ≠ 0 then polE p else if (List.range os.length).any (obad p.co.length os) then 9 else 0
theorem mayE_bad {p : Pol} {os : List Int} {k : Nat} (h0 : polE p = 0) (hk : k < os.length) (h : obad p.co.length os k = true) : mayE p os = 9 := by
  unfold mayE
  rw [if_neg (by omega), if_pos (List.any_eq_true.2 ⟨k, List.mem_range.2 hk, h⟩)]
theorem mayE_good {p : Pol} {os : List Int} (h0 : polE p = 0) (h : ∀ k, k < os.length → obad p.co.length os k = false) : mayE p os = 0 := by
  unfold mayE
  rw [if_neg (by omega), if_neg]
  rw [List.any_eq_true]
  rintro ⟨k, hk, h9⟩
  rw [h k (List.mem_range.1 hk)] at h9
  cases h9
theorem getD_at {l : List Int} {k : Nat} (h : k < l.length) : l.getD k 0 = l[k] := by
  rw [List.getD_eq_getElem?_getD, List.getElem?_eq_getElem h]
  rfl
set_option maxRecDepth 100000 in
set_option maxHeartbeats 1600000 in
theorem may_any (p : Pol) (os : List Int) (A : Option Addr) (c : Nat) (w : World) (h : PolOk w p) (hc : p.co.length ≤ maxLen) (hs : Seg w w.heap.size A (os.map (Value.int .i64))) (hl : os.length ≤ 100000) (hI : ∀ x ∈ os, I64 x) :
    Calls Try.prog 46 #[p.val, .slice A os.length c] w fun e w' => e = .returned (.int .i64 (mayE p os)) ∧ Below w.heap.size w w' := by
  have HB0 : Hid (Below w.heap.size w (w.alloc (.cells #[.slice p.Ac p.co.length p.cc, .slice p.Af p.fu.length p.cf, .int .i64 p.line, .int .i64 p.cap] 37))) := Lib.hid ((Below.refl _ _).alloc (Nat.le_refl _) _)
  have HC : Hid (∀ W, Below w.heap.size w W → Calls Try.prog 24 #[p.val] W fun e w' => e = .returned (.int .i64 (polE p)) ∧ Below W.heap.size W w') := Lib.hid fun W hW => pcheck_any p W (h.below hW) hc
  have hbx : (w.alloc (.cells #[.slice p.Ac p.co.length p.cc, .slice p.Af p.fu.length p.cf, .int .i64 p.line, .int .i64 p.cap] 37)).cell? ⟨w.heap.size, 0, none⟩ = some (.slice p.Ac p.co.length p.cc) := by rw [cell_new _ _ _ _ rfl]; rfl
  have hbl : w.heap.size < (w.alloc (.cells #[.slice p.Ac p.co.length p.cc, .slice p.Af p.fu.length p.cf, .int .i64 p.line, .int .i64 p.cap] 37)).heap.size := by simp
  have HBX := Lib.hid (And.intro hbx hbl)
  have HS := Lib.hid hs
  have HI := Lib.hid hI
  have HD : Hid (mayE p os = if polE p ≠ 0 then polE p else if (List.range os.length).any (obad p.co.length os) then 9 else 0) := Lib.hid rfl
  have HG := Lib.hid (fun (h0 : polE p = 0) => mayE_good (p := p) (os := os) h0)
  have HBD := Lib.hid (fun (h0 : polE p = 0) k (hk : k < os.length) => mayE_bad (p := p) (os := os) (k := k) h0 hk)
  unfold maxLen at hc
  clear h hs hI hbx hbl
  generalize mayE p os = me at *
  unfold Pol.val at *
  go_enter Try.func46, Try.ntmps46
  go_wp2_with fail
  generalize w.alloc (.cells #[.slice p.Ac p.co.length p.cc, .slice p.Af p.fu.length p.cf, .int .i64 p.line, .int .i64 p.cap] 37) = w0 at *
  refine (HC.out _ HB0.out).mono ?_
  rintro e w1 ⟨rfl, hb1⟩
  have HB1 : Hid (Below w.heap.size w w1) := Lib.hid (HB0.out.trans (hb1.mono HB0.out.size))
  have hbx : w1.cell? ⟨w.heap.size, 0, none⟩ = some (.slice p.Ac p.co.length p.cc) := (hb1.cell (p := ⟨w.heap.size, 0, none⟩) HBX.out.2).trans HBX.out.1
  clear hb1 HB0 HC HBX
  by_cases h0 : polE p = 0
  · rw [h0]
    have HG := Lib.hid (HG.out h0)
    have HBD := Lib.hid (HBD.out h0)
    clear HD h0
    go_wp2_with fail
    go_loop [6, 16] (fun la i => ∃ k : Nat, ∃ lv : Int, k ≤ os.length ∧ i = .int .i64 k ∧ la = .int .i64 lv ∧ 0 ≤ lv ∧ Hid (lv = if k = 0 then 0 else os.getD (k - 1) 0) ∧ Hid (∀ j, j < k → obad p.co.length os j = false)) (fun _ i => os.length - (intOf i).toNat)
    case atStart => exact ⟨0, 0, Nat.zero_le _, rfl, rfl, Int.le_refl _, rfl, fun j h => absurd h (Nat.not_lt_zero _)⟩
    case round =>
      obtain ⟨k, lv, hk, rfl, rfl, hlv, HLV, HK⟩ := hrel
      by_cases hlt : k < os.length
      · obtain ⟨b, o, rfl, hb, d0⟩ := int_at (HS.out.below HB1.out) hlt
        have HOB : Hid (obad p.co.length os k = (decide (os[k] < 1) || (decide ((p.co.length : Int) < os[k]) || (decide (0 < k) && decide (os[k] ≤ os.getD (k - 1) 0))))) := Lib.hid (by unfold obad; rw [getD_at hlt])
        have HKB := Lib.hid (HBD.out k hlt)
        have HNX : Hid (os.getD k 0 = os[k]) := Lib.hid (getD_at hlt)
        generalize os[k] = x at *
        by_cases h1 : x ≤ lv
        · have hE : obad p.co.length os k = true := by
            rw [HOB.out]
            have := HLV.out
            by_cases hk0 : k = 0
            · rw [if_pos hk0] at this
              rw [decide_eq_true (by omega : x < 1)]; rfl
            · rw [if_neg hk0] at this
              rw [decide_eq_true (by omega : 0 < k), decide_eq_true (by omega : x ≤ os.getD (k - 1) 0)]
              simp
          have HE := Lib.hid (HKB.out hE)
          have h1d : decide (x ≤ lv) = true := decide_eq_true h1
          clear hE
          go_wp2_with fail
          go_ret
          exact ⟨ret_int HE.out.symm, HB1.out⟩
        · have h1d : decide (x ≤ lv) = false := decide_eq_false h1
          by_cases h2 : (p.co.length : Int) < x
          · have hE : obad p.co.length os k = true := by
              rw [HOB.out, decide_eq_true h2]
              simp
            have HE := Lib.hid (HKB.out hE)
            have h2d : decide ((p.co.length : Int) < x) = true := decide_eq_true h2
            clear hE
            go_wp2_with fail
            go_ret
            exact ⟨ret_int HE.out.symm, HB1.out⟩
          · have h2d : decide ((p.co.length : Int) < x) = false := decide_eq_false h2
            have hE : obad p.co.length os k = false := by
              rw [HOB.out]
              have := HLV.out
              by_cases hk0 : k = 0
              · subst hk0
                rw [decide_eq_false (by omega : ¬ x < 1), h2d]; rfl
              · rw [if_neg hk0] at this
                rw [decide_eq_false (by omega : ¬ x < 1), h2d, decide_eq_false (by omega : ¬ x ≤ os.getD (k - 1) 0)]
                simp
            have HK2 : Hid (∀ j, j < k + 1 → obad p.co.length os j = false) := Lib.hid fun j hj => by
              by_cases e : j = k
              · subst e; exact hE
              · exact HK.out j (by omega)
            have HL2 : Hid (x = if k + 1 = 0 then 0 else os.getD (k + 1 - 1) 0) := Lib.hid (by
              rw [if_neg (by omega), Nat.add_sub_cancel]; exact HNX.out.symm)
            clear hE
            go_wp2_with fail
            go_round
            case rel => exact ⟨k + 1, x, by omega, by go_num, rfl, by omega, HL2, HK2⟩
            case measure => simp [intOf]; omega
      · obtain rfl : k = os.length := by omega
        have HE := Lib.hid (HG.out HK.out)
        go_wp2_with fail
        go_ret
        exact ⟨ret_int HE.out.symm, HB1.out⟩
  · have HE : Hid (me = polE p) := Lib.hid (by rw [HD.out, if_pos h0])
    clear HD HG HBD
    generalize polE p = pe at *
    have hpe : (pe != 0) = true := by simpa [bne] using h0
    go_wp2_with fail
    go_ret
    exact ⟨ret_int HE.out.symm, HB1.out⟩
end Go.Proofs.Ytglpnpjjjihghaa
