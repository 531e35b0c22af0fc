/-
  Several texts in one: Sd4, Sd5, Sd6.
-/
import Derived.Test.YtmplokdbbhlomaaGreatDoorSdA
import Derived.Test.YtmplokdbbhlomaaGreatDoorScG
/-
  What complineref33.number comes to, over this seat's translation: a contract for callers. (Printed by gen_sd4.py.)
-/
namespace Go.Proofs.YtmplokdbbhlomaaGreatDoor
open Go.RowKit

def badC (c m : Int) : Prop := c < 0 ∨ 9 < c ∨ m < -922337203685477580 ∨ m = -922337203685477580 ∧ 8 < c
theorem numF_bad {s : List UInt8} {k : Nat} (hk : k < s.length) {m : Int} (h : badC ((s[k].toNat : Int) - 48) m) : numF (s.drop k) m = none := by
  rw [List.drop_eq_getElem_cons hk, numF]
  exact if_pos h
theorem numF_go {s : List UInt8} {k : Nat} (hk : k < s.length) {m : Int} (h : ¬ badC ((s[k].toNat : Int) - 48) m) : numF (s.drop k) m = numF (s.drop (k + 1)) (m * 10 - ((s[k].toNat : Int) - 48)) := by
  rw [List.drop_eq_getElem_cons hk, numF]
  exact if_neg h
/-- What is handed back behind the digits. -/
def numE (s : List UInt8) (b : Bool) (F : Option Int) : Int × Bool := match F with
  | none => (0, false)
  | some n => if b = false ∧ n = -9223372036854775808 then (0, false) else ((if b then n else -n), Lib.itoa (if b then n else -n) == s)
theorem numD_E (s : List UInt8) : numD s = numE s (belowB s) (numF (s.drop (if belowB s then 1 else 0)) 0) := by
  unfold numD numE
  cases belowB s with
  | true => rfl
  | false => rfl
set_option maxRecDepth 100000 in
set_option maxHeartbeats 12800000 in
theorem rnumber_any (s : List UInt8) (w : World) (hl : s.length ≤ 100000) : Calls Tryz.prog 33 #[.string (bs s)] w fun e w' => e = .returned (.tuple #[.int .i64 (numD s).1, .bool (numD s).2]) ∧ Below w.heap.size w w' := by
  have hsz := bs_size s
  obtain ⟨T, HT0⟩ : ∃ T, Hid (T = numD s) := ⟨_, Lib.hid rfl⟩
  rw [← HT0.out]
  rw [numD_E] at HT0
  cases hb : belowB s with
  | true =>
    have hpos : 1 ≤ s.length := by
      cases s with
      | nil => cases hb
      | cons b l => simp
    have h45 : (bs s)[0]'(by rw [bs_size]; omega) = 45 := by
      cases s with
      | nil => cases hb
      | cons b l =>
        have : (some b == some (45 : UInt8)) = true := hb
        show b = 45
        simpa using this
    have HT : Hid (T = numE s true (numF (s.drop 1) 0)) := Lib.hid (by rw [HT0.out, hb]; rfl)
    generalize hF : numF (s.drop 1) 0 = F at *
    have HF0 : Hid (F = numF (s.drop 1) 0) := Lib.hid hF.symm
    clear hF HT0 hb
    go_enter Tryz.func33, Tryz.ntmps33
    go_wp2_with fail
    go_loopw [4, 6, 7] (fun nv i _ wr => ∃ (k : Nat) (m : Int), k ≤ s.length ∧ i = .int .i64 (k : Int) ∧ nv = .int .i64 m ∧ -9223372036854775808 ≤ m ∧ m ≤ 0 ∧ Hid (F = numF (s.drop k) m) ∧ Hid (Below w.heap.size w wr)) (fun _ i _ _ => s.length - (intOf i).toNat)
    case atStart => exact ⟨1, 0, hpos, rfl, rfl, by omega, by omega, HF0, Below.refl _ _⟩
    case round =>
      clear HF0
      obtain ⟨k, m, hk, rfl, rfl, hm0, hm1, HIF, HB⟩ := hrel
      by_cases hlt : k < s.length
      · have hkb : k < (bs s).size := by rw [bs_size]; exact hlt
        obtain ⟨c, hce, hcd⟩ : ∃ c, (bs s)[k]'hkb = c ∧ c = s[k] := ⟨_, rfl, rfl⟩
        have HB0 := Lib.hid (numF_bad hlt (m := m))
        have HG0 := Lib.hid (numF_go hlt (m := m))
        rw [← hcd] at HB0 HG0
        clear hcd
        have hc256 := c.toNat_lt
        by_cases g1 : (c.toNat : Int) - 48 < 0
        · have d1 : decide ((c.toNat : Int) - 48 < 0) = true := decide_eq_true g1
          have HF := Lib.hid (HB0.out (.inl g1))
          have HT2 : Hid (T = (0, false)) := Lib.hid (by rw [HT.out, HIF.out, HF.out]; rfl)
          clear HB0 HG0 HF HIF
          go_wp2_with fail
          go_ret2
          rw [HT2.out]
          exact ⟨rfl, HB.out⟩
        have d1 : decide ((c.toNat : Int) - 48 < 0) = false := decide_eq_false g1
        by_cases g2 : 9 < (c.toNat : Int) - 48
        · have d2 : decide (9 < (c.toNat : Int) - 48) = true := decide_eq_true g2
          have HF := Lib.hid (HB0.out (.inr (.inl g2)))
          have HT2 : Hid (T = (0, false)) := Lib.hid (by rw [HT.out, HIF.out, HF.out]; rfl)
          clear HB0 HG0 HF HIF
          go_wp2_with fail
          go_ret2
          rw [HT2.out]
          exact ⟨rfl, HB.out⟩
        have d2 : decide (9 < (c.toNat : Int) - 48) = false := decide_eq_false g2
        by_cases g3 : m < -922337203685477580
        · have d3 : decide (m < -922337203685477580) = true := decide_eq_true g3
          have HF := Lib.hid (HB0.out (.inr (.inr (.inl g3))))
          have HT2 : Hid (T = (0, false)) := Lib.hid (by rw [HT.out, HIF.out, HF.out]; rfl)
          clear HB0 HG0 HF HIF
          go_wp2_with fail
          go_ret2
          rw [HT2.out]
          exact ⟨rfl, HB.out⟩
        have d3 : decide (m < -922337203685477580) = false := decide_eq_false g3
        by_cases g4 : m = -922337203685477580
        · subst g4
          by_cases g5 : 8 < (c.toNat : Int) - 48
          · have d5 : decide (8 < (c.toNat : Int) - 48) = true := decide_eq_true g5
            have HF := Lib.hid (HB0.out (.inr (.inr (.inr ⟨rfl, g5⟩))))
            have HT2 : Hid (T = (0, false)) := Lib.hid (by rw [HT.out, HIF.out, HF.out]; rfl)
            clear HB0 HG0 HF HIF
            go_wp2_with fail
            go_ret2
            rw [HT2.out]
            exact ⟨rfl, HB.out⟩
          · have d5 : decide (8 < (c.toNat : Int) - 48) = false := decide_eq_false g5
            have HF2 : Hid (F = numF (s.drop (k + 1)) (-922337203685477580 * 10 - ((c.toNat : Int) - 48))) := Lib.hid (by rw [HIF.out]; exact HG0.out (by unfold badC; omega))
            clear HB0 HG0 HIF
            go_wp2_with fail
            go_roundw
            case rel => exact ⟨k + 1, _, by omega, by go_num, rfl, by omega, by omega, HF2, HB⟩
            case measure => simp [intOf]; omega
        · have d4 : (m == -922337203685477580) = false := by simpa using g4
          have HF2 : Hid (F = numF (s.drop (k + 1)) (m * 10 - ((c.toNat : Int) - 48))) := Lib.hid (by rw [HIF.out]; exact HG0.out (by unfold badC; omega))
          clear HB0 HG0 HIF
          go_wp2_with fail
          go_roundw
          case rel => exact ⟨k + 1, _, by omega, by go_num, rfl, by omega, by omega, HF2, HB⟩
          case measure => simp [intOf]; omega
      · obtain rfl : k = s.length := by omega
        have HFE : Hid (F = some m) := Lib.hid (by rw [HIF.out, List.drop_length]; rfl)
        have him : I64 m := by unfold I64; omega
        have HNB := Lib.hid (fun W => number_any m him W)
        have HT2 : Hid (T = (m, Lib.itoa m == s)) := Lib.hid (by rw [HT.out, HFE.out]; rfl)
        clear HT HFE HIF him
        generalize Lib.itoa m = t at *
        go_wp2_with (go_at_call 30; refine (HNB.out _).mono ?_; rintro e w4 ⟨rfl, hb4⟩; have HB4 := Lib.hid (HB.out.trans (hb4.mono HB.out.size)); clear hb4)
        go_ret2
        rw [HT2.out]
        exact ⟨rfl, HB4.out⟩
  | false =>
    have hcase : ¬ 0 < s.length ∨ ∃ (h : 0 < (bs s).size) (c : UInt8), (bs s)[0]'h = c ∧ ¬ c.toNat = 45 ∧ 0 < s.length := by
      cases s with
      | nil => exact .inl (by simp)
      | cons b l =>
        refine .inr ⟨by rw [bs_size]; simp, b, rfl, fun e => ?_, by simp⟩
        have hb2 : (some b == some (45 : UInt8)) = false := hb
        have : b ≠ 45 := by simpa using hb2
        exact this (UInt8.toNat_inj.1 e)
    rcases hcase with h0 | ⟨hb0, c0, hc0, hn45, h0⟩
    all_goals
      have HT : Hid (T = numE s false (numF (s.drop 0) 0)) := Lib.hid (by rw [HT0.out, hb]; rfl)
      generalize hF : numF (s.drop 0) 0 = F at *
      have HF0 : Hid (F = numF (s.drop 0) 0) := Lib.hid hF.symm
      clear hF HT0 hb
      go_enter Tryz.func33, Tryz.ntmps33
      go_wp2_with fail
      go_loopw [4, 6, 7] (fun nv i _ wr => ∃ (k : Nat) (m : Int), k ≤ s.length ∧ i = .int .i64 (k : Int) ∧ nv = .int .i64 m ∧ -9223372036854775808 ≤ m ∧ m ≤ 0 ∧ Hid (F = numF (s.drop k) m) ∧ Hid (Below w.heap.size w wr)) (fun _ i _ _ => s.length - (intOf i).toNat)
      case atStart => exact ⟨0, 0, Nat.zero_le _, rfl, rfl, by omega, by omega, HF0, Below.refl _ _⟩
      case round =>
        clear HF0
        obtain ⟨k, m, hk, rfl, rfl, hm0, hm1, HIF, HB⟩ := hrel
        by_cases hlt : k < s.length
        · have hkb : k < (bs s).size := by rw [bs_size]; exact hlt
          obtain ⟨c, hce, hcd⟩ : ∃ c, (bs s)[k]'hkb = c ∧ c = s[k] := ⟨_, rfl, rfl⟩
          have HB0 := Lib.hid (numF_bad hlt (m := m))
          have HG0 := Lib.hid (numF_go hlt (m := m))
          rw [← hcd] at HB0 HG0
          clear hcd
          have hc256 := c.toNat_lt
          by_cases g1 : (c.toNat : Int) - 48 < 0
          · have d1 : decide ((c.toNat : Int) - 48 < 0) = true := decide_eq_true g1
            have HF := Lib.hid (HB0.out (.inl g1))
            have HT2 : Hid (T = (0, false)) := Lib.hid (by rw [HT.out, HIF.out, HF.out]; rfl)
            clear HB0 HG0 HF HIF
            go_wp2_with fail
            go_ret2
            rw [HT2.out]
            exact ⟨rfl, HB.out⟩
          have d1 : decide ((c.toNat : Int) - 48 < 0) = false := decide_eq_false g1
          by_cases g2 : 9 < (c.toNat : Int) - 48
          · have d2 : decide (9 < (c.toNat : Int) - 48) = true := decide_eq_true g2
            have HF := Lib.hid (HB0.out (.inr (.inl g2)))
            have HT2 : Hid (T = (0, false)) := Lib.hid (by rw [HT.out, HIF.out, HF.out]; rfl)
            clear HB0 HG0 HF HIF
            go_wp2_with fail
            go_ret2
            rw [HT2.out]
            exact ⟨rfl, HB.out⟩
          have d2 : decide (9 < (c.toNat : Int) - 48) = false := decide_eq_false g2
          by_cases g3 : m < -922337203685477580
          · have d3 : decide (m < -922337203685477580) = true := decide_eq_true g3
            have HF := Lib.hid (HB0.out (.inr (.inr (.inl g3))))
            have HT2 : Hid (T = (0, false)) := Lib.hid (by rw [HT.out, HIF.out, HF.out]; rfl)
            clear HB0 HG0 HF HIF
            go_wp2_with fail
            go_ret2
            rw [HT2.out]
            exact ⟨rfl, HB.out⟩
          have d3 : decide (m < -922337203685477580) = false := decide_eq_false g3
          by_cases g4 : m = -922337203685477580
          · subst g4
            by_cases g5 : 8 < (c.toNat : Int) - 48
            · have d5 : decide (8 < (c.toNat : Int) - 48) = true := decide_eq_true g5
              have HF := Lib.hid (HB0.out (.inr (.inr (.inr ⟨rfl, g5⟩))))
              have HT2 : Hid (T = (0, false)) := Lib.hid (by rw [HT.out, HIF.out, HF.out]; rfl)
              clear HB0 HG0 HF HIF
              go_wp2_with fail
              go_ret2
              rw [HT2.out]
              exact ⟨rfl, HB.out⟩
            · have d5 : decide (8 < (c.toNat : Int) - 48) = false := decide_eq_false g5
              have HF2 : Hid (F = numF (s.drop (k + 1)) (-922337203685477580 * 10 - ((c.toNat : Int) - 48))) := Lib.hid (by rw [HIF.out]; exact HG0.out (by unfold badC; omega))
              clear HB0 HG0 HIF
              go_wp2_with fail
              go_roundw
              case rel => exact ⟨k + 1, _, by omega, by go_num, rfl, by omega, by omega, HF2, HB⟩
              case measure => simp [intOf]; omega
          · have d4 : (m == -922337203685477580) = false := by simpa using g4
            have HF2 : Hid (F = numF (s.drop (k + 1)) (m * 10 - ((c.toNat : Int) - 48))) := Lib.hid (by rw [HIF.out]; exact HG0.out (by unfold badC; omega))
            clear HB0 HG0 HIF
            go_wp2_with fail
            go_roundw
            case rel => exact ⟨k + 1, _, by omega, by go_num, rfl, by omega, by omega, HF2, HB⟩
            case measure => simp [intOf]; omega
        · obtain rfl : k = s.length := by omega
          have HFE : Hid (F = some m) := Lib.hid (by rw [HIF.out, List.drop_length]; rfl)
          by_cases hmin : m = -9223372036854775808
          · subst hmin
            have HT2 : Hid (T = (0, false)) := Lib.hid (by rw [HT.out, HFE.out]; rfl)
            clear HT HFE HIF
            go_wp2_with fail
            go_ret2
            rw [HT2.out]
            exact ⟨rfl, HB.out⟩
          · have hd : (m == -9223372036854775808) = false := by simpa using hmin
            have him : I64 (-m) := by unfold I64; omega
            have HNB := Lib.hid (fun W => number_any (-m) him W)
            have HT2 : Hid (T = (-m, Lib.itoa (-m) == s)) := Lib.hid (by
              rw [HT.out, HFE.out]
              show (if _ then _ else _) = _
              rw [if_neg (fun h => hmin h.2)]
              rfl)
            have hm2 : -9223372036854775807 ≤ m := by omega
            clear HT HFE HIF him hmin
            generalize Lib.itoa (-m) = t at *
            go_wp2_with (go_at_call 30; refine (HNB.out _).mono ?_; rintro e w4 ⟨rfl, hb4⟩; have HB4 := Lib.hid (HB.out.trans (hb4.mono HB.out.size)); clear hb4)
            go_ret2
            rw [HT2.out]
            exact ⟨rfl, HB4.out⟩
end Go.Proofs.YtmplokdbbhlomaaGreatDoor

/-
  What complineref07.All and codec.Kind come to, over this seat's translation: contracts for callers.
-/
namespace Go.Proofs.YtmplokdbbhlomaaGreatDoor
open Go.RowKit

theorem flat_len : ∀ (l : List Int), (∀ n ∈ l, I64 n) → (l.flatMap putN).length ≤ 10 * l.length
  | [], _ => by simp
  | n :: l, h => by
    have h1 := flat_len l fun m hm => h m (List.mem_cons_of_mem _ hm)
    have h2 := putN_len (h n (List.mem_cons_self ..))
    rw [List.flatMap_cons, List.length_append, List.length_cons]
    omega
set_option maxRecDepth 100000 in
set_option maxHeartbeats 3200000 in
theorem rall_any (l : List Int) (A : Option Addr) (c : Nat) (w : World) (hs : Seg w w.heap.size A (l.map (Value.int .i64))) (hI : ∀ n ∈ l, I64 n) (hl : l.length ≤ 100000) : Calls Tryz.prog 36 #[.slice A l.length c] w fun e w' => e = .returned (.string (bs (l.flatMap putN))) ∧ Below w.heap.size w w' := by
  have HS := Lib.hid hs
  have HI := Lib.hid hI
  clear hs hI
  have HLE : Hid (l.flatMap putN = (l.take l.length).flatMap putN) := Lib.hid (by rw [List.take_length])
  obtain ⟨R, HR⟩ : ∃ R, Hid (R = l.flatMap putN) := ⟨_, Lib.hid rfl⟩
  rw [← HR.out]
  go_enter Tryz.func36, Tryz.ntmps36
  go_wp2_with fail
  go_loopw [3, 4] (fun vs i wr => ∃ k : Nat, k ≤ l.length ∧ i = .int .i64 (k : Int) ∧ vs = .string (bs ((l.take k).flatMap putN)) ∧ Hid (Below w.heap.size w wr)) (fun _ i _ => l.length - (intOf i).toNat)
  case atStart => exact ⟨0, Nat.zero_le _, rfl, rfl, Below.refl _ _⟩
  case round =>
    obtain ⟨k, hk, rfl, rfl, HB⟩ := hrel
    by_cases hlt : k < l.length
    · obtain ⟨b, o, rfl, hb, hc⟩ := (HS.out.below HB.out).at (k := k) (by rw [List.length_map]; exact hlt)
      rw [List.getElem_map] at hc
      have hin := HI.out _ (List.getElem_mem hlt)
      have HSN : Hid ((l.take (k + 1)).flatMap putN = (l.take k).flatMap putN ++ putN l[k]) := Lib.hid (by rw [List.take_succ_eq_append_getElem hlt, List.flatMap_append]; simp)
      have hfl := flat_len (l.take k) (fun n hn => HI.out n (List.mem_of_mem_take hn))
      rw [List.length_take] at hfl
      have hil := putN_len hin
      have HPN := Lib.hid (fun W => rput_any l[k] W hin)
      clear hin
      generalize l[k] = y at *
      generalize putN y = ti at *
      generalize (l.take k).flatMap putN = pk at *
      have hs1 := bs_size ti
      have hs2 := bs_size pk
      have hap := bs_append pk ti
      have hbig : ¬ 9223372036854775807 < pk.length + ti.length := by omega
      clear hfl
      go_wp2_with (go_at_call 35; refine (HPN.out _).mono ?_; rintro e w3 ⟨rfl, hb3⟩; have HB3 := Lib.hid (HB.out.trans (hb3.mono HB.out.size)); clear hb3)
      go_roundw
      case rel => exact ⟨k + 1, by omega, by go_num, by rw [HSN.out], HB3⟩
      case measure => simp [intOf]; omega
    · obtain rfl : k = l.length := by omega
      go_wp2_with fail
      go_ret
      exact ⟨by rw [HR.out, HLE.out]; rfl, HB.out⟩
theorem kindW_at {w : List UInt8} {k : Nat} (h1 : 1 ≤ k) (h2 : k < 11) (h : wordL k = w) : kindW w = k := by rw [← h]; exact kind_word h1 (by omega)
theorem kindW_none {w : List UInt8} (h : ∀ k, 1 ≤ k → k < 11 → wordL k ≠ w) : kindW w = 0 := by
  apply Classical.byContradiction
  intro h0
  have h2 := word_kind h0
  have h3 := kind_le w
  exact h (kindW w) (by omega) (by omega) h2.symm
set_option maxRecDepth 100000 in
set_option maxHeartbeats 6400000 in
theorem kind_any (t : List UInt8) (w : World) (hw : WordsC w) : Calls Tryz.prog 26 #[.string (bs t)] w fun e w' => e = .returned (.tuple #[.int .i64 (kindW t : Nat), .bool (kindW t != 0)]) ∧ Below w.heap.size w w' := by
  have HW := Lib.hid hw
  clear hw
  have HA := Lib.hid (fun k => kindW_at (w := t) (k := k))
  have HN := Lib.hid (kindW_none (w := t))
  generalize kindW t = K at *
  go_enter Tryz.func26, Tryz.ntmps26
  go_wp2_with fail
  go_loopw [4, 5] (fun _ i wr => ∃ k : Nat, k ≤ 11 ∧ i = .int .i64 (k : Int) ∧ Hid (∀ j, 1 ≤ j → j < k → wordL j ≠ t) ∧ Hid (Below w.heap.size w wr)) (fun _ i _ => 11 - (intOf i).toNat)
  case atStart => exact ⟨0, by omega, rfl, fun j h1 h2 => by omega, Below.refl _ _⟩
  case round =>
    obtain ⟨k, hk, rfl, HNO, HB⟩ := hrel
    by_cases hlt : k < 11
    · have hwk := (HW.out.below HB.out) k hlt
      have h0 : (0 : Int) ≤ (k : Int) := by omega
      have hkb : (k : Int) < 11 := by omega
      by_cases hz : 0 < k
      · by_cases he : wordL k = t
        · have HK : Hid (K = k) := Lib.hid (HA.out k hz hlt he)
          rw [he] at hwk
          have hbz : (K != 0) = true := by rw [HK.out, bne_iff_ne]; omega
          clear he HA HN HNO
          go_wp2_with fail
          go_ret2
          rw [HK.out]
          exact ⟨by first | rfl | (congr 3; simp; omega), HB.out⟩
        · have HNO2 : Hid (∀ j, 1 ≤ j → j < k + 1 → wordL j ≠ t) := Lib.hid fun j h1 h2 => by
            by_cases hj : j = k
            · rw [hj]; exact he
            · exact HNO.out j h1 (by omega)
          have hne : (wordL k == t) = false := by simpa using he
          generalize wordL k = wk at *
          clear he
          go_wp2_with fail
          go_roundw
          case rel => exact ⟨k + 1, by omega, by go_num, HNO2, HB⟩
          case measure => simp [intOf]; omega
      · obtain rfl : k = 0 := by omega
        go_wp2_with fail
        go_roundw
        case rel => exact ⟨1, by omega, by go_num, fun j h1 h2 => by omega, HB⟩
        case measure => simp [intOf]
    · obtain rfl : k = 11 := by omega
      have HK : Hid (K = 0) := Lib.hid (HN.out fun j h1 h2 => HNO.out j h1 h2)
      clear HA HN HNO
      go_wp2_with fail
      go_ret2
      rw [HK.out]
      exact ⟨rfl, HB.out⟩
end Go.Proofs.YtmplokdbbhlomaaGreatDoor

/-
  What strconv.ParseInt and script.Parse$1 come to, over this seat's translation: contracts for callers.
-/
namespace Go.Proofs.YtmplokdbbhlomaaGreatDoor
open Go.RowKit

/-- What the walks of the lines read of the package variables. -/
structure EnvZ (w : World) : Prop where
  s : EnvS w
  syn : ∃ tp p, w.var? Tryz.prog "strconv.ErrSyntax" = some #[.iface tp p]
  rng : ∃ tp p, w.var? Tryz.prog "strconv.ErrRange" = some #[.iface tp p]
  max : ∃ m, w.cell? ⟨1, 0, none⟩ = some (.int .i64 m)
theorem g_syn : Tryz.prog.globalNamed "strconv.ErrSyntax" = some 3 := by kernel_rfl
theorem g_rng : Tryz.prog.globalNamed "strconv.ErrRange" = some 4 := by kernel_rfl
theorem EnvZ.below {w w' : World} (h : EnvZ w) (hb : Below w.heap.size w w') : EnvZ w' := by
  obtain ⟨tp, p, h1⟩ := h.syn
  obtain ⟨tq, q, h2⟩ := h.rng
  obtain ⟨m, h3⟩ := h.max
  refine ⟨h.s.below hb, ⟨tp, p, Go.Joins.var_stays g_syn h1 hb (Nat.le_refl _)⟩, ⟨tq, q, Go.Joins.var_stays g_rng h2 hb (Nat.le_refl _)⟩, m, ?_⟩
  rw [hb.cell (p := ⟨1, 0, none⟩) (World.block_lt_of_cell? w _ h3)]
  exact h3
/-- An error that is nil, or not. -/
def ErrV (ok : Bool) (v : Value) : Prop := ok = true ∧ v = .nilIface ∨ ok = false ∧ ∃ N, v = .iface 128 (.pointer (some ⟨N, 0, none⟩))
theorem pint_any (s : List UInt8) (hl : s.length ≤ 1000000) (w : World) (he : EnvZ w) : Calls Tryz.prog 25 #[.string (bs s), .int .i64 10, .int .i64 64] w fun e w' => ∃ ev, e = .returned (.tuple #[.int .i64 (pI s).1, ev]) ∧ ErrV (pI s).2 ev ∧ Below w.heap.size w w' := by
  have hsz := bs_size s
  have hd : (bs s).data.toList = s := rfl
  obtain ⟨tp, p, h1⟩ := he.syn
  obtain ⟨tq, q, h2⟩ := he.rng
  match hp : Lib.parseIntB 64 s with
  | .ok v =>
    have e1 : pI s = (v, true) := by unfold pI; rw [hp]
    rw [e1]
    refine (Tryz.strconv_ParseInt_10_at64_ok (bs s) (by omega) v (by rw [hd]; exact hp) w).mono ?_
    rintro e w' ⟨rfl, hw⟩
    refine ⟨_, rfl, .inl ⟨rfl, rfl⟩, ?_⟩
    rcases hw with rfl | ⟨t, rfl⟩
    · exact Below.refl _ _
    · exact Lib.bytesWorld_below _ _ _
  | .syntax =>
    have e1 : pI s = (0, false) := by unfold pI; rw [hp]
    rw [e1]
    refine (Tryz.strconv_ParseInt_10_at64_syntax_var (bs s) (by omega) (by rw [hd]; exact hp) tp p w h1).mono ?_
    rintro e w' ⟨N, rfl, _, _, hb⟩
    exact ⟨_, rfl, .inr ⟨rfl, N, rfl⟩, hb⟩
  | .range =>
    have e1 : pI s = (Lib.intSat 64 s, false) := by unfold pI; rw [hp]
    rw [e1]
    refine (Tryz.strconv_ParseInt_10_at64_range_var (bs s) (by omega) (by rw [hd]; exact hp) tq q w h2).mono ?_
    rintro e w' ⟨N, rfl, _, _, hb⟩
    exact ⟨_, rfl, .inr ⟨rfl, N, rfl⟩, hb⟩
/-- The blocks that script.Parse gathers in: whether all is right, and the numbers. -/
structure PsI (w : World) (g5 g6 base : Nat) (r : Bool) (xs : List Int) (W : World) : Prop where
  c5 : W.cell? ⟨g5, 0, none⟩ = some (.bool r)
  c6 : ∃ u, W.cell? ⟨g6, 0, none⟩ = some u ∧ W.ownsRow base 2 1 u xs.length (xs.map (Value.int .i64))
  f5 : ∀ j, W.frozen? ⟨g5, j, none⟩ = false
  f6 : ∀ j, W.frozen? ⟨g6, j, none⟩ = false
  b : Below w.heap.size w W
  lt : w.heap.size ≤ g5 ∧ w.heap.size ≤ g6 ∧ g5 ≠ g6 ∧ g5 < base ∧ g6 < base ∧ base ≤ W.heap.size
theorem frozen_block {w w' : World} {g : Nat} (h : w'.heap[g]? = w.heap[g]?) (j : Nat) : w'.frozen? ⟨g, j, none⟩ = w.frozen? ⟨g, j, none⟩ := by unfold World.frozen?; rw [h]
theorem PsI.below {w W W' : World} {g5 g6 base : Nat} {r : Bool} {xs : List Int} (h : PsI w g5 g6 base r xs W) (hb : Below W.heap.size W W') : PsI w g5 g6 base r xs W' := by
  obtain ⟨l1, l2, l3, l4, l5, l6⟩ := h.lt
  obtain ⟨u, hu, ho⟩ := h.c6
  exact ⟨(hb.cell (p := ⟨g5, 0, none⟩) (by show g5 < _; omega)).trans h.c5, ⟨u, (hb.cell (p := ⟨g6, 0, none⟩) (by show g6 < _; omega)).trans hu, own_keepS ho hb⟩, fun j => (frozen_block (hb.block g5 (by omega)) j).trans (h.f5 j), fun j => (frozen_block (hb.block g6 (by omega)) j).trans (h.f6 j), h.b.trans (hb.mono h.b.size), l1, l2, l3, l4, l5, Nat.le_trans l6 hb.size⟩
set_option maxRecDepth 100000 in
set_option maxHeartbeats 6400000 in
theorem next_any (s : List UInt8) (hl : s.length ≤ 1000000) (w : World) (g5 g6 base : Nat) (r : Bool) (xs : List Int) (W : World) (h : PsI w g5 g6 base r xs W) (he : EnvZ W) (hx : xs.length ≤ 100000) : Calls Tryz.prog 24 #[.string (bs s), .pointer (some ⟨g5, 0, none⟩), .pointer (some ⟨g6, 0, none⟩)] W fun e W' => e = .returned (.tuple #[]) ∧ PsI w g5 g6 base (r && (pI s).2) (xs ++ [(pI s).1]) W' := by
  have HPI := Lib.hid (pint_any s hl W he)
  have H := Lib.hid h
  clear h he
  generalize pI s = P at *
  obtain ⟨n, ok⟩ := P
  simp only at HPI ⊢
  obtain ⟨i0, hi0, hz0, hz1', hz2'⟩ := info_parts i64_infoS
  go_enter Tryz.func24, Tryz.ntmps24
  go_wp2_with (go_at_call 25; refine HPI.out.mono ?_)
  rintro e w1 ⟨ev, rfl, hev, hb1⟩
  have H1 := Lib.hid (H.out.below hb1)
  clear hb1 HPI H
  have d5 := H1.out.c5
  have f5 := H1.out.f5
  obtain ⟨l1, l2, l3, l4, l5, l6⟩ := H1.out.lt
  have hs : ∀ b : Bool, PsI w g5 g6 base b xs (w1.setCell ⟨g5, 0, none⟩ (.bool b)) := fun b => by
    have hg := grown_setS w1 g5 0 (.bool b)
    obtain ⟨u, hu, ho⟩ := H1.out.c6
    refine ⟨World.cell?_setCell_same' _ _ _ (by rw [d5]; rfl), ⟨u, (World.cell?_setCell_other _ _ _ _ (fun e => l3 (by injection e))).trans hu, ho.kept hg (.inr (own_low ho (by omega)))⟩, fun j => by rw [World.frozen?_setCell]; exact H1.out.f5 j, fun j => by rw [World.frozen?_setCell]; exact H1.out.f6 j, H1.out.b.grown hg H1.out.b.size (fun k hk => by injection hk with hk; omega), l1, l2, l3, l4, l5, by simpa using l6⟩
  have HS := Lib.hid hs
  clear hs
  have HEND : Hid (∀ (b : Bool) (W2 : World) (v' : Value) (u : Value) (w5 : World), PsI w g5 g6 base b xs W2 → W2.ownsRow base 2 1 u xs.length (xs.map (Value.int .i64)) → (W2.alloc (.cells #[.int .i64 n] 2)).grownBy w5 u.ownBlock → w5.ownsRow base 2 1 v' (xs.length + 1) (xs.map (Value.int .i64) ++ [.int .i64 n]) → PsI w g5 g6 base b (xs ++ [n]) (w5.setCell ⟨g6, 0, none⟩ v')) := Lib.hid (by
    intro b W2 v' u w5 h2 ho hg hown
    have hz2 := h2.lt.2.2.2.2.2
    have h3 := h2.below ((Below.refl _ _).alloc (Nat.le_refl _) (.cells #[.int .i64 n] 2))
    have n5 : some g5 ≠ u.ownBlock := fun e => own_low ho (g := g5) (by omega) e.symm
    have n6 : some g6 ≠ u.ownBlock := fun e => own_low ho (g := g6) (by omega) e.symm
    have hz3 : W2.heap.size < (W2.alloc (.cells #[.int .i64 n] 2)).heap.size := by simp
    have k5 := hg.block g5 (by omega) n5
    have k6 := hg.block g6 (by omega) n6
    obtain ⟨u3, hu3, _⟩ := h3.c6
    have e5 : w5.cell? ⟨g5, 0, none⟩ = some (.bool b) := (World.cell?_of_block (a := ⟨g5, 0, none⟩) k5).trans h3.c5
    have e6 : w5.cell? ⟨g6, 0, none⟩ = some u3 := (World.cell?_of_block (a := ⟨g6, 0, none⟩) k6).trans hu3
    have hgs := grown_setS w5 g6 0 v'
    have hb5 : Below w.heap.size w w5 := h3.b.grown hg h3.b.size (fun k hk => by have := own_base ho k hk; omega)
    refine ⟨(World.cell?_setCell_other _ _ _ _ (fun e => l3 (by injection e with e; exact e.symm))).trans e5, ⟨v', World.cell?_setCell_same' _ _ _ (by rw [e6]; rfl), ?_⟩, fun j => by rw [World.frozen?_setCell]; exact (frozen_block k5 j).trans (h3.f5 j), fun j => by rw [World.frozen?_setCell]; exact (frozen_block k6 j).trans (h3.f6 j), hb5.grown hgs hb5.size (fun k hk => by injection hk with hk; omega), l1, l2, l3, l4, l5, ?_⟩
    · rw [List.length_append, List.map_append]
      exact hown.kept hgs (.inr (own_low hown (by omega)))
    · have := hg.size
      simp
      omega)
  have f6 := fun (b : Bool) j => (HS.out b).f6 j
  have HC6 := Lib.hid (fun b : Bool => (HS.out b).c6)
  have hsz2 : ∀ b : Bool, (w1.setCell ⟨g5, 0, none⟩ (.bool b)).heap.size = w1.heap.size := fun b => by simp
  have HZ2 := Lib.hid hsz2
  clear hsz2
  have HST : Hid (∀ b : Bool, ∀ W2, W2 = w1.setCell ⟨g5, 0, none⟩ (.bool b) → PsI w g5 g6 base b xs W2) := Lib.hid fun b W2 e => by rw [e]; exact HS.out b
  clear f6
  rcases hev with ⟨rfl, rfl⟩ | ⟨rfl, N, rfl⟩
  · cases r with
    | false =>
      go_upto_region 2 with fail
      generalize hW : w1.setCell ⟨g5, 0, none⟩ (.bool false) = W2
      have HP := Lib.hid (HST.out _ W2 hW.symm)
      clear hW HST HS HC6 HZ2 d5 f5 H1
      obtain ⟨u, hu, ho⟩ := HP.out.c6
      have HO := Lib.hid ho
      have hz2 := HP.out.lt.2.2.2.2.2
      have hzz : g6 < W2.heap.size := by omega
      clear ho
      go_wp2_with (at_builtin; refine wpList_append_own _ rfl _ _ 46 rfl base 2 i0 _ 1 8 Tryz.underlying46 hi0 hz0 hz1' hz2' rfl (by decide) _ xs.length _ rfl (HO.out.alloc _) ⟨W2.heap.size, 0, none⟩ 1 1 [.int .i64 n] rfl rfl (new_cells _ _ #[_] rfl) (by intro u hu; simp at hu; rw [hu]; rfl) (by simp only [maxLen]; omega) (by omega) (by simp; omega) ?_)
      intro v' w5 hown5 hgr5 _
      obtain ⟨Av, cv, rfl⟩ := own_form hown5
      have HX := Lib.hid (HEND.out false W2 _ u w5 HP.out HO.out hgr5 hown5)
      have k6 := hgr5.block g6 (by simp; omega) (fun e => own_low HO.out (g := g6) (by omega) e.symm)
      have e6 : w5.cell? ⟨g6, 0, none⟩ = some u := (World.cell?_of_block (a := ⟨g6, 0, none⟩) k6).trans ((cell_old W2 _ 0 hzz).trans hu)
      have e6f : w5.frozen? ⟨g6, 0, none⟩ = false := (frozen_block k6 0).trans ((frozen_block (heap_alloc_old' W2 _ hzz) 0).trans (HP.out.f6 0))
      clear hown5 hgr5 k6 HP HO HEND hu
      go_wp2_with fail
      (go_end0; exact ⟨rfl, HX.out⟩)
    | true =>
      go_upto_region 2 with fail
      generalize hW : w1.setCell ⟨g5, 0, none⟩ (.bool true) = W2
      have HP := Lib.hid (HST.out _ W2 hW.symm)
      clear hW HST HS HC6 HZ2 d5 f5 H1
      obtain ⟨u, hu, ho⟩ := HP.out.c6
      have HO := Lib.hid ho
      have hz2 := HP.out.lt.2.2.2.2.2
      have hzz : g6 < W2.heap.size := by omega
      clear ho
      go_wp2_with (at_builtin; refine wpList_append_own _ rfl _ _ 46 rfl base 2 i0 _ 1 8 Tryz.underlying46 hi0 hz0 hz1' hz2' rfl (by decide) _ xs.length _ rfl (HO.out.alloc _) ⟨W2.heap.size, 0, none⟩ 1 1 [.int .i64 n] rfl rfl (new_cells _ _ #[_] rfl) (by intro u hu; simp at hu; rw [hu]; rfl) (by simp only [maxLen]; omega) (by omega) (by simp; omega) ?_)
      intro v' w5 hown5 hgr5 _
      obtain ⟨Av, cv, rfl⟩ := own_form hown5
      have HX := Lib.hid (HEND.out true W2 _ u w5 HP.out HO.out hgr5 hown5)
      have k6 := hgr5.block g6 (by simp; omega) (fun e => own_low HO.out (g := g6) (by omega) e.symm)
      have e6 : w5.cell? ⟨g6, 0, none⟩ = some u := (World.cell?_of_block (a := ⟨g6, 0, none⟩) k6).trans ((cell_old W2 _ 0 hzz).trans hu)
      have e6f : w5.frozen? ⟨g6, 0, none⟩ = false := (frozen_block k6 0).trans ((frozen_block (heap_alloc_old' W2 _ hzz) 0).trans (HP.out.f6 0))
      clear hown5 hgr5 k6 HP HO HEND hu
      go_wp2_with fail
      (go_end0; exact ⟨rfl, HX.out⟩)
  · cases r with
    | false =>
      go_upto_region 2 with fail
      generalize hW : w1.setCell ⟨g5, 0, none⟩ (.bool false) = W2
      have HP := Lib.hid (HST.out _ W2 hW.symm)
      clear hW HST HS HC6 HZ2 d5 f5 H1
      obtain ⟨u, hu, ho⟩ := HP.out.c6
      have HO := Lib.hid ho
      have hz2 := HP.out.lt.2.2.2.2.2
      have hzz : g6 < W2.heap.size := by omega
      clear ho
      go_wp2_with (at_builtin; refine wpList_append_own _ rfl _ _ 46 rfl base 2 i0 _ 1 8 Tryz.underlying46 hi0 hz0 hz1' hz2' rfl (by decide) _ xs.length _ rfl (HO.out.alloc _) ⟨W2.heap.size, 0, none⟩ 1 1 [.int .i64 n] rfl rfl (new_cells _ _ #[_] rfl) (by intro u hu; simp at hu; rw [hu]; rfl) (by simp only [maxLen]; omega) (by omega) (by simp; omega) ?_)
      intro v' w5 hown5 hgr5 _
      obtain ⟨Av, cv, rfl⟩ := own_form hown5
      have HX := Lib.hid (HEND.out false W2 _ u w5 HP.out HO.out hgr5 hown5)
      have k6 := hgr5.block g6 (by simp; omega) (fun e => own_low HO.out (g := g6) (by omega) e.symm)
      have e6 : w5.cell? ⟨g6, 0, none⟩ = some u := (World.cell?_of_block (a := ⟨g6, 0, none⟩) k6).trans ((cell_old W2 _ 0 hzz).trans hu)
      have e6f : w5.frozen? ⟨g6, 0, none⟩ = false := (frozen_block k6 0).trans ((frozen_block (heap_alloc_old' W2 _ hzz) 0).trans (HP.out.f6 0))
      clear hown5 hgr5 k6 HP HO HEND hu
      go_wp2_with fail
      (go_end0; exact ⟨rfl, HX.out⟩)
    | true =>
      go_upto_region 2 with fail
      generalize hW : w1.setCell ⟨g5, 0, none⟩ (.bool false) = W2
      have HP := Lib.hid (HST.out _ W2 hW.symm)
      clear hW HST HS HC6 HZ2 d5 f5 H1
      obtain ⟨u, hu, ho⟩ := HP.out.c6
      have HO := Lib.hid ho
      have hz2 := HP.out.lt.2.2.2.2.2
      have hzz : g6 < W2.heap.size := by omega
      clear ho
      go_wp2_with (at_builtin; refine wpList_append_own _ rfl _ _ 46 rfl base 2 i0 _ 1 8 Tryz.underlying46 hi0 hz0 hz1' hz2' rfl (by decide) _ xs.length _ rfl (HO.out.alloc _) ⟨W2.heap.size, 0, none⟩ 1 1 [.int .i64 n] rfl rfl (new_cells _ _ #[_] rfl) (by intro u hu; simp at hu; rw [hu]; rfl) (by simp only [maxLen]; omega) (by omega) (by simp; omega) ?_)
      intro v' w5 hown5 hgr5 _
      obtain ⟨Av, cv, rfl⟩ := own_form hown5
      have HX := Lib.hid (HEND.out false W2 _ u w5 HP.out HO.out hgr5 hown5)
      have k6 := hgr5.block g6 (by simp; omega) (fun e => own_low HO.out (g := g6) (by omega) e.symm)
      have e6 : w5.cell? ⟨g6, 0, none⟩ = some u := (World.cell?_of_block (a := ⟨g6, 0, none⟩) k6).trans ((cell_old W2 _ 0 hzz).trans hu)
      have e6f : w5.frozen? ⟨g6, 0, none⟩ = false := (frozen_block k6 0).trans ((frozen_block (heap_alloc_old' W2 _ hzz) 0).trans (HP.out.f6 0))
      clear hown5 hgr5 k6 HP HO HEND hu
      go_wp2_with fail
      (go_end0; exact ⟨rfl, HX.out⟩)
end Go.Proofs.YtmplokdbbhlomaaGreatDoor
