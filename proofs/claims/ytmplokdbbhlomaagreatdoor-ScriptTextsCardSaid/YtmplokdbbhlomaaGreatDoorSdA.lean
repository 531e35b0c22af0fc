/-
  Several texts in one: Sd1, Sd2, Sd3.
-/
import Derived.Test.YtmplokdbbhlomaaGreatDoorScF
import Derived.Test.YtmplokdbbhlomaaGreatDoorSrA
import Derived.Test.YtmplokdbbhlomaaGreatDoorSr5
import Derived.Test.YtmplokdbbhlomaaGreatDoorScE
import Derived.Deep.Cut
/-
  What complineref01.Size, Digits and complineref22.Number come to, over this seat's translation: contracts for callers.
-/
namespace Go.Proofs.YtmplokdbbhlomaaGreatDoor
open Go.RowKit

set_option maxHeartbeats 1600000 in
theorem size_any (n : Int) (h : I64 n) (w : World) : Calls Tryz.prog 59 #[.int .i64 n] w fun e w' => e = .returned (.int .u64 (n.natAbs : Nat)) ∧ w = w' := by
  unfold I64 at h
  by_cases h0 : 0 ≤ n
  · have hd : decide ((0 : Int) ≤ n) = true := decide_eq_true h0
    have hw : IntKind.u64.wrap n = ((n.natAbs : Nat) : Int) := by rw [IntKind.wrap_u64]; omega
    go_enter Tryz.func59, Tryz.ntmps59
    go_wp2_with fail
    go_ret
    exact ⟨rfl, rfl⟩
  · have hd : decide ((0 : Int) ≤ n) = false := decide_eq_false h0
    have hw : -(n + 1) + 1 = ((n.natAbs : Nat) : Int) := by omega
    have HW := Lib.hid hw
    clear hw
    go_enter Tryz.func59, Tryz.ntmps59
    go_wp2_with fail
    go_ret
    rw [← HW.out]
    exact ⟨rfl, rfl⟩
def preD (n : Nat) : List UInt8 := if n < 10 then [] else Lib.decDigits (n / 10)
theorem digits_pre (n : Nat) : Lib.decDigits n = preD n ++ [(48 + n % 10).toUInt8] := by
  unfold preD
  rw [Lib.decDigits]
  split
  · rename_i h
    rw [Nat.mod_eq_of_lt h]
    rfl
  · rfl
set_option maxRecDepth 100000 in
set_option maxHeartbeats 1600000 in
theorem digits_any (u : Nat) (hu : u < 18446744073709551616) (w : World) : Calls Tryz.prog 58 #[.int .u64 (u : Int)] w fun e w' => e = .returned (.string (bs (Lib.decDigits u))) ∧ Below w.heap.size w w' := by
  have hlen := decDigits_len 19 u (by
    have e : (10 : Nat) ^ (19 + 1) = 100000000000000000000 := by decide
    omega)
  have HD := Lib.hid (digits_pre u)
  obtain ⟨L, HL⟩ : ∃ L, Hid (L = Lib.decDigits u) := ⟨_, Lib.hid rfl⟩
  rw [← HL.out]
  rw [← HL.out] at hlen HD
  have hb : (48 + (u : Int) % 10) = ((48 + u % 10 : Nat) : Int) := by omega
  have hw8 : IntKind.u8.wrap ((48 + u % 10 : Nat) : Int) = ((48 + u % 10 : Nat) : Int) := by rw [IntKind.wrap_u8]; omega
  have hw8b : ((48 + u % 10 : Nat) : Int) % 256 = ((48 + u % 10 : Nat) : Int) := by omega
  have hcv := conv_new w (48 + u % 10) (by omega)
  have HB1 : Hid (Below w.heap.size w (w.alloc (.cells #[.int .u8 ((48 + u % 10 : Nat) : Int)] 5))) := Lib.hid ((Below.refl _ _).alloc (Nat.le_refl _) _)
  generalize 48 + u % 10 = q at *
  go_enter Tryz.func58, Tryz.ntmps58
  go_wp2_with fail
  clear hcv hb hw8 hw8b
  go_loopw [0, 3] (fun n s wr => ∃ (v : Nat) (t : List UInt8), v ≤ u ∧ n = .int .u64 (v : Int) ∧ s = .string (bs t) ∧ Hid (L = preD v ++ t) ∧ Hid (Below w.heap.size w wr)) (fun n _ _ => (intOf n).toNat)
  case atStart => exact ⟨u, [q.toUInt8], Nat.le_refl _, rfl, rfl, HD, HB1⟩
  case round =>
    clear HB1 HD
    obtain ⟨v, t, hv, rfl, rfl, HT, HB⟩ := hrel
    have htl : t.length ≤ 20 := by
      have h2 := congrArg List.length HT.out
      rw [List.length_append] at h2
      omega
    by_cases h9 : 9 < v
    · have hge : decide ((9 : Int) < (v : Int)) = true := decide_eq_true (by omega)
      have HT2 : Hid (L = preD (v / 10) ++ ([(48 + v / 10 % 10).toUInt8] ++ t)) := Lib.hid (by
        rw [HT.out, ← List.append_assoc, ← digits_pre (v / 10)]
        unfold preD
        rw [if_neg (by omega)])
      have hdv : (v : Int) / 10 = ((v / 10 : Nat) : Int) := by omega
      have HVB : Hid (v / 10 ≤ u ∧ v / 10 < v) := Lib.hid (by omega)
      clear HT
      generalize v / 10 = y at *
      have hb : (48 + (y : Int) % 10) = ((48 + y % 10 : Nat) : Int) := by omega
      have hw8 : IntKind.u8.wrap ((48 + y % 10 : Nat) : Int) = ((48 + y % 10 : Nat) : Int) := by rw [IntKind.wrap_u8]; omega
      have hw8b : ((48 + y % 10 : Nat) : Int) % 256 = ((48 + y % 10 : Nat) : Int) := by omega
      have hcv := conv_new wr (48 + y % 10) (by omega)
      have HBA : Hid (Below w.heap.size w (wr.alloc (.cells #[.int .u8 ((48 + y % 10 : Nat) : Int)] 5))) := Lib.hid (HB.out.alloc HB.out.size _)
      generalize 48 + y % 10 = q2 at *
      have hs1 := bs_size [q2.toUInt8]
      have hs2 := bs_size t
      have hap := bs_append [q2.toUInt8] t
      have hbig : ¬ 9223372036854775807 < 1 + t.length := by omega
      go_wp2_with fail
      go_roundw
      case rel => exact ⟨y, [q2.toUInt8] ++ t, HVB.out.1, by congr 1, rfl, HT2, HBA⟩
      case measure =>
        have := HVB.out.2
        simp only [intOf]
        omega
    · have hge : decide ((9 : Int) < (v : Int)) = false := decide_eq_false (by omega)
      have HE : Hid (L = t) := Lib.hid (by rw [HT.out]; unfold preD; rw [if_pos (by omega)]; rfl)
      go_wp2_with fail
      go_ret
      exact ⟨by rw [HE.out]; rfl, HB.out⟩
set_option maxHeartbeats 1600000 in
theorem number_any (n : Int) (h : I64 n) (w : World) : Calls Tryz.prog 30 #[.int .i64 n] w fun e w' => e = .returned (.string (bs (Lib.itoa n))) ∧ Below w.heap.size w w' := by
  have HS := Lib.hid (fun W => size_any n h W)
  have HG := Lib.hid (fun W => digits_any n.natAbs (by unfold I64 at h; omega) W)
  have hlen := decDigits_len 19 n.natAbs (by
    have e : (10 : Nat) ^ (19 + 1) = 100000000000000000000 := by decide
    unfold I64 at h
    omega)
  by_cases hn : n < 0
  · have hd : decide (n < 0) = true := decide_eq_true hn
    have HE : Hid (Lib.itoa n = [45] ++ Lib.decDigits n.natAbs) := Lib.hid (by unfold Lib.itoa; rw [if_pos hn]; rfl)
    generalize Lib.itoa n = L at *
    generalize Lib.decDigits n.natAbs = dg at *
    have hs1 := bs_size dg
    have hs0 := bs_size [45]
    have hap := bs_append [45] dg
    have hbig : ¬ 9223372036854775807 < 1 + dg.length := by omega
    go_enter Tryz.func30, Tryz.ntmps30
    go_wp2_with (first | (go_at_call 59; refine (HS.out _).mono ?_; rintro e ws ⟨rfl, rfl⟩) | (go_at_call 58; refine (HG.out _).mono ?_; rintro e w1 ⟨rfl, hb⟩; have HB1 := Lib.hid hb; clear hb))
    go_ret
    exact ⟨by rw [HE.out]; first | rfl | (rw [← hap]; rfl), HB1.out⟩
  · have hd : decide (n < 0) = false := decide_eq_false hn
    have HE : Hid (Lib.itoa n = Lib.decDigits n.natAbs) := Lib.hid (by unfold Lib.itoa; rw [if_neg hn]; congr 1; omega)
    generalize Lib.itoa n = L at *
    generalize Lib.decDigits n.natAbs = dg at *
    go_enter Tryz.func30, Tryz.ntmps30
    go_wp2_with (first | (go_at_call 59; refine (HS.out _).mono ?_; rintro e ws ⟨rfl, rfl⟩) | (go_at_call 58; refine (HG.out _).mono ?_; rintro e w1 ⟨rfl, hb⟩; have HB1 := Lib.hid hb; clear hb))
    go_ret
    exact ⟨by rw [HE.out]; rfl, HB1.out⟩
end Go.Proofs.YtmplokdbbhlomaaGreatDoor

/-
  What complineref33.Line comes to, over this seat's translation: a contract for callers.
-/
namespace Go.Proofs.YtmplokdbbhlomaaGreatDoor
open Go.RowKit

def wordsA : Array Value := #[.string (bs []), .string (bs [111, 112, 101, 110]), .string (bs [116, 114, 97, 100, 101]), .string (bs [99, 97, 110, 99, 101, 108]), .string (bs [112, 97, 121]), .string (bs [100, 101, 108, 105, 118, 101, 114]), .string (bs [114, 101, 99, 97, 108, 108]), .string (bs [98, 105, 100]), .string (bs [116, 111, 112]), .string (bs [100, 114, 97, 119]), .string (bs [116, 105, 99, 107])]
theorem wordsA_at {n : Nat} (h : n < 11) : wordsA[n]? = some (.string (bs (wordL n))) := by
  have h11 : n = 0 ∨ n = 1 ∨ n = 2 ∨ n = 3 ∨ n = 4 ∨ n = 5 ∨ n = 6 ∨ n = 7 ∨ n = 8 ∨ n = 9 ∨ n = 10 := by omega
  rcases h11 with rfl | rfl | rfl | rfl | rfl | rfl | rfl | rfl | rfl | rfl | rfl <;> rfl
set_option maxRecDepth 100000 in
set_option maxHeartbeats 12800000 in
theorem srline_any (x : St) (hx : StOk x) (hk : x.k = 2 ∨ x.k = 3 ∨ x.k = 1 ∧ isK x.c.k = true) (w : World) : Calls Tryz.prog 10 #[stV x] w fun e w' => e = .returned (.string (bs (lineS x))) ∧ Below w.heap.size w w' := by
  obtain ⟨k, c, n⟩ := x
  obtain ⟨hx1, hx2, hx3⟩ := hx
  simp only at hx1 hx2 hx3 hk
  have HW0 : Hid (Below w.heap.size w (w.alloc (.cells (stCells ⟨k, c, n⟩) TSt))) := Lib.hid ((Below.refl _ _).alloc (Nat.le_refl _) _)
  have HNB := Lib.hid (fun W => number_any n hx3 W)
  have hil := itoa_len hx3
  unfold stCells at HW0
  simp only at HW0
  unfold stV stCells
  simp only
  rcases hk with rfl | rfl | ⟨rfl, hck⟩
  · have HE : Hid (lineS ⟨2, c, n⟩ = [102, 117, 115, 101, 32] ++ Lib.itoa n) := Lib.hid (by simp [lineS, wordS, numsS, fuseW, numL])
    generalize Lib.itoa n = t at *
    have hs1 := bs_size t
    have hap := bs_append [102, 117, 115, 101, 32] t
    have hbig : ¬ 9223372036854775807 < 5 + t.length := by omega
    go_enter Tryz.func10, Tryz.ntmps10
    go_wp2_with (go_at_call 30; refine (HNB.out _).mono ?_; rintro e w1 ⟨rfl, hb⟩; have HB1 : Hid (Below w.heap.size w w1) := Lib.hid (HW0.out.trans (hb.mono HW0.out.size)); clear hb)
    go_ret
    exact ⟨by rw [HE.out, ← hap]; rfl, HB1.out⟩
  · have HE : Hid (lineS ⟨3, c, n⟩ = [99, 114, 97, 115, 104, 32] ++ Lib.itoa n) := Lib.hid (by simp [lineS, wordS, numsS, crashW, numL])
    generalize Lib.itoa n = t at *
    have hs1 := bs_size t
    have hap := bs_append [99, 114, 97, 115, 104, 32] t
    have hbig : ¬ 9223372036854775807 < 6 + t.length := by omega
    go_enter Tryz.func10, Tryz.ntmps10
    go_wp2_with (go_at_call 30; refine (HNB.out _).mono ?_; rintro e w1 ⟨rfl, hb⟩; have HB1 : Hid (Below w.heap.size w w1) := Lib.hid (HW0.out.trans (hb.mono HW0.out.size)); clear hb)
    go_ret
    exact ⟨by rw [HE.out, ← hap]; rfl, HB1.out⟩
  · have hck2 := hck
    simp [isK] at hck2
    obtain ⟨a, ha⟩ : ∃ a : Nat, c.k = (a : Int) := ⟨c.k.toNat, by omega⟩
    obtain ⟨ck, ci, cm, co, cs, cq, cp⟩ := c
    simp only at ha hck hck2
    subst ha
    have ha11 : a < 11 := by omega
    have HLE : Hid (lineS ⟨1, ⟨a, ci, cm, co, cs, cq, cp⟩, n⟩ = wordL a ++ (((jsOf (a : Int)).take (jsOf (a : Int)).length).map (Cm.get ⟨a, ci, cm, co, cs, cq, cp⟩)).flatMap numL) := Lib.hid (by rw [List.take_length]; rfl)
    have HAT : Hid (∀ i (hi : i < (jsOf (a : Int)).length) (hb : i < (bs (lettersOf (a : Int))).size), ∃ x, (bs (lettersOf (a : Int)))[i]'hb = x ∧ x.toNat = lett ((jsOf (a : Int))[i])) := Lib.hid fun i hi _ => letters_at hck hi
    have hlen : (bs (lettersOf (a : Int))).size = (jsOf (a : Int)).length := by rw [bs_size, letters_len hck]
    have hl6 := jsOf_len (a : Int)
    have HJL := Lib.hid (fun i (hi : i < (jsOf (a : Int)).length) => jsOf_lt (k := (a : Int)) (List.getElem_mem hi))
    have HH := Lib.hid (fun W => rhas_any (a : Int) W)
    have HGO := Lib.hid (fun j => get_ok hx2 j)
    have hwl := wordL_len a
    have HWA : Hid ((((w.alloc (.cells (stCells ⟨1, ⟨a, ci, cm, co, cs, cq, cp⟩, n⟩) TSt)).alloc (.cells wordsA 9)).cell? ⟨w.heap.size + 1, a, none⟩ = some (.string (bs (wordL a))))) := Lib.hid (by
      rw [cell_new _ _ _ a (by simp)]
      exact wordsA_at ha11)
    have HB1 : Hid (Below w.heap.size w ((w.alloc (.cells (stCells ⟨1, ⟨a, ci, cm, co, cs, cq, cp⟩, n⟩) TSt)).alloc (.cells wordsA 9))) := Lib.hid (HW0.out.alloc HW0.out.size _)
    have HX1 : Hid (CsAt ((w.alloc (.cells (stCells ⟨1, ⟨a, ci, cm, co, cs, cq, cp⟩, n⟩) TSt)).alloc (.cells wordsA 9)) w.heap.size (stCells ⟨1, ⟨a, ci, cm, co, cs, cq, cp⟩, n⟩)) := Lib.hid ((CsAt.made w (stCells ⟨1, ⟨a, ci, cm, co, cs, cq, cp⟩, n⟩) TSt).below (by simp) ((Below.refl _ _).alloc (Nat.le_refl _) _))
    have hbsz : w.heap.size + 1 < ((w.alloc (.cells (stCells ⟨1, ⟨a, ci, cm, co, cs, cq, cp⟩, n⟩) TSt)).alloc (.cells wordsA 9)).heap.size := by simp
    clear hck2 hck HNB HW0
    generalize jsOf (a : Int) = js at *
    generalize lettersOf (a : Int) = ls at *
    generalize lineS ⟨1, ⟨a, ci, cm, co, cs, cq, cp⟩, n⟩ = L at *
    go_enter Tryz.func10, Tryz.ntmps10
    go_upto_region 6 with fail
    change Code.wp _ _ _ _ (World.alloc (World.alloc w (.cells (stCells ⟨1, ⟨a, ci, cm, co, cs, cq, cp⟩, n⟩) TSt)) (.cells wordsA 9))
    generalize (w.alloc (.cells (stCells ⟨1, ⟨a, ci, cm, co, cs, cq, cp⟩, n⟩) TSt)).alloc (.cells wordsA 9) = w1 at *
    have hwa := HWA.out
    have q1 : w1.cell? ⟨w.heap.size, 1, none⟩ = some (.int .i64 (a : Int)) := HX1.out.cell 1
    have h0a : (0 : Int) ≤ (a : Int) := by omega
    have hba : (a : Int) < 11 := by omega
    generalize wordL a = wd at *
    go_wp2_with fail
    refine (HH.out _).mono ?_
    rintro e w2 ⟨rfl, hb2⟩
    have HB2 : Hid (Below w.heap.size w w2) := Lib.hid (HB1.out.trans (hb2.mono HB1.out.size))
    have HX2 := Lib.hid (HX1.out.below (by omega) hb2)
    have hbs2 : w.heap.size + 1 < w2.heap.size := Nat.lt_of_lt_of_le hbsz hb2.size
    clear hb2 HX1 HB1 hwa q1 HWA HH hbsz
    have q1 : w2.cell? ⟨w.heap.size, 1, none⟩ = some (.int .i64 (a : Int)) := HX2.out.cell 1
    have q2 : w2.cell? ⟨w.heap.size, 2, none⟩ = some (.int .i64 ci) := HX2.out.cell 2
    have q3 : w2.cell? ⟨w.heap.size, 3, none⟩ = some (.int .i64 cm) := HX2.out.cell 3
    have q4 : w2.cell? ⟨w.heap.size, 4, none⟩ = some (.int .i64 co) := HX2.out.cell 4
    have q5 : w2.cell? ⟨w.heap.size, 5, none⟩ = some (.int .i64 cs) := HX2.out.cell 5
    have q6 : w2.cell? ⟨w.heap.size, 6, none⟩ = some (.int .i64 cq) := HX2.out.cell 6
    have q7 : w2.cell? ⟨w.heap.size, 7, none⟩ = some (.int .i64 cp) := HX2.out.cell 7
    have HC3 := Lib.hid (CmAt.made w2 ⟨a, ci, cm, co, cs, cq, cp⟩)
    have HB3 : Hid (Below w.heap.size w (w2.alloc (.cells (cmCells ⟨a, ci, cm, co, cs, cq, cp⟩) TC))) := Lib.hid (HB2.out.alloc HB2.out.size _)
    have hcc : cmCells ⟨a, ci, cm, co, cs, cq, cp⟩ = #[.int .i64 a, .int .i64 ci, .int .i64 cm, .int .i64 co, .int .i64 cs, .int .i64 cq, .int .i64 cp] := rfl
    rw [hcc] at HC3 HB3
    clear hcc
    go_wp2_with fail
    clear q1 q2 q3 q4 q5 q6 q7
    generalize (w2.alloc (.cells #[.int .i64 a, .int .i64 ci, .int .i64 cm, .int .i64 co, .int .i64 cs, .int .i64 cq, .int .i64 cp] TC)) = w3 at *
    generalize w2.heap.size = bc at *
    go_loopw [4, 7, 8] (fun vs i _ wr => ∃ k : Nat, k ≤ js.length ∧ i = .int .i64 k ∧ vs = .string (bs (wd ++ ((js.take k).map (Cm.get ⟨a, ci, cm, co, cs, cq, cp⟩)).flatMap numL)) ∧ Hid (Below w3.heap.size w3 wr)) (fun _ i _ _ => js.length - (intOf i).toNat)
    case atStart => exact ⟨0, Nat.zero_le _, rfl, by simp, Below.refl _ _⟩
    case round =>
      obtain ⟨k, hk, rfl, rfl, HB⟩ := hrel
      by_cases hlt : k < js.length
      · have hkb : k < (bs ls).size := by rw [hlen]; exact hlt
        obtain ⟨x, hx, hxl⟩ := HAT.out k hlt hkb
        have hj := HJL.out k hlt
        have HSN : Hid (((js.take (k + 1)).map (Cm.get ⟨a, ci, cm, co, cs, cq, cp⟩)).flatMap numL = ((js.take k).map (Cm.get ⟨a, ci, cm, co, cs, cq, cp⟩)).flatMap numL ++ numL (Cm.get ⟨a, ci, cm, co, cs, cq, cp⟩ js[k])) := Lib.hid (by rw [List.take_succ_eq_append_getElem hlt, List.map_append, List.flatMap_append]; simp)
        have hfl := nums_flat_len ((js.take k).map (Cm.get ⟨a, ci, cm, co, cs, cq, cp⟩)) (fun n hn => by obtain ⟨j, _, rfl⟩ := List.mem_map.1 hn; exact HGO.out j)
        rw [List.length_map, List.length_take] at hfl
        have hgo := HGO.out js[k]
        have hil2 := itoa_len hgo
        have HNB := Lib.hid (fun W => number_any _ hgo W)
        have HNL : Hid (numL (Cm.get ⟨a, ci, cm, co, cs, cq, cp⟩ js[k]) = 32 :: Lib.itoa (Cm.get ⟨a, ci, cm, co, cs, cq, cp⟩ js[k])) := Lib.hid rfl
        have HCK := Lib.hid (HC3.out.below HB.out)
        clear HAT HJL hgo
        generalize js[k] = j at *
        generalize ((js.take k).map (Cm.get ⟨a, ci, cm, co, cs, cq, cp⟩)).flatMap numL = pk at *
        have hl1 : (wd ++ pk).length ≤ 400 := by rw [List.length_append]; omega
        obtain ⟨ti, hti⟩ : ∃ ti, ti = Lib.itoa (Cm.get ⟨a, ci, cm, co, cs, cq, cp⟩ j) := ⟨_, rfl⟩
        rw [← hti] at HNB HNL hil2
        generalize numL (Cm.get ⟨a, ci, cm, co, cs, cq, cp⟩ j) = nl at *
        clear hti
        have HPE : Hid ((wd ++ pk) ++ (32 :: ti) = wd ++ (pk ++ nl)) := Lib.hid (by rw [HNL.out]; simp)
        generalize wd ++ pk = pp at *
        have hs1 := bs_size pp
        have hs2 := bs_size ti
        have hs3 := bs_size (pp ++ [32])
        have hl3 : (pp ++ [32]).length ≤ 500 := by rw [List.length_append]; simp; omega
        have hap1 := bs_append pp [32]
        have hap2 := bs_append (pp ++ [32]) ti
        have hs0 : (bs [32]).size = 1 := rfl
        have hbig1 : ¬ 9223372036854775807 < pp.length + 1 := by omega
        have hbig2 : ¬ 9223372036854775807 < (pp ++ [32]).length + ti.length := by omega
        have hge : decide ((k : Int) < (js.length : Int)) = true := decide_eq_true (by omega)
        have c1 : wr.cell? ⟨bc, 1, none⟩ = some (.int .i64 ci) := HCK.out.cell 1
        have c2 : wr.cell? ⟨bc, 2, none⟩ = some (.int .i64 cm) := HCK.out.cell 2
        have c3 : wr.cell? ⟨bc, 3, none⟩ = some (.int .i64 co) := HCK.out.cell 3
        have c4 : wr.cell? ⟨bc, 4, none⟩ = some (.int .i64 cs) := HCK.out.cell 4
        have c5 : wr.cell? ⟨bc, 5, none⟩ = some (.int .i64 cq) := HCK.out.cell 5
        have c6 : wr.cell? ⟨bc, 6, none⟩ = some (.int .i64 cp) := HCK.out.cell 6
        clear hfl hwl hx2
        rcases six_cases hj with rfl | rfl | rfl | rfl | rfl | rfl
        all_goals
          simp only [lett, Cm.get, Nat.reduceEqDiff, if_true, if_false] at hxl HNB
          go_wp2_with (go_at_call 30; refine (HNB.out _).mono ?_; rintro e w4 ⟨rfl, hb4⟩; have HB4 := Lib.hid (HB.out.trans (hb4.mono HB.out.size)); clear hb4)
          go_roundw
          case rel => exact ⟨k + 1, by omega, by go_num, by rw [HSN.out, ← HPE.out], HB4⟩
          case measure => simp [intOf]; omega
      · obtain rfl : k = js.length := by omega
        have hge : decide ((js.length : Int) < (js.length : Int)) = false := decide_eq_false (by omega)
        go_wp2_with fail
        go_ret
        exact ⟨by rw [HLE.out]; rfl, HB3.out.trans (HB.out.mono HB3.out.size)⟩
end Go.Proofs.YtmplokdbbhlomaaGreatDoor

/-
  What complineref33.words comes to, over this seat's translation: a contract for callers.
-/
namespace Go.Proofs.YtmplokdbbhlomaaGreatDoor
open Go.RowKit

def strs (ts : List (List UInt8)) : List Value := ts.map fun t => Value.string (bs t)
theorem strs_len (ts : List (List UInt8)) : (strs ts).length = ts.length := by unfold strs; rw [List.length_map]
/-- Texts that have come back. -/
def GotT (ts : List (List UInt8)) (w : World) (e : Ending) (w' : World) : Prop := ∃ A c, e = .returned (.slice A ts.length c) ∧ Seg w' w'.heap.size A (strs ts) ∧ Below w.heap.size w w'
theorem str_info : (Tryz.prog.info? 9).map (fun i => (i.zero, i.size, i.bytes)) = some (some (.string ByteArray.empty), 1, 16) := by kernel_rfl
theorem extract_bs (l : List UInt8) (f k : Nat) : (bs l).extract f k = bs ((l.drop f).take (k - f)) := by rw [ByteArray.extract_mk]
/-- Where the loop of words is. -/
structure WdI (l : List UInt8) (xs : List (List UInt8)) (f k : Nat) : Prop where
  in' : k ≤ l.length → f ≤ k ∧ (32 : UInt8) ∉ (l.drop f).take (k - f) ∧ splitL 32 l = xs ++ splitL 32 (l.drop f)
  out : k = l.length + 1 → xs = splitL 32 l
theorem WdI.end' {l : List UInt8} {xs : List (List UInt8)} {f : Nat} (h : WdI l xs f l.length) : WdI l (xs ++ [(l.drop f).take (l.length - f)]) (l.length + 1) (l.length + 1) := by
  obtain ⟨h1, h2, h3⟩ := h.in' (Nat.le_refl _)
  refine ⟨fun h => by omega, fun _ => ?_⟩
  have e : (l.drop f).take (l.length - f) = l.drop f := List.take_of_length_le (by rw [List.length_drop]; omega)
  rw [e] at h2 ⊢
  rw [h3, split_none h2]
theorem take_cut {l : List UInt8} {f k : Nat} (hf : f ≤ k) (hk : k < l.length) : l.drop f = (l.drop f).take (k - f) ++ l[k] :: l.drop (k + 1) := by
  have h1 : l.drop f = (l.drop f).take (k - f) ++ (l.drop f).drop (k - f) := (List.take_append_drop _ _).symm
  rw [List.drop_drop, show f + (k - f) = k by omega, List.drop_eq_getElem_cons hk] at h1
  exact h1
theorem WdI.cut {l : List UInt8} {xs : List (List UInt8)} {f k : Nat} (h : WdI l xs f k) (hk : k < l.length) (hc : l[k] = 32) : WdI l (xs ++ [(l.drop f).take (k - f)]) (k + 1) (k + 1) := by
  obtain ⟨h1, h2, h3⟩ := h.in' (by omega)
  refine ⟨fun _ => ⟨Nat.le_refl _, by simp, ?_⟩, fun h => by omega⟩
  rw [h3]
  have e := take_cut h1 hk
  rw [hc] at e
  have e2 : splitL 32 (l.drop f) = (l.drop f).take (k - f) :: splitL 32 (l.drop (k + 1)) := by
    rw [e]
    have e3 : ((l.drop f).take (k - f) ++ 32 :: l.drop (k + 1)).take (k - f) = (l.drop f).take (k - f) := by rw [← e]
    rw [e3]
    exact split_app _ h2
  rw [e2, List.append_assoc]
  rfl
theorem WdI.go {l : List UInt8} {xs : List (List UInt8)} {f k : Nat} (h : WdI l xs f k) (hk : k < l.length) (hc : l[k] ≠ 32) : WdI l xs f (k + 1) := by
  obtain ⟨h1, h2, h3⟩ := h.in' (by omega)
  refine ⟨fun _ => ⟨by omega, ?_, h3⟩, fun h => by omega⟩
  have hl : k - f < (l.drop f).length := by rw [List.length_drop]; omega
  have e : (l.drop f).take (k + 1 - f) = (l.drop f).take (k - f) ++ [l[k]] := by
    rw [show k + 1 - f = (k - f) + 1 by omega, List.take_succ_eq_append_getElem hl]
    simp only [List.getElem_drop, show f + (k - f) = k by omega]
  rw [e]
  intro hm
  rcases List.mem_append.1 hm with hm | hm
  · exact h2 hm
  · exact hc (List.mem_singleton.1 hm).symm
set_option maxRecDepth 100000 in
set_option maxHeartbeats 6400000 in
theorem words_any (l : List UInt8) (w : World) (hl : l.length ≤ 100000) : Calls Tryz.prog 32 #[.string (bs l)] w (GotT (splitL 32 l) w) := by
  have hsz := bs_size l
  obtain ⟨i0, hi0, hz0, hz1', hz2'⟩ := info_parts str_info
  have HI0 : Hid (WdI l [] 0 0) := Lib.hid ⟨fun _ => ⟨Nat.le_refl _, by simp, by simp⟩, fun h => by omega⟩
  go_enter Tryz.func32, Tryz.ntmps32
  go_wp2_with fail
  go_loopw [3, 4, 5] (fun u fv i wr => ∃ (k f : Nat) (xs : List (List UInt8)), k ≤ l.length + 1 ∧ i = .int .i64 (k : Int) ∧ fv = .int .i64 (f : Int) ∧ f ≤ k ∧ xs.length ≤ k ∧ Hid (WdI l xs f k) ∧ Hid (wr.ownsRow w.heap.size 9 1 u xs.length (strs xs)) ∧ Hid (Below w.heap.size w wr)) (fun _ _ i _ => l.length + 1 - (intOf i).toNat)
  case atStart => exact ⟨0, 0, [], by omega, rfl, rfl, Nat.le_refl _, Nat.le_refl _, HI0, World.ownsRow_nil _ _ _ _, Below.refl _ _⟩
  case round =>
    clear HI0
    obtain ⟨k, f, xs, hk, rfl, rfl, hfk, hxk, HI, HO, HB⟩ := hrel
    have hbsz := HB.out.size
    by_cases hlt : k < l.length
    · have hkb : k < (bs l).size := by rw [bs_size]; exact hlt
      obtain ⟨c, hce, hcd⟩ : ∃ c, (bs l)[k]'hkb = c ∧ c = l[k] := ⟨_, rfl, rfl⟩
      have hne : ((k : Int) == (l.length : Int)) = false := by simpa using (show (k : Int) ≠ (l.length : Int) by omega)
      by_cases h32 : c = 32
      · have hcn : c.toNat = 32 := by rw [h32]; rfl
        have HI2 := Lib.hid (HI.out.cut hlt (by rw [← hcd]; exact h32))
        have hex := extract_bs l f k
        have HSX : Hid (strs (xs ++ [(l.drop f).take (k - f)]) = strs xs ++ [.string (bs ((l.drop f).take (k - f)))]) := Lib.hid (by simp [strs])
        clear h32 hcd HI
        generalize (l.drop f).take (k - f) = t at *
        go_wp2_with (at_builtin; refine wpList_append_own _ rfl _ _ 52 rfl w.heap.size 9 i0 _ 1 16 Tryz.underlying52 hi0 hz0 hz1' hz2' rfl (by decide) _ xs.length (strs xs) rfl (HO.out.alloc _) ⟨wr.heap.size, 0, none⟩ 1 1 [.string (bs t)] rfl rfl (new_cells _ _ #[_] rfl) (by intro u hu; simp at hu; rw [hu]; rfl) (by simp only [maxLen]; omega) (by omega) (by simp; omega) ?_)
        intro v' w5 hown5 hgr5 _
        have HO5 : Hid (w5.ownsRow w.heap.size 9 1 v' (xs ++ [t]).length (strs (xs ++ [t]))) := Lib.hid (by rw [HSX.out, List.length_append]; exact hown5)
        have HB5 : Hid (Below w.heap.size w w5) := Lib.hid ((HB.out.alloc hbsz _).grown hgr5 (by simp; omega) (fun j hj => own_base HO.out j hj))
        clear hown5 hgr5 HSX HO HB
        go_wp2_with fail
        go_roundw
        case rel => exact ⟨k + 1, k + 1, xs ++ [t], by omega, by go_num, by go_num, Nat.le_refl _, by rw [List.length_append]; simp; omega, HI2, HO5, HB5⟩
        case measure => simp [intOf]; omega
      · have hcn : ¬ c.toNat = 32 := fun e => h32 (by
          have := congrArg UInt8.ofNat e
          simpa using this)
        have HI2 := Lib.hid (HI.out.go hlt (by rw [← hcd]; exact h32))
        clear h32 hcd HI
        go_wp2_with fail
        go_roundw
        case rel => exact ⟨k + 1, f, xs, by omega, by go_num, rfl, by omega, by omega, HI2, HO, HB⟩
        case measure => simp [intOf]; omega
    · by_cases hke : k = l.length
      · subst hke
        have hne : ((l.length : Int) == (l.length : Int)) = true := by simp
        have HI2 := Lib.hid HI.out.end'
        have hex := extract_bs l f l.length
        have HSX : Hid (strs (xs ++ [(l.drop f).take (l.length - f)]) = strs xs ++ [.string (bs ((l.drop f).take (l.length - f)))]) := Lib.hid (by simp [strs])
        clear HI
        generalize (l.drop f).take (l.length - f) = t at *
        go_wp2_with (at_builtin; refine wpList_append_own _ rfl _ _ 52 rfl w.heap.size 9 i0 _ 1 16 Tryz.underlying52 hi0 hz0 hz1' hz2' rfl (by decide) _ xs.length (strs xs) rfl (HO.out.alloc _) ⟨wr.heap.size, 0, none⟩ 1 1 [.string (bs t)] rfl rfl (new_cells _ _ #[_] rfl) (by intro u hu; simp at hu; rw [hu]; rfl) (by simp only [maxLen]; omega) (by omega) (by simp; omega) ?_)
        intro v' w5 hown5 hgr5 _
        have HO5 : Hid (w5.ownsRow w.heap.size 9 1 v' (xs ++ [t]).length (strs (xs ++ [t]))) := Lib.hid (by rw [HSX.out, List.length_append]; exact hown5)
        have HB5 : Hid (Below w.heap.size w w5) := Lib.hid ((HB.out.alloc hbsz _).grown hgr5 (by simp; omega) (fun j hj => own_base HO.out j hj))
        clear hown5 hgr5 HSX HO HB
        go_wp2_with fail
        go_roundw
        case rel => exact ⟨l.length + 1, l.length + 1, xs ++ [t], by omega, by go_num, by go_num, Nat.le_refl _, by rw [List.length_append]; simp; omega, HI2, HO5, HB5⟩
        case measure => simp [intOf]
      · obtain rfl : k = l.length + 1 := by omega
        have HE : Hid (xs = splitL 32 l) := Lib.hid (HI.out.out rfl)
        obtain ⟨Au, cu, hu⟩ := own_form HO.out
        subst hu
        clear hke HI
        go_wp2_with fail
        go_ret
        rw [← HE.out]
        exact ⟨Au, cu, rfl, Seg.of_own HO.out, HB.out⟩
end Go.Proofs.YtmplokdbbhlomaaGreatDoor
