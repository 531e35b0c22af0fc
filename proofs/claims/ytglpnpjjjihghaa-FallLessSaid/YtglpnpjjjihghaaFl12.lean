/-
  The walk of FallOrders, over this seat's translation.
-/
import Derived.Test.YtglpnpjjjihghaaOrdLaw3
import Derived.Test.YtglpnpjjjihghaaFl11
import Derived.Test.YtglpnpjjjihghaaBel
namespace Go.Proofs.Ytglpnpjjjihghaa
open Go.RowKit

def accRows (l : List (Int × Int)) : List Value := l.flatMap fun a => [.int .i64 a.1, .int .i64 a.2]
theorem acc_at {w : World} {B : Nat} {A : Option Addr} {l : List (Int × Int)} (h : Seg w B A (accRows l)) {k : Nat} (hk : k < l.length) :
    ∃ b o, A = some ⟨b, o, none⟩ ∧ b < B ∧ w.cell? ⟨b, o + k * 2, none⟩ = some (.int .i64 l[k].1) ∧ w.cell? ⟨b, o + k * 2 + 1, none⟩ = some (.int .i64 l[k].2) := by
  obtain ⟨b, o, e, hb, hc⟩ := h.run (i := k * 2) (y := .int .i64 l[k].1) (t := [.int .i64 l[k].2]) (fun j u hu => flat_at (fun a : Int × Int => [Value.int .i64 a.1, .int .i64 a.2]) 2 (fun _ => rfl) l k hk j u hu)
  exact ⟨b, o, e, hb, hc 0 _ rfl, hc 1 _ rfl⟩
theorem accRows_append (a b : List (Int × Int)) : accRows (a ++ b) = accRows a ++ accRows b := by simp [accRows]
theorem acc_info : (Try.prog.info? 45).map (fun i => (i.zero, i.size, i.bytes)) = some (some (.agg #[.int .i64 0, .int .i64 0]), 2, 16) := by kernel_rfl
theorem two_one {a b : Int} : ∀ u ∈ [Value.int .i64 a, .int .i64 b], u.oneCell' = true := by
  intro u hu; simp at hu; rcases hu with rfl | rfl <;> rfl
theorem four_one {a b c d : Int} : ∀ u ∈ [Value.int .i64 a, .int .i64 b, .int .i64 c, .int .i64 d], u.oneCell' = true := by
  intro u hu; simp at hu; rcases hu with rfl | rfl | rfl | rfl <;> rfl
theorem accN_succ (os : List Int) (k : Nat) (b : Bool) (hb : os.contains ((k : Int) + 1) = b) : accN os (k + 1) = accN os k ++ ((if b then [(8, (k : Int) + 1)] else []) ++ [(9, (k : Int) + 1)]) := by
  unfold accN
  rw [List.range_succ, List.flatMap_append, List.flatMap_singleton, hb]
theorem accN_len (os : List Int) : ∀ k, (accN os k).length ≤ 2 * k
  | 0 => by simp [accN]
  | k + 1 => by
    have := accN_len os k
    rw [accN_succ os k _ rfl, List.length_append, List.length_append]
    have h9 : (if os.contains ((k : Int) + 1) then [((8 : Int), (k : Int) + 1)] else []).length ≤ 1 := by split <;> simp
    simp only [List.length_singleton]
    omega
/-- The rank of the last one. -/
def lastV (os : List Int) (l : List Dw) : Int := (l.getLast?.map fun z => rankV os z.k z.m).getD 0
theorem lastV_snoc (os : List Int) {l : List Dw} {k : Nat} (hk : k < l.length) : lastV os (l.take (k + 1)) = rankV os l[k].k l[k].m := by
  unfold lastV
  rw [List.take_succ_eq_append_getElem hk, List.getLast?_concat]
  rfl
theorem lastV_le {p : Pol} {os : List Int} {l : List Dw} (O : OrdF p os l) {k : Nat} (hk : k < l.length) : lastV os (l.take k) ≤ rankV os l[k].k l[k].m := by
  rcases Nat.eq_zero_or_pos k with h0 | h0
  · subst h0
    have := O.pos _ (List.getElem_mem hk)
    unfold lastV
    simpa using this
  · obtain ⟨j, rfl⟩ : ∃ j, k = j + 1 := ⟨k - 1, by omega⟩
    rw [lastV_snoc os (show j < l.length by omega)]
    exact O.up j (j + 1) (by omega) hk (by omega)
theorem lastV_full {p : Pol} {os : List Int} {l : List Dw} (O : OrdF p os l) {a : Int × Int} (ha : a ∈ accL os p.co.length) (h : rankV os a.1 a.2 < lastV os l) : drwS l a.1 a.2 = thereV p a.1 a.2 := by
  have h0 := O.acc a ha
  unfold lastV at h
  cases hg : l.getLast? with
  | none => rw [hg] at h; simp at h; omega
  | some z =>
    rw [hg] at h
    exact O.full z (List.mem_of_getLast? hg) a ha h
set_option maxRecDepth 100000 in
set_option maxHeartbeats 6400000 in
theorem orders_law (p : Pol) (os : List Int) (need : Int) (A : Option Addr) (c : Nat) (w : World) (h : PolOk w p) (h1 : p.co.length ≤ maxLen) (h2 : p.fu.length ≤ maxLen) (hs : Seg w w.heap.size A (os.map (Value.int .i64))) (h3 : os.length ≤ maxLen) (hI : ∀ x ∈ os, I64 x) (hN : I64 need) :
    Calls Try.prog 4 #[p.val, .slice A os.length c, .int .i64 need] w fun e w' => e = .returned (.bool true) ∧ Below w.heap.size w w' := by
  have HB0 : Hid (Below w.heap.size w (w.alloc (.cells #[.slice p.Ac p.co.length p.cc, .slice p.Af p.fu.length p.cf, .int .i64 p.line, .int .i64 p.cap] 37))) := Lib.hid ((Below.refl _ _).alloc (Nat.le_refl _) _)
  have HFW : Hid (∀ W : World, Calls Try.prog 15 #[p.val, .slice A os.length c] W fun e w' => e = .returned (.bool (few23 p os)) ∧ Below W.heap.size W w') := Lib.hid fun W => few23_any p os A c W h1 h2 h3
  have HPL : Hid (few23 p os = true → ∀ W, Below w.heap.size w W → Calls Try.prog 17 #[p.val, .slice A os.length c, .int .i64 need] W (GotDE (planL p os need) (planE p os need) W)) := Lib.hid fun hf W hW => by
    unfold few23 at hf
    simp only [Bool.and_eq_true, decide_eq_true_eq] at hf
    exact plan_any p os need A c W (h.below hW) h1 ((hs.below hW).mono hW.size) (by omega) hI hN
  have HRK : Hid (few23 p os = true → ∀ (k m : Int) W, Below w.heap.size w W → Calls Try.prog 18 #[.slice A os.length c, .agg #[.int .i64 k, .int .i64 m]] W fun e w' => e = .returned (.int .i64 (rankV os k m)) ∧ Below W.heap.size W w') := Lib.hid fun hf k m W hW => by
    unfold few23 at hf
    simp only [Bool.and_eq_true, decide_eq_true_eq] at hf
    exact rank_any os k m A c W ((hs.below hW).mono hW.size) (by omega)
  have HOU : Hid (few23 p os = true → ∀ (m : Int) W, Below w.heap.size w W → Calls Try.prog 19 #[.slice A os.length c, .int .i64 m] W fun e w' => e = .returned (.bool (os.contains m)) ∧ W = w') := Lib.hid fun hf m W hW => by
    unfold few23 at hf
    simp only [Bool.and_eq_true, decide_eq_true_eq] at hf
    exact out23_any os m A c W ((hs.below hW).mono hW.size) (by omega)
  have HP := Lib.hid h
  have HORD : Hid (few23 p os = true → planE p os need = 0 → OrdF p os (planL p os need) ∧ MayF p os) := Lib.hid fun hf he => by
    unfold few23 at hf
    simp only [Bool.and_eq_true, decide_eq_true_eq] at hf
    refine ⟨ordF_of he hN (by omega), mayF_of ?_⟩
    unfold planE at he
    by_cases h0 : mayE p os = 0
    · exact h0
    · rw [if_pos h0] at he; exact he
  have HLN : Hid (planE p os need ≠ 0 → planL p os need = []) := Lib.hid fun he => by unfold planL; rw [if_neg he]
  have HX := fun j => cell_new w #[.slice p.Ac p.co.length p.cc, .slice p.Af p.fu.length p.cf, .int .i64 p.line, .int .i64 p.cap] 37 (b := w.heap.size) j rfl
  have HXX := Lib.hid HX
  have hlt0 : w.heap.size < (w.alloc (.cells #[.slice p.Ac p.co.length p.cc, .slice p.Af p.fu.length p.cf, .int .i64 p.line, .int .i64 p.cap] 37)).heap.size := by simp
  clear h h1 h2 hs h3 hI hN HX
  unfold Pol.val at HFW HPL
  unfold Pol.val
  go_enter Try.func4, Try.ntmps4
  go_wp2_with fail
  generalize w.alloc (.cells #[.slice p.Ac p.co.length p.cc, .slice p.Af p.fu.length p.cf, .int .i64 p.line, .int .i64 p.cap] 37) = w0 at *
  refine (HFW.out w0).mono ?_
  rintro e w1 ⟨rfl, hb1⟩
  have HB1 : Hid (Below w.heap.size w w1) := Lib.hid (HB0.out.trans (hb1.mono HB0.out.size))
  have HX1 : Hid (∀ W, Below w1.heap.size w1 W → W.cell? ⟨w.heap.size, 0, none⟩ = some (.slice p.Ac p.co.length p.cc) ∧ W.cell? ⟨w.heap.size, 1, none⟩ = some (.slice p.Af p.fu.length p.cf) ∧ W.cell? ⟨w.heap.size, 2, none⟩ = some (.int .i64 p.line) ∧ W.cell? ⟨w.heap.size, 3, none⟩ = some (.int .i64 p.cap)) := Lib.hid fun W hW => by
    have hk := fun j => ((hb1.trans (hW.mono hb1.size)).cell (p := ⟨w.heap.size, j, none⟩) hlt0).trans (HXX.out j)
    exact ⟨hk 0, hk 1, hk 2, hk 3⟩
  have hlt1 : w.heap.size < w1.heap.size := by have := hb1.size; omega
  clear hb1 HXX HB0 HFW hlt0
  obtain ⟨c0, c1, c2, c3⟩ := HX1.out w1 (Below.refl _ _)
  cases hf : few23 p os with
  | false =>
    clear HPL HRK HOU HORD HLN
    go_wp2_with fail
    refine (awake23_any w1).mono ?_
    rintro e w4 ⟨rfl, hb4⟩
    have HB4 : Hid (Below w.heap.size w w4) := Lib.hid (HB1.out.trans (hb4.mono HB1.out.size))
    clear hb4
    go_wp2_with fail
    go_ret
    exact ⟨rfl, HB4.out⟩
  | true =>
    have HPL := Lib.hid (HPL.out hf)
    have HRK := Lib.hid (HRK.out hf)
    have HOU := Lib.hid (HOU.out hf)
    have HORD := Lib.hid (HORD.out hf)
    clear hf
    generalize planL p os need = l at *
    generalize planE p os need = pe at *
    go_wp2_with fail
    refine (HPL.out w1 HB1.out).mono ?_
    rintro e w2 ⟨A2, c2', rfl, hs2, hb2⟩
    have HB2 : Hid (Below w.heap.size w w2) := Lib.hid (HB1.out.trans (hb2.mono HB1.out.size))
    have HS2 := Lib.hid hs2
    have HX2 : Hid (∀ W, Below w2.heap.size w2 W → W.cell? ⟨w.heap.size, 0, none⟩ = some (.slice p.Ac p.co.length p.cc) ∧ W.cell? ⟨w.heap.size, 1, none⟩ = some (.slice p.Af p.fu.length p.cf) ∧ W.cell? ⟨w.heap.size, 2, none⟩ = some (.int .i64 p.line) ∧ W.cell? ⟨w.heap.size, 3, none⟩ = some (.int .i64 p.cap)) := Lib.hid fun W hW => HX1.out W (hb2.trans (hW.mono hb2.size))
    have hlt2 : w.heap.size < w2.heap.size := by have := hb2.size; omega
    clear hb2 hs2 c0 c1 c2 c3 HX1 HPL
    by_cases hpe : pe = 0
    · obtain ⟨hO, hF⟩ := HORD.out hpe
      have HO := Lib.hid hO
      have HF := Lib.hid hF
      have hll := hO.len
      subst hpe
      clear hO hF HORD HLN
      go_wp2_with fail
      go_loopw [9, 10] (fun la i wr => ∃ k : Nat, k ≤ l.length ∧ i = .int .i64 k ∧ la = .int .i64 (lastV os (l.take k)) ∧ Hid (Below w2.heap.size w2 wr)) (fun _ i _ => l.length - (intOf i).toNat)
      case atStart => exact ⟨0, Nat.zero_le _, rfl, rfl, Below.refl _ _⟩
      case round =>
        obtain ⟨k, hk, rfl, rfl, HB⟩ := hrel
        have hsz := HB.out.size
        have HBW : Hid (Below w.heap.size w wr) := Lib.hid (HB2.out.trans (HB.out.mono HB2.out.size))
        by_cases hlt : k < l.length
        · obtain ⟨b, o, rfl, hb, d0, d1, d2⟩ := dw_at (HS2.out.below HB.out) hlt
          have HSN := Lib.hid (lastV_snoc os hlt)
          have hle := lastV_le HO.out hlt
          have hk0 : (0 : Int) ≤ (k : Int) := by omega
          have hkb : (k : Int) < (l.length : Int) := by omega
          have HR1 := Lib.hid (HRK.out l[k].k l[k].m)
          generalize lastV os (l.take k) = lv at *
          generalize rankV os l[k].k l[k].m = rv at *
          generalize l[k].k = xk at *
          generalize l[k].m = xm at *
          have hdl : decide (rv < lv) = false := decide_eq_false (by omega)
          have HDK : Hid (∀ W, Below wr.heap.size wr W → W.cell? ⟨b, o + k * 3, none⟩ = some (.int .i64 xk) ∧ W.cell? ⟨b, o + k * 3 + 1, none⟩ = some (.int .i64 xm)) := Lib.hid fun W hW => ⟨(hW.cell (p := ⟨b, o + k * 3, none⟩) (Nat.lt_of_lt_of_le hb hsz)).trans d0, (hW.cell (p := ⟨b, o + k * 3 + 1, none⟩) (Nat.lt_of_lt_of_le hb hsz)).trans d1⟩
          go_wp2_with fail
          refine (HR1.out wr HBW.out).mono ?_
          rintro e w5 ⟨rfl, hb5⟩
          have HB5 : Hid (Below w.heap.size w w5) := Lib.hid (HBW.out.trans (hb5.mono HBW.out.size))
          have HB25 : Hid (Below w2.heap.size w2 w5) := Lib.hid (HB.out.trans (hb5.mono hsz))
          obtain ⟨e0, e1⟩ := HDK.out w5 hb5
          clear hb5 d0 d1 d2 HDK
          go_wp2_with fail
          refine (HR1.out w5 HB5.out).mono ?_
          rintro e w6 ⟨rfl, hb6⟩
          have HB26 : Hid (Below w2.heap.size w2 w6) := Lib.hid (HB25.out.trans (hb6.mono HB25.out.size))
          clear hb6
          go_wp2_with fail
          go_roundw
          case rel => exact ⟨k + 1, by omega, by go_num, by rw [HSN.out], HB26⟩
          case measure => simp [intOf]; omega
        · obtain rfl : k = l.length := by omega
          rw [List.take_length]
          obtain ⟨lv, hlv⟩ : ∃ lv, lv = lastV os l := ⟨_, rfl⟩
          have HLV := Lib.hid hlv
          rw [← hlv]
          clear hlv
          have HS3 := Lib.hid ((HS2.out.below HB.out).mono hsz)
          have HX3 : Hid (∀ W, Below wr.heap.size wr W → W.cell? ⟨w.heap.size, 0, none⟩ = some (.slice p.Ac p.co.length p.cc) ∧ W.cell? ⟨w.heap.size, 1, none⟩ = some (.slice p.Af p.fu.length p.cf) ∧ W.cell? ⟨w.heap.size, 2, none⟩ = some (.int .i64 p.line) ∧ W.cell? ⟨w.heap.size, 3, none⟩ = some (.int .i64 p.cap)) := Lib.hid fun W hW => HX2.out W (HB.out.trans (hW.mono hsz))
          have hlt3 : w.heap.size < wr.heap.size := by omega
          obtain ⟨w3, hw3⟩ : ∃ w3, w3 = wr := ⟨_, rfl⟩
          subst hw3
          obtain ⟨i0, hi0, hz0, hz1, hz2⟩ := info_parts acc_info
          have hnb := HF.out.big
          clear HX2 HS2 hlt2 HB2 HB hsz
          go_wp2_with fail
          go_loopw [11, 12] (fun u i wr => ∃ k : Nat, k ≤ p.co.length ∧ i = .int .i64 ((k : Int) + 1) ∧ Hid (wr.ownsRow w3.heap.size 45 2 u (accN os k).length (accRows (accN os k))) ∧ Hid (Below w3.heap.size w3 wr)) (fun _ i _ => p.co.length + 1 - (intOf i).toNat)
          case atStart => exact ⟨0, Nat.zero_le _, rfl, ⟨by simp [accN, accRows], Or.inl ⟨rfl, rfl⟩⟩, Below.refl _ _⟩
          case round =>
            obtain ⟨k, hk, rfl, HOW, HB⟩ := hrel
            have hsz := HB.out.size
            have HBX : Hid (Below w.heap.size w wr) := Lib.hid (HBW.out.trans (HB.out.mono HBW.out.size))
            obtain ⟨c0, c1, c2, c3⟩ := HX3.out wr HB.out
            by_cases hlt : k < p.co.length
            · have hg : decide ((k : Int) + 1 ≤ (p.co.length : Int)) = true := decide_eq_true (by omega)
              have HSN := Lib.hid (fun b => accN_succ os k b)
              have hyl := accN_len os k
              have hkw : IntKind.i64.wrap ((k : Int) + 1 + 1) = (k : Int) + 1 + 1 := IntWalk.i64_in _ (by omega)
              go_wp2_with fail
              refine (HOU.out _ wr HBX.out).mono ?_
              rintro e w5 ⟨rfl, rfl⟩
              cases hct : os.contains ((k : Int) + 1) with
              | true =>
                have HSS := Lib.hid (HSN.out true hct)
                clear hct
                generalize accN os k = ys at *
                go_wp2_with (at_builtin; refine wpList_append_own _ rfl _ _ 48 rfl w3.heap.size 45 i0 _ 2 16 Try.underlying48 hi0 hz0 hz1 hz2 rfl (by decide) _ ys.length (accRows ys) rfl (HOW.out.alloc _) ⟨wr.heap.size, 0, none⟩ 1 1 [.int .i64 8, .int .i64 ((k : Int) + 1)] rfl rfl (new_cells _ _ #[_, _] (by simp)) two_one (by simp only [maxLen]; omega) (by omega) (by simp; omega) ?_)
                intro v' w4 hown1 hgrow1 _
                have HO4 := Lib.hid hown1
                have HB4 : Hid (Below w3.heap.size w3 w4) := Lib.hid ((HB.out.alloc hsz _).grown hgrow1 (by simp; omega) (fun j hj => own_base HOW.out j hj))
                have hz4 := HB4.out.size
                clear hown1 hgrow1 c0 c1 c2 c3
                go_wp2_with (at_builtin; refine wpList_append_own _ rfl _ _ 48 rfl w3.heap.size 45 i0 _ 2 16 Try.underlying48 hi0 hz0 hz1 hz2 rfl (by decide) _ (ys.length + 1) (accRows ys ++ [.int .i64 8, .int .i64 ((k : Int) + 1)]) rfl (HO4.out.alloc _) ⟨w4.heap.size, 0, none⟩ 1 1 [.int .i64 9, .int .i64 ((k : Int) + 1)] rfl rfl (new_cells _ _ #[_, _] (by simp)) two_one (by simp only [maxLen]; omega) (by omega) (by simp; omega) ?_)
                intro v6 w6 hown1 hgrow1 _
                have HO6 : Hid (w6.ownsRow w3.heap.size 45 2 v6 (accN os (k + 1)).length (accRows (accN os (k + 1)))) := Lib.hid (by
                  rw [HSS.out, accRows_append, List.length_append]
                  simpa [accRows] using hown1)
                have HB6 : Hid (Below w3.heap.size w3 w6) := Lib.hid ((HB4.out.alloc hz4 _).grown hgrow1 (by simp; omega) (fun j hj => own_base HO4.out j hj))
                clear hown1 hgrow1
                go_wp2_with fail
                go_roundw
                case rel => exact ⟨k + 1, by omega, by go_num, HO6, HB6⟩
                case measure => simp [intOf]; omega
              | false =>
                have HSS := Lib.hid (HSN.out false hct)
                clear hct
                generalize accN os k = ys at *
                go_wp2_with (at_builtin; refine wpList_append_own _ rfl _ _ 48 rfl w3.heap.size 45 i0 _ 2 16 Try.underlying48 hi0 hz0 hz1 hz2 rfl (by decide) _ ys.length (accRows ys) rfl (HOW.out.alloc _) ⟨wr.heap.size, 0, none⟩ 1 1 [.int .i64 9, .int .i64 ((k : Int) + 1)] rfl rfl (new_cells _ _ #[_, _] (by simp)) two_one (by simp only [maxLen]; omega) (by omega) (by simp; omega) ?_)
                intro v6 w6 hown1 hgrow1 _
                have HO6 : Hid (w6.ownsRow w3.heap.size 45 2 v6 (accN os (k + 1)).length (accRows (accN os (k + 1)))) := Lib.hid (by
                  rw [HSS.out, accRows_append, List.length_append]
                  simpa [accRows] using hown1)
                have HB6 : Hid (Below w3.heap.size w3 w6) := Lib.hid ((HB.out.alloc hsz _).grown hgrow1 (by simp; omega) (fun j hj => own_base HOW.out j hj))
                clear hown1 hgrow1
                go_wp2_with fail
                go_roundw
                case rel => exact ⟨k + 1, by omega, by go_num, HO6, HB6⟩
                case measure => simp [intOf]; omega
            · obtain rfl : k = p.co.length := by omega
              have hg : decide ((p.co.length : Int) + 1 ≤ (p.co.length : Int)) = false := decide_eq_false (by omega)
              have hyl := accN_len os p.co.length
              have HAL : Hid (accL os p.co.length = accN os p.co.length ++ [(3, 0), (4, 0)]) := Lib.hid rfl
              generalize accN os p.co.length = ys at *
              go_wp2_with (at_builtin; refine wpList_append_own _ rfl _ _ 48 rfl w3.heap.size 45 i0 _ 2 16 Try.underlying48 hi0 hz0 hz1 hz2 rfl (by decide) _ ys.length (accRows ys) rfl (HOW.out.alloc _) ⟨wr.heap.size, 0, none⟩ 2 2 [.int .i64 3, .int .i64 0, .int .i64 4, .int .i64 0] rfl rfl (new_cells _ _ #[_, _, _, _] (by simp)) four_one (by simp only [maxLen]; omega) (by omega) (by simp; omega) ?_)
              intro v6 w6 hown1 hgrow1 _
              have HO6 : Hid (w6.ownsRow w3.heap.size 45 2 v6 (accL os p.co.length).length (accRows (accL os p.co.length))) := Lib.hid (by
                rw [HAL.out, accRows_append, List.length_append]
                simpa [accRows] using hown1)
              have HB6 : Hid (Below w3.heap.size w3 w6) := Lib.hid ((HB.out.alloc hsz _).grown hgrow1 (by simp; omega) (fun j hj => own_base HOW.out j hj))
              have hal : (accL os p.co.length).length = ys.length + 2 := by rw [HAL.out, List.length_append]; rfl
              have HV6 : Hid (ys.length + 2 = (accL os p.co.length).length) := Lib.hid hal.symm
              clear hown1 hgrow1 c0 c1 c2 c3 hal
              obtain ⟨A6, c6, rfl⟩ := own_form HO6.out
              have HSA := Lib.hid (Seg.of_own HO6.out)
              have HFU := Lib.hid (fun a (ha : a ∈ accL os p.co.length) => lastV_full HO.out ha)
              have hasl : (accL os p.co.length).length ≤ 100 := by have := HV6.out; omega
              have hz6 := HB6.out.size
              generalize accL os p.co.length = acs at *
              clear HV6 HAL HOW HB hsz hyl HBX hg HO6
              go_wp2_with fail
              go_loopw [13] (fun i wr => ∃ k : Nat, k ≤ acs.length ∧ i = .int .i64 k ∧ Hid (Below w6.heap.size w6 wr)) (fun i _ => acs.length - (intOf i).toNat)
              case atStart => exact ⟨0, Nat.zero_le _, rfl, Below.refl _ _⟩
              case round =>
                obtain ⟨k, hk, rfl, HB⟩ := hrel
                have hsz := HB.out.size
                have HB3w : Hid (Below w3.heap.size w3 wr) := Lib.hid (HB6.out.trans (HB.out.mono hz6))
                have HBX : Hid (Below w.heap.size w wr) := Lib.hid (HBW.out.trans (HB3w.out.mono HBW.out.size))
                have hw3z := HB3w.out.size
                by_cases hlt : k < acs.length
                · obtain ⟨b, o, rfl, hb, d0, d1⟩ := acc_at (HSA.out.below HB.out) hlt
                  obtain ⟨c0, c1, c2, c3⟩ := HX3.out wr HB3w.out
                  have hk0 : (0 : Int) ≤ (k : Int) := by omega
                  have hkb : (k : Int) < (acs.length : Int) := by omega
                  have HFK := Lib.hid (HFU.out acs[k] (List.getElem_mem hlt))
                  generalize acs[k].1 = ak at *
                  generalize acs[k].2 = am at *
                  have HR1 : Hid (∀ W, Below wr.heap.size wr W → Calls Try.prog 18 #[.slice A os.length c, .agg #[.int .i64 ak, .int .i64 am]] W fun e w' => e = .returned (.int .i64 (rankV os ak am)) ∧ Below W.heap.size W w') := Lib.hid fun W hW => HRK.out ak am W (HBX.out.trans (hW.mono HBX.out.size))
                  have HD1 : Hid (∀ W, Below wr.heap.size wr W → Calls Try.prog 20 #[.slice A2 l.length c2', .int .i64 l.length, .agg #[.int .i64 ak, .int .i64 am]] W fun e w' => e = .returned (.int .i64 (drwS l ak am)) ∧ Below W.heap.size W w') := Lib.hid fun W hW => by
                    have := drawn_any l l.length ak am A2 c2' W (((HS3.out.below (HB3w.out.trans (hW.mono hw3z)))).mono (Nat.le_trans hw3z hW.size)) (by omega) (Nat.le_refl _)
                    rw [List.take_length] at this
                    exact this
                  have HT1 : Hid (∀ W, Below wr.heap.size wr W → Calls Try.prog 21 #[p.val, .agg #[.int .i64 ak, .int .i64 am]] W fun e w' => e = .returned (.int .i64 (thereV p ak am)) ∧ Below W.heap.size W w') := Lib.hid fun W hW => there_any p ak am W (HP.out.below (HBX.out.trans (hW.mono HBX.out.size))) HF.out.len (by omega)
                  unfold Pol.val at HT1
                  rw [← HLV.out] at HFK
                  generalize rankV os ak am = rv at *
                  generalize drwS l ak am = dv at *
                  generalize thereV p ak am = tv at *
                  have hbW : b < wr.heap.size := by omega
                  have hxW : w.heap.size < wr.heap.size := by omega
                  have hbel := fun (n : Bel wr.heap.size wr) (b o : Nat) (hb : b < wr.heap.size) => n.cells b o hb
                  by_cases hra : rv < lv
                  · have hdt := HFK.out hra
                    subst hdt
                    have hrd : decide (rv < lv) = true := decide_eq_true hra
                    have hnn : (dv != dv) = false := by simp
                    clear HFK hra
                    go_wp2_with fail
                    refine wp_region_bel wr.heap.size (by kernel_rfl) (by kernel_rfl) ?_
                    repeat (go_big_quiet_step (first | (go_at_call 18; exact Calls.bel_of (Nat.le_refl _) (HR1.out _ (Bel.h _))) | (go_at_call 20; exact Calls.bel_of (Nat.le_refl _) (HD1.out _ (Bel.h _))) | (go_at_call 21; exact Calls.bel_of (Nat.le_refl _) (HT1.out _ (Bel.h _)))))
                    refine wpQuiet_nil ?_
                    intro _ hw'
                    obtain ⟨nq, hw''⟩ := hw'
                    subst hw''
                    have HN : Hid (Below w6.heap.size w6 nq.wd) := Lib.hid (HB.out.trans (nq.h.mono hsz))
                    clear hbel
                    go_wp2_with fail
                    go_roundw
                    case rel => exact ⟨k + 1, by omega, by go_num, HN⟩
                    case measure => simp [intOf]; omega
                  · have hrd : decide (rv < lv) = false := decide_eq_false hra
                    clear HFK
                    go_wp2_with fail
                    refine wp_region_bel wr.heap.size (by kernel_rfl) (by kernel_rfl) ?_
                    repeat (go_big_quiet_step (first | (go_at_call 18; exact Calls.bel_of (Nat.le_refl _) (HR1.out _ (Bel.h _))) | (go_at_call 20; exact Calls.bel_of (Nat.le_refl _) (HD1.out _ (Bel.h _))) | (go_at_call 21; exact Calls.bel_of (Nat.le_refl _) (HT1.out _ (Bel.h _)))))
                    refine wpQuiet_nil ?_
                    intro _ hw'
                    obtain ⟨nq, hw''⟩ := hw'
                    subst hw''
                    have HN : Hid (Below w6.heap.size w6 nq.wd) := Lib.hid (HB.out.trans (nq.h.mono hsz))
                    clear hbel
                    go_wp2_with fail
                    go_roundw
                    case rel => exact ⟨k + 1, by omega, by go_num, HN⟩
                    case measure => simp [intOf]; omega
                · obtain rfl : k = acs.length := by omega
                  go_wp2_with fail
                  refine (awake23_any wr).mono ?_
                  rintro e w9 ⟨rfl, hb9⟩
                  have HB9 : Hid (Below w.heap.size w w9) := Lib.hid (HBX.out.trans (hb9.mono HBX.out.size))
                  clear hb9
                  go_wp2_with fail
                  go_ret
                  exact ⟨rfl, HB9.out⟩
    · have hl := HLN.out hpe
      subst hl
      have hpb : (pe != 0) = true := by simpa [bne] using hpe
      clear HLN HORD HRK HOU
      go_wp2_with fail
      refine (awake23_any w2).mono ?_
      rintro e w4 ⟨rfl, hb4⟩
      have HB4 : Hid (Below w.heap.size w w4) := Lib.hid (HB2.out.trans (hb4.mono HB2.out.size))
      clear hb4
      go_wp2_with fail
      go_ret
      exact ⟨rfl, HB4.out⟩
end Go.Proofs.Ytglpnpjjjihghaa
