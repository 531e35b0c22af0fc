/-
  The law ObligStays returns true, over this seat's translation: its walk.
-/
import Derived.Test.YtkjkkcaiddeggaaObAwake
import Derived.Deep.DeepCutAuto
import Derived.Deep.CutBlock
import Derived.StillTailTactics
import Derived.Test.YtkjkkcaiddeggaaBel
namespace Go.Proofs.Ytkjkkcaiddeggaa
open Go.RowKit

/-- A sheet that is fine lies at bs. -/
def ShFine (w : World) (bs base : Nat) (L : List Ob) : Prop := (∃ v, ShAt w bs base v L) ∧ Fine L

/-- What the four calls leave alike. -/
def StMet (w : World) (A : Option Addr) (L : List Ob) (wc : World) : Prop := (∃ L', ShFine wc w.heap.size w.heap.size L' ∧ Stays L L') ∧ Below w.heap.size w wc ∧ Seg wc wc.heap.size A (obRows L)
theorem stays_meet {w wr w1 w2 w3 : World} {v v' : Value} {L L' : List Ob} {A5 : Option Addr} {c5 : Nat} (hb : Below w.heap.size w wr) (hsh : ShAt wr w.heap.size w.heap.size v L)
    (ho5 : w1.ownsRow wr.heap.size 37 6 (.slice A5 L.length c5) L.length (obRows L)) (hb5 : Below wr.heap.size wr w1) (h2 : Below w1.heap.size w1 w2)
    (hs : ShAt w3 w.heap.size w.heap.size v' L') (hf : Fine L' ∧ Stays L L') (ho : Only w.heap.size v w2 w3) : StMet w A5 L w3 := by
  have hz := hb.size
  have hz5 := hb5.size
  have hz2 := h2.size
  have hlt := hsh.lt
  refine ⟨⟨L', ⟨⟨v', hs⟩, hf.1⟩, hf.2⟩, ((hb.trans (hb5.mono hz)).trans (h2.mono (by omega))).trans (ho.below (Nat.le_refl _) (own_base hsh.own) (by omega)), ?_⟩
  have h1 : Seg w1 w1.heap.size A5 (obRows L) := Seg.of_own ho5
  refine (((h1.below h2).mono hz2).only ?_ ho).mono ho.size
  intro _ p hp
  subst hp
  have hp := (ho5.lt p.block rfl).1
  exact ⟨by omega, fun e => by have := (hsh.own.lt p.block e.symm).2; omega⟩

set_option maxRecDepth 100000 in
set_option maxHeartbeats 3200000 in
theorem stays_any (l : List ActD) (A : Option Addr) (c : Nat) (w : World) (hs : Seg w w.heap.size A (actRows l)) (hl : l.length ≤ maxLen) (hok : ∀ x ∈ l, ActOk w w.heap.size x) :
    Calls Try.prog 3 #[.slice A l.length c] w fun e w' => e = .returned (.bool true) ∧ Below w.heap.size w w' := by
  have HS := Lib.hid hs
  have HOK := Lib.hid hok
  have HL := Lib.hid hl
  have HFW := Lib.hid (few_any l A c w.heap.size w hs hl (fun x hx => (hok x hx).top))
  clear hs hok hl
  cases hf : fewB l
  · go_enter Try.func3, Try.ntmps3
    go_wp2_with fail
    refine HFW.out.mono ?_
    rintro e w1 ⟨rfl, rfl⟩
    go_wp2_with fail
    refine (awake_any _).mono ?_
    rintro e w1 ⟨rfl, hb1⟩
    go_wp2_with fail
    go_ret
    exact ⟨rfl, hb1⟩
  · have h40 : l.length ≤ 40 := by unfold fewB at hf; simp at hf; exact hf.1
    have h30 : ∀ x ∈ l, x.nets.length ≤ 30 := by unfold fewB at hf; simp at hf; exact hf.2
    have H30 := Lib.hid h30
    clear h30
    go_enter Try.func3, Try.ntmps3
    go_wp2_with fail
    refine HFW.out.mono ?_
    rintro e w1 ⟨rfl, rfl⟩
    go_wp2_with fail
    refine (new_any w).mono ?_
    rintro e w0 ⟨rfl, rfl⟩
    have hb0 : Below w.heap.size w (w.alloc (.cells #[.slice none 0 0] 54)) := (Below.refl _ _).alloc (Nat.le_refl _) _
    have HB0 := Lib.hid hb0
    have HN := Lib.hid (new_at w)
    clear hb0
    go_wp2_with fail
    go_loopw [4, 5, 6, 7, 8, 9] (fun i _ _ _ _ _ wr => ∃ k : Nat, k ≤ l.length ∧ i = .int .i64 k ∧ Hid (Below w.heap.size w wr) ∧ Hid (∃ L, ShFine wr w.heap.size w.heap.size L)) (fun i _ _ _ _ _ _ => l.length - (intOf i).toNat)
    case atStart => exact ⟨0, Nat.zero_le _, rfl, HB0.out, ⟨[], ⟨⟨_, HN.out⟩, fine_nil⟩⟩⟩
    case round =>
      obtain ⟨k, hk, rfl, HB, HX⟩ := hrel
      obtain ⟨L, ⟨v, hsh⟩, hfi⟩ := HX.out
      have hsz := HB.out.size
      have HSH := Lib.hid hsh
      have HFI := Lib.hid hfi
      have hll := hfi.len
      clear hsh hfi
      by_cases hlt : k < l.length
      · obtain ⟨b, o, rfl, hb, d0, d1, d2, d3, d4, d5⟩ := act_at (HS.out.below HB.out) hlt
        have HOKk := Lib.hid (HOK.out l[k] (List.getElem_mem hlt))
        have h30k := H30.out l[k] (List.getElem_mem hlt)
        go_wp2_with fail
        refine (all_any L v w.heap.size w.heap.size _ HSH.out (by omega)).mono ?_
        rintro e w1 ⟨v5, rfl, ho5, hb5⟩
        obtain ⟨A5, c5, rfl⟩ := own_form ho5
        have HO5 := Lib.hid ho5
        have HB5 := Lib.hid hb5
        have hz5 := hb5.size
        have hc5 := fun j => hb5.cell (p := ⟨b, j, none⟩) (by simp; omega)
        rw [← hc5] at d0 d1 d2 d3 d4 d5
        clear ho5 hb5 hc5
        go_upto_block 2 with fail
        go_cut [27] (fun _ wc => StMet w A5 L wc)
        case first =>
          have hD : Below w1.heap.size w1 w1.drew := (Below.refl _ _).drew
          have HD := Lib.hid hD
          have HS2 := Lib.hid ((HSH.out.below HB5.out).below hD)
          have HM : Hid (∀ v' L' w3, ShAt w3 w.heap.size w.heap.size v' L' → Fine L' ∧ Stays L L' → Only w.heap.size v w1.drew w3 → StMet w A5 L w3) := fun v' L' w3 => stays_meet HB.out HSH.out HO5.out HB5.out hD
          have HW2 : Hid (Below w.heap.size w w1.drew) := (HB.out.trans (HB5.out.mono hsz)).trans (hD.mono (by omega))
          have hz2 := hD.size
          clear hD
          by_cases h0 : l[k].kind = 0
          · go_wp2_with fail
            go_still_tail 11, (by kernel_rfl)
            change wpList _ _ _ _ _ w1.drew
            generalize w1.drew = w2 at *
            go_wp2_with fail
            refine (open_any L _ l[k].nets l[k].A l[k].cap v w.heap.size w.heap.size _ HS2.out HFI.out ((HOKk.out.seg.below HW2.out).mono (by omega)) (fun hx p hp => ⟨by have := HOKk.out.low hx p hp; omega, fun e => by have := HOKk.out.low hx p hp; have := own_base HS2.out.own _ e.symm; omega⟩) (by omega) (by omega) HOKk.out.cap HOKk.out.num).mono ?_
            rintro e w3 ⟨v3, rfl, hs3, ho3⟩
            have HX3 := Lib.hid (HM.out _ _ _ hs3 (fine_open _ _ HFI.out HOKk.out.num) ho3)
            clear hs3 ho3
            go_wp2_with fail
            go_meet
            exact HX3.out
          · by_cases h1 : l[k].kind = 1
            · go_wp2_with fail
              go_still_tail 16, (by kernel_rfl)
              change wpList _ _ _ _ _ w1.drew
              generalize w1.drew = w2 at *
              go_wp2_with fail
              refine (pay_any L _ _ _ v w.heap.size w.heap.size _ HS2.out HFI.out HOKk.out.amt.2).mono ?_
              rintro e w3 ⟨v3, rfl, hs3, ho3⟩
              have HX3 := Lib.hid (HM.out _ _ _ hs3 (fine_pay _ _ _ HFI.out) ho3)
              clear hs3 ho3
              go_wp2_with fail
              go_meet
              exact HX3.out
            · by_cases h2 : l[k].kind = 2
              · go_wp2_with fail
                go_still_tail 16, (by kernel_rfl)
                change wpList _ _ _ _ _ w1.drew
                generalize w1.drew = w2 at *
                go_wp2_with fail
                refine (take_any L _ _ _ v w.heap.size w.heap.size _ HS2.out HFI.out HOKk.out.amt.2).mono ?_
                rintro e w3 ⟨v3, rfl, hs3, ho3⟩
                have HX3 := Lib.hid (HM.out _ _ _ hs3 (fine_take _ _ _ HFI.out) ho3)
                clear hs3 ho3
                go_wp2_with fail
                go_meet
                exact HX3.out
              · go_wp2_with fail
                go_still_tail 21, (by kernel_rfl)
                change wpList _ _ _ _ _ w1.drew
                generalize w1.drew = w2 at *
                go_wp2_with fail
                refine (mark_any L _ _ _ _ v w.heap.size w.heap.size _ HS2.out HFI.out).mono ?_
                rintro e w3 ⟨v3, rfl, hs3, ho3⟩
                have HX3 := Lib.hid (HM.out _ _ _ hs3 (fine_mark _ _ _ _ HFI.out) ho3)
                clear hs3 ho3
                go_wp2_with fail
                go_meet
                exact HX3.out
        case rest =>
          obtain ⟨⟨L', ⟨⟨v', hsh'⟩, hfi'⟩, hst⟩, hbc, hseg⟩ := hcut
          have HSH' := Lib.hid hsh'
          have HFI' := Lib.hid hfi'
          have HST := Lib.hid hst
          have HBC := Lib.hid hbc
          have HSG := Lib.hid hseg
          have hll' := hfi'.len
          have hst1 := hst.1
          have hszc := hbc.size
          clear hsh' hfi' hst hbc hseg
          go_wp2_with fail
          refine (all_any L' v' w.heap.size w.heap.size _ HSH'.out (by omega)).mono ?_
          rintro e w4 ⟨v6, rfl, ho6, hb6⟩
          obtain ⟨A6, c6, rfl⟩ := own_form ho6
          have HSG' := Lib.hid (HSG.out.below hb6)
          have HSN := Lib.hid (Seg.of_own ho6)
          have HSH4 := Lib.hid (HSH'.out.below hb6)
          have HB4 : Hid (Below w.heap.size w w4) := HBC.out.trans (hb6.mono hszc)
          have hz6 := hb6.size
          have hnlt : ¬ (L'.length : Int) < (L.length : Int) := by omega
          have hnltd : decide (L'.length < L.length) = false := by simp; omega
          clear ho6 hb6
          go_wp2_with fail
          obtain ⟨wo, rfl⟩ : ∃ wo : World, wo = w4 := ⟨_, rfl⟩
          go_loopw [7, 8, 9] (fun i _ _ wr => ∃ q : Nat, q ≤ L'.length ∧ i = .int .i64 q ∧ Hid (Below wo.heap.size wo wr)) (fun i _ _ _ => L'.length - (intOf i).toNat)
          case atStart => exact ⟨0, Nat.zero_le _, rfl, Below.refl _ _⟩
          case round =>
            obtain ⟨q, hq, rfl, HBQ⟩ := hrel
            have hszq := HBQ.out.size
            by_cases hql : q < L'.length
            · obtain ⟨b6, o6, rfl, hb6, x0, x1, x2, x3, x4, x5⟩ := ob_at (HSN.out.below HBQ.out) hql
              have hok := HFI'.out.each _ (List.getElem_mem hql)
              have HX := Lib.hid (show L'[q] = L'[q] from rfl)
              go_upto_region 23 with fail
              generalize hx : L'[q] = x at *
              obtain ⟨xc, xm, xa, xn, xd, xs⟩ := x
              simp only at *
              have HK : Hid (∀ w', Below (wr.heap.size + 1) (wr.alloc (.cells #[.int .i64 xc, .int .i64 xm, .int .i64 xa, .int .i64 xn, .int .i64 xd, .int .i64 xs] 37)) w' → w'.cell? ⟨wr.heap.size, 0, none⟩ = some (.int .i64 xc) ∧ w'.cell? ⟨wr.heap.size, 1, none⟩ = some (.int .i64 xm) ∧ w'.cell? ⟨wr.heap.size, 2, none⟩ = some (.int .i64 xa) ∧ w'.cell? ⟨wr.heap.size, 3, none⟩ = some (.int .i64 xn) ∧ w'.cell? ⟨wr.heap.size, 4, none⟩ = some (.int .i64 xd) ∧ w'.cell? ⟨wr.heap.size, 5, none⟩ = some (.int .i64 xs)) := fun w' hb =>
                have hc := fun o => (hb.cell (p := ⟨wr.heap.size, o, none⟩) (by simp)).trans (cell_new _ _ _ o rfl)
                ⟨hc 0, hc 1, hc 2, hc 3, hc 4, hc 5⟩
              have HBX : Hid (Below wo.heap.size wo (wr.alloc (.cells #[.int .i64 xc, .int .i64 xm, .int .i64 xa, .int .i64 xn, .int .i64 xd, .int .i64 xs] 37))) := HBQ.out.alloc hszq _
              have hzx : (wr.alloc (.cells #[.int .i64 xc, .int .i64 xm, .int .i64 xa, .int .i64 xn, .int .i64 xd, .int .i64 xs] 37)).heap.size = wr.heap.size + 1 := by simp
              rw [← hzx] at HK
              generalize wr.alloc (.cells #[.int .i64 xc, .int .i64 xm, .int .i64 xa, .int .i64 xn, .int .i64 xd, .int .i64 xs] 37) = wx at *
              have HXX := Lib.hid hx
              have hd1 : decide (xd < 0) = false := by have := hok.d0; simp at this ⊢; omega
              have hd2 : decide ((⟨xc, xm, xa, xn, xd, xs⟩ : Ob).size < xd) = false := by have := hok.d1; simp at this ⊢; omega
              have hd3 : (xn == 0) = false := by have := hok.ne; simpa using this
              clear hx x0 x1 x2 x3 x4 x5
              go_cut [155] (fun s wc => s = .bool false ∧ Hid (Below wx.heap.size wx wc))
              case first =>
                obtain ⟨y0, y1, y2, y3, y4, y5⟩ := HK.out _ (Below.refl _ _)
                have hbel := fun (n : Bel wx.heap.size wx) (b o : Nat) (hb : b < wx.heap.size) => n.cells b o hb
                have hzl : wr.heap.size < wx.heap.size := by omega
                have HZX := Lib.hid hzx
                clear hzx
                have hok1 := hok.lo
                have hok2 := hok.hi
                have HO1 := Lib.hid hok1
                clear hok1
                by_cases hqw : q < L.length
                · obtain ⟨b5, o5, e5, hb5', z0, z1, z2, z3, z4, z5⟩ := ob_at ((HSG'.out.mono hz6).below HBX.out) hqw
                  subst e5
                  have hz6' := hz6
                  have hdq : decide (q < L.length) = true := by simp; omega
                  have hb5x : b5 < wx.heap.size := by have := HZX.out; omega
                  by_cases ho : isOpen L[q] = true
                  · have hst1 : (L[q].st == 1) = true := ho
                    have hst2 : (L[q].st != 1) = false := by simp [bne, hst1]
                    generalize L[q] = x5 at *
                    obtain ⟨x5c, x5m, x5a, x5n, x5d, x5s⟩ := x5
                    simp only at *
                    clear ho
                    refine wp_region_bel wx.heap.size (by kernel_rfl) (by kernel_rfl) ?_
                    repeat (go_big_quiet_step ((go_at_call 14; exact Calls.bel_of (Nat.le_refl _) (refsize_any ⟨xc, xm, xa, xn, xd, xs⟩ _ HO1.out hok2))))
                    refine wpQuiet_nil ?_
                    intro _ hw'
                    obtain ⟨nq, hw''⟩ := hw'
                    subst hw''
                    have HN := Lib.hid nq.h
                    go_wp2_with fail
                    go_meet
                    exact ⟨rfl, HN.out⟩
                  · have hop : isOpen L[q] = false := by simpa using ho
                    have hsame := HST.out.2 q hqw hop
                    rw [List.getElem?_eq_getElem hql, HXX.out] at hsame
                    have hst2 : (L[q].st != 1) = true := by simpa [isOpen, bne] using hop
                    rw [← (Option.some.inj hsame)] at hst2 z0 z1 z2 z3 z4 z5
                    simp only at *
                    clear ho hop hsame
                    refine wp_region_bel wx.heap.size (by kernel_rfl) (by kernel_rfl) ?_
                    repeat (go_big_quiet_step ((go_at_call 14; exact Calls.bel_of (Nat.le_refl _) (refsize_any ⟨xc, xm, xa, xn, xd, xs⟩ _ HO1.out hok2))))
                    refine wpQuiet_nil ?_
                    intro _ hw'
                    obtain ⟨nq, hw''⟩ := hw'
                    subst hw''
                    have HN := Lib.hid nq.h
                    go_wp2_with fail
                    go_meet
                    exact ⟨rfl, HN.out⟩
                · have hdq : decide (q < L.length) = false := by simp; omega
                  have hdq' : decide ((q : Int) < (L.length : Int)) = false := by simp; omega
                  refine wp_region_bel wx.heap.size (by kernel_rfl) (by kernel_rfl) ?_
                  repeat (go_big_quiet_step ((go_at_call 14; exact Calls.bel_of (Nat.le_refl _) (refsize_any ⟨xc, xm, xa, xn, xd, xs⟩ _ HO1.out hok2))))
                  refine wpQuiet_nil ?_
                  intro _ hw'
                  obtain ⟨nq, hw''⟩ := hw'
                  subst hw''
                  have HN := Lib.hid nq.h
                  go_wp2_with fail
                  go_meet
                  exact ⟨rfl, HN.out⟩
              case rest =>
                obtain ⟨rfl, HBW⟩ := hcut
                have hzc := HBW.out.size
                obtain ⟨y0, y1, y2, y3, y4, y5⟩ := HK.out _ HBW.out
                have HO := Lib.hid (fun j (hj : j < L'.length) => HFI'.out.once j q hj hql)
                go_wp2_with fail
                clear y0 y1 y2 y3 y4 y5
                obtain ⟨wi, rfl⟩ : ∃ wi : World, wi = wr := ⟨_, rfl⟩
                go_loopw [9] (fun i wr => ∃ j : Nat, j ≤ q ∧ i = .int .i64 j ∧ Hid (Below wx.heap.size wx wr)) (fun i _ => q - (intOf i).toNat)
                case atStart => exact ⟨0, Nat.zero_le _, rfl, HBW⟩
                case round =>
                  obtain ⟨j, hj, rfl, HBJ⟩ := hrel
                  have hzj := HBJ.out.size
                  obtain ⟨y0, y1, y2, y3, y4, y5⟩ := HK.out _ HBJ.out
                  have HBO : Hid (Below wo.heap.size wo wr) := HBX.out.trans (HBJ.out.mono (by omega))
                  by_cases hjq : j < q
                  · by_cases hx1 : xs = 1
                    · subst hx1
                      have hjl : j < L'.length := by omega
                      obtain ⟨b7, o7, e7, hb7, z0, z1, z2, z3, z4, z5⟩ := ob_at (HSN.out.below HBO.out) hjl
                      injection e7 with e7
                      injection e7 with e7 e8
                      subst e7 e8
                      have hon := HO.out j hjl hjq
                      rw [HXX.out] at hon
                      have hjb : (j : Int) < (L'.length : Int) := by omega
                      have hj0 : (0 : Int) ≤ (j : Int) := by omega
                      by_cases hs1 : L'[j].st = 1
                      · have hs1b : (L'[j].st == 1) = true := by simpa using hs1
                        by_cases hm1 : L'[j].m = xm
                        · have hm1b : (L'[j].m == xm) = true := by simpa using hm1
                          have ha1 : L'[j].a ≠ xa := fun ha => hon (by simpa [isOpen] using hs1) rfl ⟨hm1, ha⟩
                          have ha1b : (L'[j].a == xa) = false := by simpa using ha1
                          clear hon hs1 hm1 ha1
                          go_upto_region 28 with fail
                          go_quiet (fail)
                          have HBN : Hid (Below wx.heap.size wx (wr.drewN nq)) := below_drewN HBJ.out nq
                          go_wp2_with fail
                          go_roundw
                          case rel => exact ⟨j + 1, by omega, by go_num, HBN⟩
                          case measure => simp [intOf]; omega
                        · have hm1b : (L'[j].m == xm) = false := by simpa using hm1
                          clear hon hs1 hm1
                          go_upto_region 28 with fail
                          go_quiet (fail)
                          have HBN : Hid (Below wx.heap.size wx (wr.drewN nq)) := below_drewN HBJ.out nq
                          go_wp2_with fail
                          go_roundw
                          case rel => exact ⟨j + 1, by omega, by go_num, HBN⟩
                          case measure => simp [intOf]; omega
                      · have hs1b : (L'[j].st == 1) = false := by simpa using hs1
                        clear hon hs1
                        go_upto_region 28 with fail
                        go_quiet (fail)
                        have HBN : Hid (Below wx.heap.size wx (wr.drewN nq)) := below_drewN HBJ.out nq
                        go_wp2_with fail
                        go_roundw
                        case rel => exact ⟨j + 1, by omega, by go_num, HBN⟩
                        case measure => simp [intOf]; omega
                    · have hx1b : (xs == 1) = false := by simpa using hx1
                      go_wp2_with fail
                      go_roundw
                      case rel => exact ⟨q + 1, by omega, by go_num, HBO⟩
                      case measure => simp [intOf]; omega
                  · go_wp2_with fail
                    go_roundw
                    case rel => exact ⟨q + 1, by omega, by go_num, HBO⟩
                    case measure => simp [intOf]; omega
            · have HX9 : Hid (∃ L, ShFine wr w.heap.size w.heap.size L) := ⟨L', ⟨v', HSH4.out.below (HBQ.out.mono (by omega))⟩, HFI'.out⟩
              have HB9 : Hid (Below w.heap.size w wr) := HB4.out.trans (HBQ.out.mono (by omega))
              go_wp2_with fail
              go_roundw
              case rel => exact ⟨k + 1, by omega, by go_num, HB9, HX9⟩
              case measure => simp [intOf]; omega
      · obtain rfl : k = l.length := by omega
        go_wp2_with fail
        refine (awake_any _).mono ?_
        rintro e w1 ⟨rfl, hb1⟩
        go_wp2_with fail
        go_ret
        exact ⟨rfl, HB.out.trans (hb1.mono hsz)⟩
end Go.Proofs.Ytkjkkcaiddeggaa
