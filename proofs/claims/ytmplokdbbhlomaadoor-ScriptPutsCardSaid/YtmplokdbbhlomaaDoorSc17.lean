/-
  What script.Print comes to, over this seat's translation: a contract for callers.
-/
import Derived.Test.YtmplokdbbhlomaaDoorSc16
namespace Go.Proofs.YtmplokdbbhlomaaDoor
open Go.RowKit

set_option maxRecDepth 100000 in
set_option maxHeartbeats 6400000 in
theorem print_any (l : List St) (A : Option Addr) (c : Nat) (w : World) (hs : Seg w w.heap.size A (stRows l)) (hI : ∀ x ∈ l, StOk x) (he : EnvS w) : Calls Tryd.prog 13 #[.slice A l.length c] w fun e w' => e = .returned (.tuple #[.string (bs (if wrongL l = 0 then printL l else [])), .int .i64 (wrongL l)]) ∧ Below w.heap.size w w' := by
  have HS := Lib.hid hs
  have HI := Lib.hid hI
  have HAL := Lib.hid (sall_any l A c w hs)
  have HE := Lib.hid he
  clear hs hI he
  by_cases h0 : wrongL l = 0
  case neg =>
    rw [if_neg h0]
    generalize wrongL l = er at *
    have hne : (er != 0) = true := by simpa using h0
    go_enter Tryd.func13, Tryd.ntmps13
    go_wp2_with (go_at_call 14; refine HAL.out.mono ?_; rintro e w1 ⟨rfl, hb⟩; have HB1 := Lib.hid hb; clear hb)
    go_ret2
    exact ⟨rfl, HB1.out⟩
  obtain ⟨hl, hR⟩ := wrongL_zero h0
  have HR := Lib.hid hR
  rw [if_pos h0]
  rw [h0] at HAL ⊢
  clear h0 hR
  have HLP : Hid (printL l = printL (l.take l.length)) := Lib.hid (by rw [List.take_length])
  go_enter Tryd.func13, Tryd.ntmps13
  go_wp2_with (go_at_call 14; refine HAL.out.mono ?_; rintro e w1 ⟨rfl, hb⟩; have HB1 := Lib.hid hb; clear hb)
  have HW1 : Hid (Below w.heap.size w (w1.alloc (.cells #[.pointer none, .slice none 0 0] TB))) := Lib.hid (HB1.out.alloc HB1.out.size _)
  have HBD : Hid (Lib.IsBuilder TB TU w.heap.size w1.heap.size (Lib.byteCells (printL (l.take 0))) (w1.alloc (.cells #[.pointer none, .slice none 0 0] TB))) := Lib.hid (bld_fresh w1 w.heap.size HB1.out.size)
  generalize hRE : printL l = R at *
  have HRE := Lib.hid hRE
  clear hRE
  generalize (w1.alloc (.cells #[.pointer none, .slice none 0 0] TB)) = w2 at *
  go_loopw [7, 8, 9, 17] (fun _ _ _ i wr => ∃ k : Nat, k ≤ l.length ∧ i = .int .i64 k ∧ Hid (Lib.IsBuilder TB TU w.heap.size w1.heap.size (Lib.byteCells (printL (l.take k))) wr) ∧ Hid (Below w.heap.size w wr)) (fun _ _ _ i _ => l.length - (intOf i).toNat)
  case atStart => exact ⟨0, Nat.zero_le _, rfl, HBD, HW1⟩
  case round =>
    clear HBD HW1
    obtain ⟨k, hk, rfl, HB, HW⟩ := hrel
    by_cases hlt : k < l.length
    · obtain ⟨b, o, rfl, hb, e0, e1, e2, e3, e4, e5, e6, e7, e8⟩ := st_at (HS.out.below HW.out) hlt
      have HSN : Hid (printL (l.take (k + 1)) = (printL (l.take k) ++ lineS l[k]) ++ [10]) := Lib.hid (by rw [List.take_succ_eq_append_getElem hlt]; unfold printL; rw [List.flatMap_append, List.append_assoc]; simp)
      have hlen := printL_len (l.take k) (fun x hx => HI.out x (List.mem_of_mem_take hx))
      rw [List.length_take] at hlen
      have hxo := HI.out _ (List.getElem_mem hlt)
      have hxr := HR.out _ (List.getElem_mem hlt)
      have hk0 : (0 : Int) ≤ (k : Int) := by omega
      have hkb : (k : Int) < (l.length : Int) := by omega
      generalize l[k] = x at *
      generalize printL (l.take k) = ys at *
      have hsl := lineS_len hxo
      have HBA : Hid (Below wr.heap.size wr (wr.alloc (.cells (stCells x) TSt))) := Lib.hid ((Below.refl _ _).alloc (Nat.le_refl _) _)
      have HBA2 := Lib.hid (bld_below HB.out HBA.out)
      have HWA : Hid (Below w.heap.size w (wr.alloc (.cells (stCells x) TSt))) := Lib.hid (HW.out.trans (HBA.out.mono HW.out.size))
      have HSC := Lib.hid (fun W hW => line_any x hxo W hW)
      have her : errS x = 0 := by unfold errS; rw [hxr]; rfl
      rw [hxr, if_pos rfl, her] at HSC
      unfold stCells at HBA2 HWA
      unfold stV stCells at HSC
      clear HBA her hxo hxr
      generalize lineS x = px at *
      go_wp2_with (go_at_call 31; refine (HSC.out _ (HE.out.below HWA.out)).mono ?_)
      rintro e w4 ⟨rfl, hb4⟩
      have HB4 := Lib.hid (bld_below HBA2.out hb4)
      have HW4 : Hid (Below w.heap.size w w4) := Lib.hid (HWA.out.trans (hb4.mono HWA.out.size))
      clear hb4 HBA2 HWA
      have HWR := Lib.hid (write_any w.heap.size w1.heap.size _ (bs px) w4 HB4.out (by rw [bs_size, Lib.byteCells_length]; omega) HW4.out.size)
      go_wp2_with (go_at_call 15; refine HWR.out.mono ?_)
      rintro e w5 ⟨rfl, hbd5, hb5, _⟩
      have HB5 : Hid (Lib.IsBuilder TB TU w.heap.size w1.heap.size (Lib.byteCells (ys ++ px)) w5) := Lib.hid (by
        rw [bytes_append, ← strCells_mk px]
        exact hbd5)
      have HW5 : Hid (Below w.heap.size w w5) := Lib.hid (HW4.out.trans hb5)
      clear hbd5 hb5 HWR HB4 HW4
      have HWR := Lib.hid (write_any w.heap.size w1.heap.size _ (bs [10]) w5 HB5.out (by rw [bs_size, Lib.byteCells_length, List.length_append]; simp; omega) HW5.out.size)
      go_wp2_with (go_at_call 15; refine HWR.out.mono ?_)
      rintro e w6 ⟨rfl, hbd6, hb6, _⟩
      have HB6 : Hid (Lib.IsBuilder TB TU w.heap.size w1.heap.size (Lib.byteCells (printL (l.take (k + 1)))) w6) := Lib.hid (by
        rw [HSN.out, bytes_append, ← strCells_mk [10]]
        exact hbd6)
      have HW6 : Hid (Below w.heap.size w w6) := Lib.hid (HW5.out.trans hb6)
      clear hbd6 hb6 HWR
      go_wp2_with fail
      go_roundw
      case rel => exact ⟨k + 1, by omega, by go_num, HB6, HW6⟩
      case measure => simp [intOf]; omega
    · obtain rfl : k = l.length := by omega
      have hb := HB.out
      rw [← HLP.out] at hb
      have HST := Lib.hid (Tryd.Builder_String_any w.heap.size w1.heap.size _ wr hb HW.out.size)
      clear hb
      go_wp2_with (go_at_call 18; refine HST.out.mono ?_)
      rintro e w8 ⟨rfl, hb8⟩
      have HW8 : Hid (Below w.heap.size w w8) := Lib.hid (HW.out.trans hb8)
      clear hb8 HST
      go_wp2_with fail
      go_ret2
      exact ⟨by rw [HRE.out]; rfl, HW8.out⟩
end Go.Proofs.YtmplokdbbhlomaaDoor
