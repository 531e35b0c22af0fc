/-
  What complineref33.Print comes to, over this seat's translation: a contract for callers.
-/
import Derived.Test.YtmplokdbbhlomaaGreatDoorSdA
import Derived.Test.YtmplokdbbhlomaaGreatDoorSrB
namespace Go.Proofs.YtmplokdbbhlomaaGreatDoor
open Go.RowKit

theorem line_kind {z : St} (h : rightS z = true) : z.k = 2 ∨ z.k = 3 ∨ z.k = 1 ∧ isK z.c.k = true := by
  by_cases h1 : z.k = 1
  · exact .inr (.inr ⟨h1, rightC_isK (right_one h h1).2⟩)
  · unfold rightS at h
    simp [h1] at h
    omega
theorem printL_snoc (l : List St) (x : St) : printL (l ++ [x]) = (printL l ++ lineS x) ++ [10] := by
  unfold printL
  rw [List.flatMap_append, List.append_assoc]
  simp
set_option maxRecDepth 100000 in
set_option maxHeartbeats 6400000 in
theorem srprint_any (l : List St) (A : Option Addr) (c : Nat) (w : World) (hs : Seg w w.heap.size A (stRows l)) (hI : ∀ x ∈ l, StOk x) (hw : wrongL l = 0) : Calls Tryz.prog 15 #[.slice A l.length c] w fun e w' => e = .returned (.string (bs (printL l))) ∧ Below w.heap.size w w' := by
  have HS := Lib.hid hs
  have HI := Lib.hid hI
  obtain ⟨hl, hR⟩ := wrongL_zero hw
  have HR := Lib.hid hR
  clear hs hI hw hR
  have HLP : Hid (printL l = printL (l.take l.length)) := Lib.hid (by rw [List.take_length])
  generalize printL l = R at HLP ⊢
  go_enter Tryz.func15, Tryz.ntmps15
  go_wp2_with fail
  go_loopw [3, 4] (fun vs i wr => ∃ k : Nat, k ≤ l.length ∧ i = .int .i64 k ∧ vs = .string (bs (printL (l.take k))) ∧ Hid (Below w.heap.size w wr)) (fun _ i _ => l.length - (intOf i).toNat)
  case atStart => exact ⟨0, Nat.zero_le _, rfl, rfl, Below.refl _ _⟩
  case round =>
    obtain ⟨k, hk, rfl, rfl, HB⟩ := hrel
    by_cases hlt : k < l.length
    · obtain ⟨b, o, rfl, hb, e0, e1, e2, e3, e4, e5, e6, e7, e8⟩ := st_at (HS.out.below HB.out) hlt
      have HSN : Hid (printL (l.take (k + 1)) = (printL (l.take k) ++ lineS l[k]) ++ [10]) := Lib.hid (by rw [List.take_succ_eq_append_getElem hlt]; exact printL_snoc _ _)
      have hsl := printL_len (l.take k) (fun y hy => HI.out y (List.mem_of_mem_take hy))
      rw [List.length_take] at hsl
      have hok := HI.out _ (List.getElem_mem hlt)
      have hxl := lineS_len hok
      have HBY := Lib.hid (fun W => srline_any l[k] hok (line_kind (HR.out _ (List.getElem_mem hlt))) W)
      unfold stV stCells at HBY
      clear hok
      generalize l[k] = x at *
      generalize printL (l.take k) = pk at *
      generalize lineS x = px at *
      have hl1 : pk.length ≤ 1000000 := by omega
      have hs1 := bs_size pk
      have hs2 := bs_size px
      have hap := bs_append pk px
      have hs3 := bs_size (pk ++ px)
      have hl3 : (pk ++ px).length = pk.length + px.length := List.length_append
      have hap2 := bs_append (pk ++ px) [10]
      have hs4 : (bs [10]).size = 1 := rfl
      have hbig : ¬ 9223372036854775807 < pk.length + px.length := by omega
      have hbig2 : ¬ 9223372036854775807 < pk.length + px.length + 1 := by omega
      rw [hl3] at hs3
      clear hsl hl3
      go_wp2_with (go_at_call 10; refine (HBY.out _).mono ?_; rintro e w2 ⟨rfl, hb⟩; have HB2 := Lib.hid (HB.out.trans (hb.mono HB.out.size)); clear hb)
      go_roundw
      case rel => exact ⟨k + 1, by omega, by go_num, by rw [HSN.out, List.append_assoc], HB2⟩
      case measure => simp [intOf]; omega
    · obtain rfl : k = l.length := by omega
      go_wp2_with fail
      go_ret
      exact ⟨by rw [HLP.out]; rfl, HB.out⟩
end Go.Proofs.YtmplokdbbhlomaaGreatDoor
