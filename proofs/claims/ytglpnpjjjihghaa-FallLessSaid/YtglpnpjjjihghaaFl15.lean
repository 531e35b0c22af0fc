/-
  What complineref23.Room comes to of what may be, over this seat's translation: a contract for callers.
-/
import Derived.Test.YtglpnpjjjihghaaFl14
namespace Go.Proofs.Ytglpnpjjjihghaa
open Go.RowKit

/-- What may be drawn, by the document, of the first k members. -/
def rrN (p : Pol) (os : List Int) : Nat → Int
  | 0 => p.line + p.cap
  | k + 1 => rrN p os k + atI p.fu ((k : Int) + 1) + (if os.contains ((k : Int) + 1) then atI p.co ((k : Int) + 1) else 0)
theorem mem_co {p : Pol} {k : Nat} (hk : k < p.co.length) : p.co[k] ∈ polL p := by
  unfold polL
  rw [List.append_assoc]
  exact List.mem_append_left _ (List.getElem_mem hk)
theorem mem_fu {p : Pol} {k : Nat} (hk : k < p.fu.length) : p.fu[k] ∈ polL p := by
  unfold polL
  exact List.mem_append_left _ (List.mem_append_right _ (List.getElem_mem hk))
theorem rrN_bd {p : Pol} {os : List Int} (h : MayF p os) : ∀ k, k ≤ p.co.length → 0 ≤ rrN p os k ∧ rrN p os k ≤ (2 + 2 * (k : Int)) * 1099511627776
  | 0, _ => by
    have h1 := h.all p.line (by simp [polL])
    have h2 := h.all p.cap (by simp [polL])
    unfold rrN
    omega
  | k + 1, hk => by
    have ih := rrN_bd h k (by omega)
    have hf : k < p.fu.length := by have := h.len; omega
    have h1 := h.all _ (mem_co (show k < p.co.length by omega))
    have h2 := h.all _ (mem_fu hf)
    have e : rrN p os (k + 1) = rrN p os k + atI p.fu ((k : Int) + 1) + (if os.contains ((k : Int) + 1) then atI p.co ((k : Int) + 1) else 0) := rfl
    rw [e, atI_at hf, atI_at (show k < p.co.length by omega)]
    split <;> omega
set_option maxRecDepth 100000 in
set_option maxHeartbeats 1600000 in
theorem room23_any (p : Pol) (os : List Int) (A : Option Addr) (c : Nat) (w : World) (h : PolOk w p) (hm : MayF p os) (hs : Seg w w.heap.size A (os.map (Value.int .i64))) (hl : os.length ≤ 100000) :
    Calls Try.prog 25 #[p.val, .slice A os.length c] w fun e w' => e = .returned (.int .i64 (rrN p os p.co.length)) ∧ Below w.heap.size w w' := by
  have HB0 : Hid (Below w.heap.size w (w.alloc (.cells #[.slice p.Ac p.co.length p.cc, .slice p.Af p.fu.length p.cf, .int .i64 p.line, .int .i64 p.cap] 37))) := Lib.hid ((Below.refl _ _).alloc (Nat.le_refl _) _)
  have HX := Lib.hid fun j => cell_new w #[.slice p.Ac p.co.length p.cc, .slice p.Af p.fu.length p.cf, .int .i64 p.line, .int .i64 p.cap] 37 (b := w.heap.size) j rfl
  have HO : Hid (∀ (m : Int) W, Below w.heap.size w W → Calls Try.prog 19 #[.slice A os.length c, .int .i64 m] W fun e w' => e = .returned (.bool (os.contains m)) ∧ W = w') := Lib.hid fun m W hW => out23_any os m A c W ((hs.below hW).mono hW.size) hl
  have HC := Lib.hid (h.c.seg.below HB0.out)
  have HF := Lib.hid (h.f.seg.below HB0.out)
  have HN := Lib.hid (fun (k : Nat) => rrN_bd hm k)
  have HU : Hid (∀ (k : Nat) (b : Bool), os.contains ((k : Int) + 1) = b → rrN p os (k + 1) = rrN p os k + atI p.fu ((k : Int) + 1) + (if b then atI p.co ((k : Int) + 1) else 0)) := Lib.hid fun k b hb => by rw [← hb]; rfl
  have HAL := Lib.hid hm.all
  have hlc : p.co.length ≤ 16 := hm.big
  have hlf : p.fu.length = p.co.length := hm.len
  have HLF := Lib.hid hlf
  have hb1 := hm.all p.line (by simp [polL])
  have hb2 := hm.all p.cap (by simp [polL])
  have hw0 : IntKind.i64.wrap (p.line + p.cap) = p.line + p.cap := IntWalk.i64_in _ (by omega)
  have hlf2 : p.fu.length ≤ p.co.length := by omega
  have hlf3 : p.co.length ≤ p.fu.length := by omega
  obtain ⟨rr, hrr⟩ : ∃ r, r = rrN p os p.co.length := ⟨_, rfl⟩
  rw [← hrr]
  have HRR := Lib.hid hrr
  clear h hs hm hlf hrr
  unfold Pol.val
  go_enter Try.func25, Try.ntmps25
  go_wp2_with fail
  generalize w.alloc (.cells #[.slice p.Ac p.co.length p.cc, .slice p.Af p.fu.length p.cf, .int .i64 p.line, .int .i64 p.cap] 37) = w0 at *
  have c0 : w0.cell? ⟨w.heap.size, 0, none⟩ = some (.slice p.Ac p.co.length p.cc) := HX.out 0
  have c1 : w0.cell? ⟨w.heap.size, 1, none⟩ = some (.slice p.Af p.fu.length p.cf) := HX.out 1
  clear HX
  go_loop [5, 6] (fun n i => ∃ k : Nat, k ≤ p.co.length ∧ i = .int .i64 k ∧ n = .int .i64 (rrN p os k)) (fun _ i => p.co.length - (intOf i).toNat)
  case atStart => exact ⟨0, Nat.zero_le _, rfl, rfl⟩
  case round =>
    obtain ⟨k, hk, rfl, rfl⟩ := hrel
    by_cases hlt : k < p.co.length
    case neg =>
      obtain rfl : k = p.co.length := by omega
      have hd : decide ((p.co.length : Int) < (p.fu.length : Int)) = false := decide_eq_false (by omega)
      go_wp2_with fail
      go_ret
      exact ⟨ret_int HRR.out.symm, HB0.out⟩
    have hkf : k < p.fu.length := by omega
    obtain ⟨bc, oc, hAc, hbc, dc⟩ := int_at HC.out hlt
    obtain ⟨bf, of, hAf, hbf, df⟩ := int_at HF.out hkf
    rw [hAc] at c0
    rw [hAf] at c1
    clear hAc hAf
    have hd : decide ((k : Int) < (p.fu.length : Int)) = true := decide_eq_true (by omega)
    have hkb : (k : Int) < (p.co.length : Int) := by omega
    have hkg : (k : Int) < (p.fu.length : Int) := by omega
    have hk0 : (0 : Int) ≤ (k : Int) := by omega
    have hkw : IntKind.i64.wrap ((k : Int) + 1) = (k : Int) + 1 := IntWalk.i64_in _ (by omega)
    have hn := HN.out k (by omega)
    have hx1 := HAL.out _ (mem_co hlt)
    have hx2 := HAL.out _ (mem_fu hkf)
    have HUK := Lib.hid (HU.out k)
    rw [atI_at hlt, atI_at hkf] at HUK
    obtain ⟨rn, hrn⟩ : ∃ r, r = rrN p os (k + 1) := ⟨_, rfl⟩
    rw [← hrn] at HUK
    have HRN := Lib.hid hrn
    clear hrn
    generalize rrN p os k = rv at *
    generalize p.co[k] = x at *
    generalize p.fu[k] = y at *
    have hw1 : IntKind.i64.wrap (rv + y) = rv + y := IntWalk.i64_in _ (by omega)
    have hw2 : IntKind.i64.wrap (rv + y + x) = rv + y + x := IntWalk.i64_in _ (by omega)
    go_wp2_with fail
    refine (HO.out _ w0 HB0.out).mono ?_
    rintro e w5 ⟨rfl, rfl⟩
    cases hct : os.contains ((k : Int) + 1) with
    | true =>
      have HE : Hid (rv + y + x = rn) := Lib.hid (by rw [HUK.out true hct]; simp)
      clear HUK hct
      go_wp2_with fail
      go_round
      case rel => exact ⟨k + 1, by omega, by go_num, by rw [HE.out, HRN.out]⟩
      case measure => simp [intOf]; omega
    | false =>
      have HE : Hid (rv + y = rn) := Lib.hid (by rw [HUK.out false hct]; simp)
      clear HUK hct
      go_wp2_with fail
      go_round
      case rel => exact ⟨k + 1, by omega, by go_num, by rw [HE.out, HRN.out]⟩
      case measure => simp [intOf]; omega
end Go.Proofs.Ytglpnpjjjihghaa
