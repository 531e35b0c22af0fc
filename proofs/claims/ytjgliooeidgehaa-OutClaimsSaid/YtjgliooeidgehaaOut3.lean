/-
  What complineref28's Failed and Claims, and complineref16.Same, come to; the page's example of layer 28 holds, over this seat's translation.
-/
import Derived.Test.YtjgliooeidgehaaOut2
namespace Go.Proofs.Ytjgliooeidgehaa
open Go.RowKit

theorem map_filter_snoc {β : Type} (p : Ob → Bool) (f : Ob → β) {l : List Ob} {k : Nat} (hk : k < l.length) : ((l.take (k + 1)).filter p).map f = ((l.take k).filter p).map f ++ (if p l[k] then [f l[k]] else []) := by
  rw [filter_snoc p hk, List.map_append]
  by_cases h : p l[k] <;> simp [h]
def mustB (x : Ob) : Bool := x.st == 1 && failB x
theorem must_ways {x : Ob} (h : mustB x = false) : (x.st == 1) = false ∨ (x.st == 1) = true ∧ (decide (0 < x.net) = false ∨ decide (0 < x.net) = true ∧ decide (x.done < x.net) = false) := by
  revert h
  unfold mustB failB
  cases (x.st == 1) <;> cases decide (0 < x.net) <;> cases decide (x.done < x.net) <;> simp
theorem must_yes {x : Ob} (h : mustB x = true) : (x.st == 1) = true ∧ decide (0 < x.net) = true ∧ decide (x.done < x.net) = true := by
  revert h
  unfold mustB failB
  cases (x.st == 1) <;> cases decide (0 < x.net) <;> cases decide (x.done < x.net) <;> simp
set_option maxRecDepth 100000 in
set_option maxHeartbeats 800000 in
theorem rfailed_any (L : List Ob) (A : Option Addr) (c : Nat) (w : World) (hs : Seg w w.heap.size A (obRows L)) (hl : L.length ≤ 100000) :
    Calls Try.prog 9 #[.slice A L.length c] w (GotSeg w (putsL ((L.filter mustB).map (·.m)))) := by
  have HS := Lib.hid hs
  clear hs
  go_enter Try.func9, Try.ntmps9
  go_wp2_with fail
  go_loopw [3, 4] (fun u i wr => ∃ k : Nat, k ≤ L.length ∧ i = .int .i64 k ∧ Hid (∃ A1 c1, u = .slice A1 (putsL (((L.take k).filter mustB).map (·.m))).length c1 ∧ Seg wr wr.heap.size A1 ((putsL (((L.take k).filter mustB).map (·.m))).map (Value.int .i64))) ∧ Hid (Below w.heap.size w wr)) (fun _ i _ => L.length - (intOf i).toNat)
  case atStart => exact ⟨0, Nat.zero_le _, rfl, ⟨none, 0, rfl, Seg.nil⟩, Below.refl _ _⟩
  case round =>
    obtain ⟨k, hk, rfl, HX, HB⟩ := hrel
    obtain ⟨A1, c1, rfl, hs1⟩ := HX.out
    have HS1 := Lib.hid hs1
    have hsz := HB.out.size
    clear hs1
    by_cases hlt : k < L.length
    · obtain ⟨b, o, rfl, hb, d0, d1, d2, d3, d4, d5⟩ := ob_at (HS.out.below HB.out) hlt
      have HF := Lib.hid (map_filter_snoc mustB (·.m) hlt)
      have hkb : (k : Int) < (L.length : Int) := by omega
      have hk0 : (0 : Int) ≤ (k : Int) := by omega
      have hln : (putsL (((L.take k).filter mustB).map (·.m))).length ≤ k := by
        have h1 := puts_len (((L.take k).filter mustB).map (·.m)) []
        have h2 := filter_len mustB L k
        simp only [List.length_map, List.length_nil] at h1
        unfold putsL
        omega
      cases hp : mustB L[k]
      · have hF : ((L.take (k + 1)).filter mustB).map (·.m) = ((L.take k).filter mustB).map (·.m) := by rw [HF.out, hp]; simp
        have HX1 : Hid (∃ A2 c2, (Value.slice A1 (putsL (((L.take k).filter mustB).map (·.m))).length c1) = .slice A2 (putsL (((L.take (k + 1)).filter mustB).map (·.m))).length c2 ∧ ∀ nq, Seg (wr.drewN nq) (wr.drewN nq).heap.size A2 ((putsL (((L.take (k + 1)).filter mustB).map (·.m))).map (Value.int .i64))) := by
          show ∃ A2 c2, _
          rw [hF]
          exact ⟨A1, c1, rfl, fun nq => HS1.out.below (below_drewN (Below.refl _ _) nq)⟩
        clear hF
        have hw := must_ways hp
        clear hp
        rcases hw with h1 | ⟨h1, h2 | ⟨h2, h3⟩⟩
        all_goals
          go_wp2_with fail
          go_quiet (fail)
          have HBN := Lib.hid (below_drewN HB.out nq)
          have HXN : Hid (∃ A2 c2, (Value.slice A1 (putsL (((L.take k).filter mustB).map (·.m))).length c1) = .slice A2 (putsL (((L.take (k + 1)).filter mustB).map (·.m))).length c2 ∧ Seg (wr.drewN nq) (wr.drewN nq).heap.size A2 ((putsL (((L.take (k + 1)).filter mustB).map (·.m))).map (Value.int .i64))) := by
            obtain ⟨A2, c2, e1, e2⟩ := HX1.out
            exact ⟨A2, c2, e1, e2 nq⟩
          go_wp2_with fail
          go_roundw
          case rel => exact ⟨k + 1, by omega, by go_num, HXN, HBN⟩
          case measure => simp [intOf]; omega
      · have HF1 : Hid (putsL (((L.take (k + 1)).filter mustB).map (·.m)) = putL (putsL (((L.take k).filter mustB).map (·.m))) L[k].m) := by show _ = _; rw [HF.out, hp, ← puts_snoc]; rfl
        obtain ⟨h1, h2, h3⟩ := must_yes hp
        clear hp
        generalize putsL (((L.take k).filter mustB).map (·.m)) = ys at *
        go_wp2_with fail
        go_quiet (fail)
        have HBN := Lib.hid (below_drewN HB.out nq)
        have HSN : Hid (Seg (wr.drewN nq) (wr.drewN nq).heap.size A1 (ys.map (Value.int .i64))) := HS1.out.below (below_drewN (Below.refl _ _) nq)
        go_wp2_with fail
        refine (iput_any ys A1 c1 L[k].m _ HSN.out (by omega)).mono ?_
        rintro e w3 ⟨A3, c3, rfl, hs3, hb3⟩
        rw [← HF1.out] at hs3 ⊢
        have HS3 := Lib.hid hs3
        have HB3 : Hid (Below w.heap.size w w3) := HBN.out.trans (hb3.mono HBN.out.size)
        clear hs3 hb3
        go_wp2_with fail
        go_roundw
        case rel => exact ⟨k + 1, by omega, by go_num, ⟨A3, c3, rfl, HS3.out⟩, HB3⟩
        case measure => simp [intOf]; omega
    · obtain rfl : k = L.length := by omega
      have h2 := HS1.out
      rw [List.take_length] at h2 ⊢
      have HS2 := Lib.hid h2
      clear h2
      go_wp2_with fail
      go_ret
      exact ⟨A1, c1, rfl, HS2.out, HB.out⟩

set_option maxHeartbeats 400000 in
theorem lsame_any (L : List Lg) (A B : Option Addr) (c d : Nat) (w : World) (h1 : Seg w w.heap.size A (lgRows L)) (h2 : Seg w w.heap.size B (lgRows L)) (hl : L.length ≤ 1000000) :
    Calls Try.prog 15 #[.slice A L.length c, .slice B L.length d] w fun e w' => e = .returned (.bool true) ∧ Below w.heap.size w w' := by
  have H1 := Lib.hid h1
  have H2 := Lib.hid h2
  clear h1 h2
  go_enter Try.func15, Try.ntmps15
  go_wp2_with fail
  go_loopw [5] (fun i wr => ∃ k : Nat, k ≤ L.length ∧ i = .int .i64 k ∧ Hid (∃ n, w.drewN n = wr)) (fun i _ => L.length - (intOf i).toNat)
  case atStart => exact ⟨0, Nat.zero_le _, rfl, ⟨0, rfl⟩⟩
  case round =>
    obtain ⟨k, hk, rfl, HW⟩ := hrel
    obtain ⟨n, rfl⟩ := HW.out
    by_cases hlt : k < L.length
    · obtain ⟨b, o, rfl, hb, d0, d1, d2⟩ := lg_at H1.out hlt
      obtain ⟨b', o', rfl, hb', e0, e1, e2⟩ := lg_at H2.out hlt
      have hkb : (k : Int) < (L.length : Int) := by omega
      have hk0 : (0 : Int) ≤ (k : Int) := by omega
      go_wp2_with fail
      go_quiet (fail)
      go_wp2_with fail
      go_roundw
      case rel => exact ⟨k + 1, by omega, by go_num, ⟨n + nq, rfl⟩⟩
      case measure => simp [intOf]; omega
    · go_wp2_with fail
      go_ret
      exact ⟨rfl, below_drewN (Below.refl _ _) n⟩

/-- A claim of those who are out, or of those who are not. -/
def wantB (who : List Int) (out : Bool) (asset : Int) (x : Ob) : Bool := x.st == 1 && decide (x.net < 0) && (hasB who x.m == out) && (out || x.a == asset)
theorem want_ways {who : List Int} {out : Bool} {asset : Int} {x : Ob} (h : wantB who out asset x = false) :
    (x.st != 1) = true ∨ (x.st != 1) = false ∧ (decide (0 ≤ x.net) = true ∨ decide (0 ≤ x.net) = false ∧ ((hasB who x.m != out) = true ∨ (hasB who x.m != out) = false ∧ out = false ∧ (x.a != asset) = true)) := by
  have e : decide (0 ≤ x.net) = !decide (x.net < 0) := by rw [Bool.eq_iff_iff]; simp
  rw [e]
  revert h
  unfold wantB bne
  cases (x.st == 1) <;> cases decide (x.net < 0) <;> cases (hasB who x.m == out) <;> cases out <;> cases (x.a == asset) <;> simp
theorem want_yes {who : List Int} {out : Bool} {asset : Int} {x : Ob} (h : wantB who out asset x = true) :
    (x.st != 1) = false ∧ decide (0 ≤ x.net) = false ∧ (hasB who x.m != out) = false ∧ (out = true ∨ out = false ∧ (x.a != asset) = false) := by
  have e : decide (0 ≤ x.net) = !decide (x.net < 0) := by rw [Bool.eq_iff_iff]; simp
  rw [e]
  revert h
  unfold wantB bne
  cases (x.st == 1) <;> cases decide (x.net < 0) <;> cases (hasB who x.m == out) <;> cases out <;> cases (x.a == asset) <;> simp
end Go.Proofs.Ytjgliooeidgehaa
