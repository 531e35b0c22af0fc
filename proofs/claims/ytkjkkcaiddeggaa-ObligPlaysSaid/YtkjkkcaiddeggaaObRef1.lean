/-
  What the methods of complineref19.Sheet come to that change nothing, over this seat's translation: contracts for callers.
-/
import Derived.Test.YtkjkkcaiddeggaaObSheet5
namespace Go.Proofs.Ytkjkkcaiddeggaa
open Go.RowKit

/-- A sheet of the document lies at a block. -/
structure RfAt (w : World) (bs base : Nat) (v : Value) (L : List Ob) : Prop where
  s : w.heap[bs]? = some (.cells #[v] 41 (0, 0))
  own : w.ownsRow base 37 6 v L.length (obRows L)

section
variable {w w' : World} {bs base : Nat} {v : Value} {L : List Ob}
theorem RfAt.lt (h : RfAt w bs base v L) : bs < w.heap.size := (Array.getElem?_eq_some_iff.1 h.s).1
theorem RfAt.c0 (h : RfAt w bs base v L) : w.cell? ⟨bs, 0, none⟩ = some v := cell_of_row _ _ _ _ _ (0, 0) h.s
theorem RfAt.f0 (h : RfAt w bs base v L) : w.frozen? ⟨bs, 0, none⟩ = false := by simp [World.frozen?, h.s]
theorem RfAt.below (h : RfAt w bs base v L) (hb : Below w.heap.size w w') : RfAt w' bs base v L := by
  refine ⟨(hb.block _ h.lt).trans h.s, ?_⟩
  have hg : w.grownBy w' none := ⟨hb.os, hb.tape, hb.output, hb.size, fun i hi _ => hb.block i hi⟩
  exact h.own.kept hg (by cases v.ownBlock <;> simp)
theorem RfAt.ne (h : RfAt w bs base v L) : v.ownBlock ≠ some bs := by
  rcases h.own.2 with ⟨rfl, _⟩ | ⟨g, cap, cur, rfl, _, hh, _⟩
  · simp [Value.ownBlock]
  · intro e
    have e' : g = bs := by simpa [Value.ownBlock] using e
    subst e'
    rw [h.s] at hh
    injection hh with hh
    injection hh with _ ht
    exact absurd ht (by decide)
end

/-- A sheet with an obligation at i: its cells. -/
theorem rf_at {w : World} {bs base : Nat} {v : Value} {L : List Ob} (h : RfAt w bs base v L) {i : Nat} (hi : i < L.length) :
    ∃ g cap, v = .slice (some ⟨g, 0, none⟩) L.length cap ∧ g < w.heap.size ∧ g ≠ bs ∧ L.length ≤ cap ∧ (∀ j, w.frozen? ⟨g, j, none⟩ = false) ∧
      w.cell? ⟨g, i * 6, none⟩ = some (.int .i64 L[i].c) ∧ w.cell? ⟨g, i * 6 + 1, none⟩ = some (.int .i64 L[i].m) ∧ w.cell? ⟨g, i * 6 + 2, none⟩ = some (.int .i64 L[i].a) ∧
      w.cell? ⟨g, i * 6 + 3, none⟩ = some (.int .i64 L[i].net) ∧ w.cell? ⟨g, i * 6 + 4, none⟩ = some (.int .i64 L[i].done) ∧ w.cell? ⟨g, i * 6 + 5, none⟩ = some (.int .i64 L[i].st) := by
  rcases h.own.2 with ⟨rfl, h0⟩ | ⟨g, cap, cur, rfl, hg, hh, hnc, hcm, hcs, htk⟩
  · omega
  · have hlt : g < w.heap.size := (Array.getElem?_eq_some_iff.1 hh).1
    have hs := Seg.of_own h.own
    obtain ⟨b, o, e, _, d⟩ := ob_at hs hi
    injection e with e
    injection e with e1 e2
    subst e1 e2
    simp only [Nat.zero_add] at d
    refine ⟨g, cap, rfl, hlt, ?_, hnc, ?_, d⟩
    · intro e
      exact h.ne (by simp [Value.ownBlock, e])
    · intro j
      simp [World.frozen?, hh]

theorem RfAt.store {w : World} {bs base : Nat} {L : List Ob} {g cap : Nat} (h : RfAt w bs base (.slice (some ⟨g, 0, none⟩) L.length cap) L) {i j : Nat} (hi : i < L.length) (hj : j < 6) (u : Value) (f : Ob → Ob) (hf : (f L[i]).cells = (L[i]).cells.set j u) :
    RfAt (w.setCell ⟨g, i * 6 + j, none⟩ u) bs base (.slice (some ⟨g, 0, none⟩) (L.modify i f).length cap) (L.modify i f) := by
  have hne := h.ne
  refine ⟨?_, ?_⟩
  · rw [Below.heap_setCell _ _ _ _ (fun e => hne (by simp only [Value.ownBlock]; exact congrArg some e.symm)), List.length_modify]
    exact h.s
  · rw [rows_set L i hi f j u hj hf, List.length_modify]
    exact (h.own.stored (i * 6 + j) u).1
theorem RfAt.drewN {w : World} {bs base : Nat} {v : Value} {L : List Ob} (h : RfAt w bs base v L) (q : Nat) : RfAt (w.drewN q) bs base v L := ⟨h.s, h.own⟩


/-- What a call that turns a sheet of the document has left. -/
def RefP (bs base : Nat) (v : Value) (L' : List Ob) (E : Int) (w : World) (e : Ending) (w' : World) : Prop :=
  ∃ v', e = .returned (.int .i64 E) ∧ RfAt w' bs base v' L' ∧ Only bs v w w' ∧ From w v v'

set_option maxHeartbeats 400000 in
theorem rcount_any (L : List Ob) (s : Int) (v : Value) (bs base : Nat) (w : World) (h : RfAt w bs base v L) (hl : L.length ≤ 1000000) :
    Calls Try.prog 36 #[.pointer (some ⟨bs, 0, none⟩), .int .i64 s] w fun e w' => e = .returned (.int .i64 (countI s L)) ∧ w = w' := by
  have c0 := h.c0
  obtain ⟨A, c, rfl⟩ := own_form h.own
  have HS := Lib.hid (Seg.of_own h.own)
  clear h
  go_enter Try.func36, Try.ntmps36
  go_wp2_with fail
  go_loop [5, 6] (fun n i => ∃ k : Nat, k ≤ L.length ∧ i = .int .i64 k ∧ n = .int .i64 (countI s (L.take k))) (fun _ i => L.length - (intOf i).toNat)
  case atStart => exact ⟨0, Nat.zero_le _, rfl, rfl⟩
  case round =>
    obtain ⟨k, hk, rfl, rfl⟩ := hrel
    obtain ⟨n0, n1⟩ := count_bd s L k
    by_cases hlt : k < L.length
    · obtain ⟨b, o, rfl, hb, d0, d1, d2, d3, d4, d5⟩ := ob_at HS.out hlt
      have HC := Lib.hid (count_snoc s hlt)
      cases hp : (L[k].st == s)
      · go_wp2_with fail
        go_round
        case rel => exact ⟨k + 1, by omega, by go_num, by rw [HC.out, hp]; go_num⟩
        case measure => simp [intOf]; omega
      · go_wp2_with fail
        go_round
        case rel => exact ⟨k + 1, by omega, by go_num, by rw [HC.out, hp]; go_num⟩
        case measure => simp [intOf]; omega
    · obtain rfl : k = L.length := by omega
      rw [List.take_length]
      go_wp2_with fail
      go_ret
      exact ⟨rfl, rfl⟩

set_option maxHeartbeats 400000 in
theorem rfind_any (L : List Ob) (m a : Int) (v : Value) (bs base : Nat) (w : World) (h : RfAt w bs base v L) (hl : L.length ≤ 1000000) :
    Calls Try.prog 34 #[.pointer (some ⟨bs, 0, none⟩), .int .i64 m, .int .i64 a] w fun e w' => e = .returned (.int .i64 (idxI (mineB m a) L)) ∧ w = w' := by
  have c0 := h.c0
  obtain ⟨A, c, rfl⟩ := own_form h.own
  have HS := Lib.hid (Seg.of_own h.own)
  clear h
  go_enter Try.func34, Try.ntmps34
  go_wp2_with fail
  go_loop [7] (fun i => ∃ k : Nat, k ≤ L.length ∧ i = .int .i64 k ∧ Hid ((L.take k).any (mineB m a) = false)) (fun i => L.length - (intOf i).toNat)
  case atStart => exact ⟨0, Nat.zero_le _, rfl, rfl⟩
  case round =>
    obtain ⟨k, hk, rfl, HN⟩ := hrel
    by_cases hlt : k < L.length
    · obtain ⟨b, o, rfl, hb, d0, d1, d2, d3, d4, d5⟩ := ob_at HS.out hlt
      have HA := Lib.hid (any_snoc (mineB m a) hlt)
      by_cases hp : mineB m a L[k] = true
      · have HF := Lib.hid (idx_found (mineB m a) hlt HN.out hp)
        simp only [mineB, Bool.and_eq_true] at hp
        obtain ⟨⟨h1, h2⟩, h3⟩ := hp
        go_wp2_with fail
        go_ret
        exact ⟨ret_int HF.out, rfl⟩
      · have hp' : mineB m a L[k] = false := by simpa using hp
        have HX : Hid ((L.take (k + 1)).any (mineB m a) = false) := by show _ = _; rw [HA.out, HN.out, hp']; rfl
        have hp3 : (L[k].st == 1) = false ∨ (L[k].st == 1) = true ∧ ((L[k].m == m) = false ∨ (L[k].m == m) = true ∧ (L[k].a == a) = false) := by
          revert hp'
          unfold mineB
          cases (L[k].st == 1) <;> cases (L[k].m == m) <;> cases (L[k].a == a) <;> simp
        clear hp hp'
        rcases hp3 with h1 | ⟨h1, h2 | ⟨h2, h3⟩⟩
        all_goals
          go_wp2_with fail
          go_round
          case rel => exact ⟨k + 1, by omega, by go_num, HX⟩
          case measure => simp [intOf]; omega
    · obtain rfl : k = L.length := by omega
      have hN := HN.out
      rw [List.take_length] at hN
      have HF := Lib.hid (idx_none (mineB m a) hN)
      clear hN
      go_wp2_with fail
      go_ret
      exact ⟨ret_int HF.out, rfl⟩

def owesB (m : Int) (x : Ob) : Bool := x.st == 1 && x.m == m && decide (0 < x.net) && decide (x.done < x.net)
set_option maxHeartbeats 400000 in
theorem lacks_any (L : List Ob) (m : Int) (v : Value) (bs base : Nat) (w : World) (h : RfAt w bs base v L) (hl : L.length ≤ 1000000) :
    Calls Try.prog 35 #[.pointer (some ⟨bs, 0, none⟩), .int .i64 m] w fun e w' => e = .returned (.bool (L.any (owesB m))) ∧ Below w.heap.size w w' := by
  have HH := Lib.hid h
  obtain ⟨A, c, rfl⟩ := own_form h.own
  clear h
  go_enter Try.func35, Try.ntmps35
  go_wp2_with fail
  go_loopw [5, 6] (fun i _ wr => ∃ k : Nat, k ≤ L.length ∧ i = .int .i64 k ∧ Hid ((L.take k).any (owesB m) = false) ∧ Hid (Below w.heap.size w wr)) (fun i _ _ => L.length - (intOf i).toNat)
  case atStart => exact ⟨0, Nat.zero_le _, rfl, rfl, Below.refl _ _⟩
  case round =>
    obtain ⟨k, hk, rfl, HN, HB⟩ := hrel
    have hsz := HB.out.size
    have c0 := (HH.out.below HB.out).c0
    have hlb := (HH.out.below HB.out).lt
    by_cases hlt : k < L.length
    · obtain ⟨b, o, rfl, hb, d0, d1, d2, d3, d4, d5⟩ := ob_at (Seg.of_own (HH.out.below HB.out).own) hlt
      have HA := Lib.hid (any_snoc (owesB m) hlt)
      by_cases hp : owesB m L[k] = true
      · have HF : Hid (true = L.any (owesB m)) := by
          show _ = _
          symm
          rw [List.any_eq_true]
          exact ⟨_, List.getElem_mem hlt, hp⟩
        simp only [owesB, Bool.and_eq_true] at hp
        obtain ⟨⟨⟨h1, h2⟩, h3⟩, h4⟩ := hp
        go_wp2_with fail
        go_ret
        exact ⟨ret_bool HF.out, HB.out.alloc hsz _⟩
      · have hp' : owesB m L[k] = false := by simpa using hp
        have HX : Hid ((L.take (k + 1)).any (owesB m) = false) := by show _ = _; rw [HA.out, HN.out, hp']; rfl
        have hp3 : (L[k].st == 1) = false ∨ (L[k].st == 1) = true ∧ ((L[k].m == m) = false ∨ (L[k].m == m) = true ∧ (decide (0 < L[k].net) = false ∨ decide (0 < L[k].net) = true ∧ decide (L[k].done < L[k].net) = false)) := by
          revert hp'
          unfold owesB
          cases (L[k].st == 1) <;> cases (L[k].m == m) <;> cases decide (0 < L[k].net) <;> cases decide (L[k].done < L[k].net) <;> simp
        clear hp hp'
        rcases hp3 with h1 | ⟨h1, h2 | ⟨h2, h3 | ⟨h3, h4⟩⟩⟩
        all_goals
          go_wp2_with fail
          go_roundw
          case rel => exact ⟨k + 1, by omega, by go_num, HX, HB.out.alloc hsz _⟩
          case measure => simp [intOf]; omega
    · obtain rfl : k = L.length := by omega
      have hN := HN.out
      rw [List.take_length] at hN
      have HF := Lib.hid hN
      clear hN
      go_wp2_with fail
      go_ret
      exact ⟨ret_bool HF.out.symm, HB.out⟩

set_option maxHeartbeats 400000 in
theorem same_any (L : List Ob) (A B : Option Addr) (c d : Nat) (w : World) (h1 : Seg w w.heap.size A (obRows L)) (h2 : Seg w w.heap.size B (obRows L)) (hl : L.length ≤ 1000000) :
    Calls Try.prog 17 #[.slice A L.length c, .slice B L.length d] w fun e w' => e = .returned (.bool true) ∧ ∃ n, w.drewN n = w' := by
  have H1 := Lib.hid h1
  have H2 := Lib.hid h2
  clear h1 h2
  go_enter Try.func17, Try.ntmps17
  go_wp2_with fail
  go_loopw [5] (fun i wr => ∃ k : Nat, k ≤ L.length ∧ i = .int .i64 k ∧ Hid (∃ n, w.drewN n = wr)) (fun i _ => L.length - (intOf i).toNat)
  case atStart => exact ⟨0, Nat.zero_le _, rfl, ⟨0, rfl⟩⟩
  case round =>
    obtain ⟨k, hk, rfl, HW⟩ := hrel
    obtain ⟨n, rfl⟩ := HW.out
    by_cases hlt : k < L.length
    · obtain ⟨b, o, rfl, hb, d0, d1, d2, d3, d4, d5⟩ := ob_at H1.out hlt
      obtain ⟨b', o', rfl, hb', e0, e1, e2, e3, e4, e5⟩ := ob_at H2.out hlt
      have hkb : (k : Int) < (L.length : Int) := by omega
      have hk0 : (0 : Int) ≤ (k : Int) := by omega
      go_wp2_with fail
      go_quiet (fail)
      go_wp2_with fail
      go_roundw
      case rel => exact ⟨k + 1, by omega, by go_num, ⟨n + nq, rfl⟩⟩
      case measure => simp [intOf]; omega
    · go_wp2_with fail
      go_ret
      exact ⟨rfl, n, rfl⟩
end Go.Proofs.Ytkjkkcaiddeggaa
