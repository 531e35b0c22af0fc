/-
  Houses, in plain Lean and in memory; what package conf's within, many, members, secs, Ticks, cycles come to, over this seat's translation.
-/
import Derived.Test.YtedmbmfppjokpaaMem
import Derived.Test.YtedmbmfppjokpaaMoneyDef
namespace Go.Proofs.Ytedmbmfppjokpaa
open Go.RowKit

/-- A pair of amounts: a member, or a security. -/
structure Pr where
  a : Int
  b : Int
def Pr.cells (x : Pr) : List Value := [.int .i64 x.a, .int .i64 x.b]
def prRows (l : List Pr) : List Value := l.flatMap Pr.cells
/-- A cycle. -/
structure Cy where
  a : Int
  b : Int
  c : Int
  d : Int
def Cy.cells (x : Cy) : List Value := [.int .i64 x.a, .int .i64 x.b, .int .i64 x.c, .int .i64 x.d]
def cyRows (l : List Cy) : List Value := l.flatMap Cy.cells
theorem pr_at {w : World} {B : Nat} {A : Option Addr} {l : List Pr} (h : Seg w B A (prRows l)) {k : Nat} (hk : k < l.length) :
    ∃ b o, A = some ⟨b, o, none⟩ ∧ b < B ∧ w.cell? ⟨b, o + k * 2, none⟩ = some (.int .i64 l[k].a) ∧ w.cell? ⟨b, o + k * 2 + 1, none⟩ = some (.int .i64 l[k].b) := by
  obtain ⟨b, o, e, hb, hc⟩ := h.run (i := k * 2) (y := .int .i64 l[k].a) (t := [.int .i64 l[k].b]) (fun j u hu => flat_at Pr.cells 2 (fun _ => rfl) l k hk j u hu)
  exact ⟨b, o, e, hb, hc 0 _ rfl, hc 1 _ rfl⟩
theorem cy_at {w : World} {B : Nat} {A : Option Addr} {l : List Cy} (h : Seg w B A (cyRows l)) {k : Nat} (hk : k < l.length) :
    ∃ b o, A = some ⟨b, o, none⟩ ∧ b < B ∧ w.cell? ⟨b, o + k * 4, none⟩ = some (.int .i64 l[k].a) ∧ w.cell? ⟨b, o + k * 4 + 1, none⟩ = some (.int .i64 l[k].b) ∧ w.cell? ⟨b, o + k * 4 + 2, none⟩ = some (.int .i64 l[k].c) ∧ w.cell? ⟨b, o + k * 4 + 3, none⟩ = some (.int .i64 l[k].d) := by
  obtain ⟨b, o, e, hb, hc⟩ := h.run (i := k * 4) (y := .int .i64 l[k].a) (t := [.int .i64 l[k].b, .int .i64 l[k].c, .int .i64 l[k].d]) (fun j u hu => flat_at Cy.cells 4 (fun _ => rfl) l k hk j u hu)
  exact ⟨b, o, e, hb, hc 0 _ rfl, hc 1 _ rfl, hc 2 _ rfl, hc 3 _ rfl⟩
theorem ret_int {k : IntKind} {a b : Int} (h : a = b) : Ending.returned (.int k a) = .returned (.int k b) := by rw [h]
theorem ret_bool {a b : Bool} (h : a = b) : Ending.returned (.bool a) = .returned (.bool b) := by rw [h]

/-- From one number to another one. -/
def inB (n least most : Int) : Bool := decide (least ≤ n) && decide (n ≤ most)
set_option maxHeartbeats 400000 in
theorem within_any (n a b : Int) (w : World) : Calls Try.prog 36 #[.int .i64 n, .int .i64 a, .int .i64 b] w fun e w' => e = .returned (.bool (inB n a b)) ∧ w = w' := by
  have HB := Lib.hid (show inB n a b = (decide (a ≤ n) && decide (n ≤ b)) from rfl)
  by_cases h1 : a ≤ n
  · by_cases h2 : n ≤ b
    · go_enter Try.func36, Try.ntmps36
      go_wp2_with fail
      go_ret
      exact ⟨ret_bool (by rw [HB.out]; simp [h1, h2]), rfl⟩
    · go_enter Try.func36, Try.ntmps36
      go_wp2_with fail
      go_ret
      exact ⟨ret_bool (by rw [HB.out, decide_eq_false (show ¬ n ≤ b by omega)]; simp), rfl⟩
  · go_enter Try.func36, Try.ntmps36
    go_wp2_with fail
    go_ret
    exact ⟨ret_bool (by rw [HB.out, decide_eq_false (show ¬ a ≤ n by omega)]; simp), rfl⟩
set_option maxHeartbeats 400000 in
theorem many_any (n a b : Int) (w : World) : Calls Try.prog 39 #[.int .i64 n, .int .i64 a, .int .i64 b] w fun e w' => e = .returned (.bool (inB n a b)) ∧ w = w' := by
  have HB := Lib.hid (show inB n a b = (decide (a ≤ n) && decide (n ≤ b)) from rfl)
  by_cases h1 : a ≤ n
  · by_cases h2 : n ≤ b
    · go_enter Try.func39, Try.ntmps39
      go_wp2_with fail
      go_ret
      exact ⟨ret_bool (by rw [HB.out]; simp [h1, h2]), rfl⟩
    · go_enter Try.func39, Try.ntmps39
      go_wp2_with fail
      go_ret
      exact ⟨ret_bool (by rw [HB.out, decide_eq_false (show ¬ n ≤ b by omega)]; simp), rfl⟩
  · go_enter Try.func39, Try.ntmps39
    go_wp2_with fail
    go_ret
    exact ⟨ret_bool (by rw [HB.out, decide_eq_false (show ¬ a ≤ n by omega)]; simp), rfl⟩
def membB (x : Pr) : Bool := inB x.a 0 1099511627776 && inB x.b 0 1099511627776
def secB (x : Pr) : Bool := inB x.a 1 1048576 && inB x.b x.a 1048576
def membsB (l : List Pr) : Bool := l.all membB && inB l.length 2 16
def secsB (l : List Pr) : Bool := l.all secB && inB l.length 1 8
theorem all_snoc {α : Type} (p : α → Bool) {l : List α} {k : Nat} (hk : k < l.length) : (l.take (k + 1)).all p = ((l.take k).all p && p l[k]) := by
  rw [List.take_succ_eq_append_getElem hk, List.all_append]; simp

set_option maxRecDepth 100000 in
set_option maxHeartbeats 800000 in
theorem members_any (l : List Pr) (A : Option Addr) (c : Nat) (w : World) (hs : Seg w w.heap.size A (prRows l)) (hl : l.length ≤ 1000000) :
    Calls Try.prog 30 #[.slice A l.length c] w fun e w' => e = .returned (.bool (membsB l)) ∧ Below w.heap.size w w' := by
  have HS := Lib.hid hs
  have HA := Lib.hid (show membsB l = (l.all membB && inB l.length 2 16) from rfl)
  clear hs
  go_enter Try.func30, Try.ntmps30
  go_wp2_with fail
  go_loopw [4, 7] (fun _ i wr => ∃ k : Nat, k ≤ l.length ∧ i = .int .i64 k ∧ Hid ((l.take k).all membB = true) ∧ Hid (Below w.heap.size w wr)) (fun _ i _ => l.length - (intOf i).toNat)
  case atStart => exact ⟨0, Nat.zero_le _, rfl, rfl, Below.refl _ _⟩
  case round =>
    obtain ⟨k, hk, rfl, HK, HB⟩ := hrel
    have hsz := HB.out.size
    by_cases hlt : k < l.length
    · obtain ⟨b, o, rfl, hb, d0, d1⟩ := pr_at (HS.out.below HB.out) hlt
      have HSN := Lib.hid (all_snoc membB hlt)
      have HP := Lib.hid (show membB l[k] = (inB l[k].a 0 1099511627776 && inB l[k].b 0 1099511627776) from rfl)
      cases h1 : inB l[k].a 0 1099511627776
      · have HF : Hid (false = membsB l) := by
          show _ = _
          rw [HA.out, show l.all membB = false from List.all_eq_false.2 ⟨l[k], List.getElem_mem hlt, by rw [HP.out, h1]; simp⟩]
          rfl
        go_wp2_with fail
        refine (within_any _ _ _ _).mono ?_
        rintro e w1 ⟨rfl, rfl⟩
        rw [h1]
        go_wp2_with fail
        go_ret
        exact ⟨ret_bool HF.out, HB.out.alloc hsz _⟩
      · cases h2 : inB l[k].b 0 1099511627776
        · have HF : Hid (false = membsB l) := by
            show _ = _
            rw [HA.out, show l.all membB = false from List.all_eq_false.2 ⟨l[k], List.getElem_mem hlt, by rw [HP.out, h1, h2]; simp⟩]
            rfl
          go_wp2_with fail
          refine (within_any _ _ _ _).mono ?_
          rintro e w1 ⟨rfl, rfl⟩
          rw [h1]
          go_wp2_with fail
          refine (within_any _ _ _ _).mono ?_
          rintro e w1 ⟨rfl, rfl⟩
          rw [h2]
          go_wp2_with fail
          go_ret
          exact ⟨ret_bool HF.out, HB.out.alloc hsz _⟩
        · have HX : Hid ((l.take (k + 1)).all membB = true) := by show _ = _; rw [HSN.out, HK.out, HP.out, h1, h2]; rfl
          go_wp2_with fail
          refine (within_any _ _ _ _).mono ?_
          rintro e w1 ⟨rfl, rfl⟩
          rw [h1]
          go_wp2_with fail
          refine (within_any _ _ _ _).mono ?_
          rintro e w1 ⟨rfl, rfl⟩
          rw [h2]
          go_wp2_with fail
          go_roundw
          case rel => exact ⟨k + 1, by omega, by go_num, HX, HB.out.alloc hsz _⟩
          case measure => simp [intOf]; omega
    · obtain rfl : k = l.length := by omega
      have hK := HK.out
      rw [List.take_length] at hK
      have HF : Hid (inB l.length 2 16 = membsB l) := by show _ = _; rw [HA.out, hK]; rfl
      clear hK
      go_wp2_with fail
      refine (many_any _ _ _ _).mono ?_
      rintro e w1 ⟨rfl, rfl⟩
      go_wp2_with fail
      go_ret
      exact ⟨ret_bool HF.out, HB.out⟩

set_option maxRecDepth 100000 in
set_option maxHeartbeats 800000 in
theorem secs_any (l : List Pr) (A : Option Addr) (c : Nat) (w : World) (hs : Seg w w.heap.size A (prRows l)) (hl : l.length ≤ 1000000) :
    Calls Try.prog 32 #[.slice A l.length c] w fun e w' => e = .returned (.bool (secsB l)) ∧ Below w.heap.size w w' := by
  have HS := Lib.hid hs
  have HA := Lib.hid (show secsB l = (l.all secB && inB l.length 1 8) from rfl)
  clear hs
  go_enter Try.func32, Try.ntmps32
  go_wp2_with fail
  go_loopw [4, 7] (fun _ i wr => ∃ k : Nat, k ≤ l.length ∧ i = .int .i64 k ∧ Hid ((l.take k).all secB = true) ∧ Hid (Below w.heap.size w wr)) (fun _ i _ => l.length - (intOf i).toNat)
  case atStart => exact ⟨0, Nat.zero_le _, rfl, rfl, Below.refl _ _⟩
  case round =>
    obtain ⟨k, hk, rfl, HK, HB⟩ := hrel
    have hsz := HB.out.size
    by_cases hlt : k < l.length
    · obtain ⟨b, o, rfl, hb, d0, d1⟩ := pr_at (HS.out.below HB.out) hlt
      have HSN := Lib.hid (all_snoc secB hlt)
      have HP := Lib.hid (show secB l[k] = (inB l[k].a 1 1048576 && inB l[k].b l[k].a 1048576) from rfl)
      cases h1 : inB l[k].a 1 1048576
      · have HF : Hid (false = secsB l) := by
          show _ = _
          rw [HA.out, show l.all secB = false from List.all_eq_false.2 ⟨l[k], List.getElem_mem hlt, by rw [HP.out, h1]; simp⟩]
          rfl
        go_wp2_with fail
        refine (within_any _ _ _ _).mono ?_
        rintro e w1 ⟨rfl, rfl⟩
        rw [h1]
        go_wp2_with fail
        go_ret
        exact ⟨ret_bool HF.out, HB.out.alloc hsz _⟩
      · cases h2 : inB l[k].b l[k].a 1048576
        · have HF : Hid (false = secsB l) := by
            show _ = _
            rw [HA.out, show l.all secB = false from List.all_eq_false.2 ⟨l[k], List.getElem_mem hlt, by rw [HP.out, h1, h2]; simp⟩]
            rfl
          go_wp2_with fail
          refine (within_any _ _ _ _).mono ?_
          rintro e w1 ⟨rfl, rfl⟩
          rw [h1]
          go_wp2_with fail
          refine (within_any _ _ _ _).mono ?_
          rintro e w1 ⟨rfl, rfl⟩
          rw [h2]
          go_wp2_with fail
          go_ret
          exact ⟨ret_bool HF.out, HB.out.alloc hsz _⟩
        · have HX : Hid ((l.take (k + 1)).all secB = true) := by show _ = _; rw [HSN.out, HK.out, HP.out, h1, h2]; rfl
          go_wp2_with fail
          refine (within_any _ _ _ _).mono ?_
          rintro e w1 ⟨rfl, rfl⟩
          rw [h1]
          go_wp2_with fail
          refine (within_any _ _ _ _).mono ?_
          rintro e w1 ⟨rfl, rfl⟩
          rw [h2]
          go_wp2_with fail
          go_roundw
          case rel => exact ⟨k + 1, by omega, by go_num, HX, HB.out.alloc hsz _⟩
          case measure => simp [intOf]; omega
    · obtain rfl : k = l.length := by omega
      have hK := HK.out
      rw [List.take_length] at hK
      have HF : Hid (inB l.length 1 8 = secsB l) := by show _ = _; rw [HA.out, hK]; rfl
      clear hK
      go_wp2_with fail
      refine (many_any _ _ _ _).mono ?_
      rintro e w1 ⟨rfl, rfl⟩
      go_wp2_with fail
      go_ret
      exact ⟨ret_bool HF.out, HB.out⟩
end Go.Proofs.Ytedmbmfppjokpaa
