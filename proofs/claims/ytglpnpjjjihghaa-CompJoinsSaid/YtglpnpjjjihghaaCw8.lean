/-
  What comp.Of, complineref27.Of and the page's example of layer 27 come to, over this seat's translation: contracts for callers.
-/
import Derived.Test.YtglpnpjjjihghaaCw7
import Derived.Test.YtglpnpjjjihghaaLSame
namespace Go.Proofs.Ytglpnpjjjihghaa
open Go.RowKit

theorem seg_new (w : World) (t : TypeId) (xs : List Value) : Seg (w.alloc (.cells xs.toArray t)) (w.alloc (.cells xs.toArray t)).heap.size (some ⟨w.heap.size, 0, none⟩) xs := fun j u hu =>
  ⟨w.heap.size, 0, rfl, by simp, by rw [Nat.zero_add, cell_new _ _ _ j rfl, ← Array.getElem?_toList]; exact hu⟩
theorem sorted_ext : ∀ {a b : List Int}, a.Pairwise (· < ·) → b.Pairwise (· < ·) → (∀ q, q ∈ a ↔ q ∈ b) → a = b
  | [], [], _, _, _ => rfl
  | [], y :: b, _, _, h => by have := (h y).2 (by simp); simp at this
  | x :: a, [], _, _, h => by have := (h x).1 (by simp); simp at this
  | x :: a, y :: b, ha, hb, h => by
    obtain ⟨ha1, ha2⟩ := List.pairwise_cons.1 ha
    obtain ⟨hb1, hb2⟩ := List.pairwise_cons.1 hb
    have e : x = y := by
      rcases List.mem_cons.1 ((h x).1 (by simp)) with e | e
      · exact e
      · rcases List.mem_cons.1 ((h y).2 (by simp)) with e' | e'
        · exact e'.symm
        · have := hb1 x e
          have := ha1 y e'
          omega
    subst e
    have h2 : ∀ q, q ∈ a ↔ q ∈ b := fun q => by
      constructor
      · intro hq
        rcases List.mem_cons.1 ((h q).1 (by simp [hq])) with e | e
        · have := ha1 q hq; omega
        · exact e
      · intro hq
        rcases List.mem_cons.1 ((h q).2 (by simp [hq])) with e | e
        · have := hb1 q hq; omega
        · exact e
    rw [sorted_ext ha2 hb2 h2]
/-- A member's amount: of the first leg of its. -/
def ofV (m : Int) : List Lg → Int
  | [] => 0
  | y :: L => if y.m = m then y.n else ofV m L
theorem ofV_at {m : Int} : ∀ {L : List Lg} {k : Nat} (hk : k < L.length), (∀ j (hj : j < L.length), j < k → L[j].m ≠ m) → L[k].m = m → ofV m L = L[k].n
  | y :: L, 0, _, _, h => by
    unfold ofV
    rw [if_pos (by simpa using h)]
    rfl
  | y :: L, k + 1, hk, h, h' => by
    unfold ofV
    rw [if_neg (by have := h 0 (by simp) (by omega); simpa using this)]
    exact ofV_at (by simpa using hk) (fun j hj hjk => by have := h (j + 1) (by simpa using hj) (by omega); simpa using this) (by simpa using h')
theorem ofV_none {m : Int} : ∀ {L : List Lg}, (∀ j (hj : j < L.length), L[j].m ≠ m) → ofV m L = 0
  | [], _ => rfl
  | y :: L, h => by
    unfold ofV
    rw [if_neg (by have := h 0 (by simp); simpa using this)]
    exact ofV_none fun j hj => by have := h (j + 1) (by simpa using hj); simpa using this
set_option maxHeartbeats 800000 in
theorem cof_any (L : List Lg) (m : Int) (A : Option Addr) (c : Nat) (w : World) (hs : Seg w w.heap.size A (lgRows L)) (hl : L.length ≤ 100000) :
    Calls Try.prog 34 #[.slice A L.length c, .int .i64 m] w fun e w' => e = .returned (.int .i64 (ofV m L)) ∧ Below w.heap.size w w' := by
  have HS := Lib.hid hs
  clear hs
  go_enter Try.func34, Try.ntmps34
  go_wp2_with fail
  go_loopw [9] (fun i wr => ∃ k : Nat, k ≤ L.length ∧ i = .int .i64 k ∧ Hid (∀ j (hj : j < L.length), j < k → L[j].m ≠ m) ∧ Hid (Below w.heap.size w wr)) (fun i _ => L.length - (intOf i).toNat)
  case atStart => exact ⟨0, Nat.zero_le _, rfl, fun j _ h => absurd h (Nat.not_lt_zero _), Below.refl _ _⟩
  case round =>
    obtain ⟨k, hk, rfl, HN, HB⟩ := hrel
    have hsz := HB.out.size
    by_cases hlt : k < L.length
    · obtain ⟨b, o, rfl, hb, d0, d1, d2⟩ := lg_at (HS.out.below HB.out) hlt
      have HB1 : Hid (∀ v, Below w.heap.size w (wr.alloc v)) := Lib.hid fun v => HB.out.alloc hsz v
      by_cases hm : L[k].m = m
      · have HV := Lib.hid (ofV_at hlt HN.out hm)
        have hmb : (L[k].m == m) = true := by rw [hm]; exact beq_self_eq_true m
        go_wp2_with fail
        go_ret
        exact ⟨ret_int HV.out.symm, HB1.out _⟩
      · have hmb : (L[k].m == m) = false := by rw [beq_eq_false_iff_ne]; exact hm
        have HN1 : Hid (∀ j (hj : j < L.length), j < k + 1 → L[j].m ≠ m) := Lib.hid fun j hj h => by
          by_cases e : j = k
          · subst e; exact hm
          · exact HN.out j hj (by omega)
        go_wp2_with fail
        go_roundw
        case rel => exact ⟨k + 1, by omega, by go_num, HN1, Lib.hid (HB1.out _)⟩
        case measure => simp [intOf]; omega
    · obtain rfl : k = L.length := by omega
      have HV := Lib.hid (ofV_none fun j hj => HN.out j hj hj)
      go_wp2_with fail
      go_ret
      exact ⟨ret_int HV.out.symm, HB.out⟩
def exL27 : List Lg := [⟨1, 2, 3⟩, ⟨1, 1, 2⟩]
theorem ex27 {ks : List Int} (Am As Ac : Option Addr) (cm cs cc : Nat) (hu : ks.Pairwise (· < ·)) (hm : ∀ q, q ∈ ks ↔ ∃ y ∈ exL27, y.m = q) : wthsE ⟨[⟨1000, 100⟩, ⟨1000, 100⟩], Am, cm, [⟨10, 12⟩, ⟨10, 12⟩], As, cs, [⟨4, 7, 9, 10⟩], Ac, cc, 500, 200, 1, 64, 32⟩ exL27 = 0 ∧
    gatL (wthF ⟨[⟨1000, 100⟩, ⟨1000, 100⟩], Am, cm, [⟨10, 12⟩, ⟨10, 12⟩], As, cs, [⟨4, 7, 9, 10⟩], Ac, cc, 500, 200, 1, 64, 32⟩ exL27) ks = [⟨1, 0, 50⟩] ∧ gatE (wthF ⟨[⟨1000, 100⟩, ⟨1000, 100⟩], Am, cm, [⟨10, 12⟩, ⟨10, 12⟩], As, cs, [⟨4, 7, 9, 10⟩], Ac, cc, 500, 200, 1, 64, 32⟩ exL27) ks = 0 := by
  have e : ks = [1] := sorted_ext hu (by simp) fun q => by
    rw [hm]
    simp [exL27]
    omega
  subst e
  refine ⟨by kernel_rfl, by kernel_rfl, by kernel_rfl⟩
end Go.Proofs.Ytglpnpjjjihghaa
