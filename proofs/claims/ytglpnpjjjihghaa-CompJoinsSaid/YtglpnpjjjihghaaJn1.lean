/-
  What comp.Join comes to, over this seat's translation: a contract for callers.
-/
import Derived.Test.YtglpnpjjjihghaaPay1
import Derived.Test.YtglpnpjjjihghaaJnLaw
import Derived.Test.YtglpnpjjjihghaaCon
import Derived.Test.YtglpnpjjjihghaaPlainC
import Derived.Deep.RegionHeld3
import Derived.Laws.EntriesVeiled
namespace Go.Proofs.Ytglpnpjjjihghaa
open Go.RowKit

set_option maxHeartbeats 400000 in
theorem add27_any (a b : Int) (w : World) (ha : I64 a) (hb : I64 b) :
    Calls Try.prog 61 #[.int .i64 a, .int .i64 b] w fun e w' =>
      e = .returned (.tuple #[.int .i64 (amtV (a + b)), .int .i64 (amtE (a + b))]) ∧ w = w' := by
  have HA := Lib.hid ha
  have HB := Lib.hid hb
  clear ha hb
  go_enter Try.func61, Try.ntmps61
  go_wp2
  all_goals
    go_ret2
    have ha := HA.out
    have hb := HB.out
    refine ⟨?_, rfl⟩
    unfold I64 at ha hb
    by_cases h : I64 (a + b)
    · obtain ⟨h1, h2⟩ := amt_in h
      rw [h1, h2]
      unfold I64 at h
      have hw : wrap64 (a + b) = a + b := by unfold wrap64; omega
      simp_all <;> omega
    · obtain ⟨h1, h2⟩ := amt_out h
      rw [h1, h2]
      unfold I64 at h
      unfold wrap64 at *
      simp_all <;> omega
/-- While the legs are gone through. -/
structure JI (L : List Lg) (w wr : World) (b lo k : Nat) (u : Value) (m : List (Int × Value)) : Prop where
  g : Grp wr (b + 1) b m (amtF (L.take k))
  len : m.length ≤ k
  ks : ∀ q, (∃ p ∈ m, p.1 = q) ↔ ∃ y ∈ L.take k, y.m = q
  own : wr.ownsRow lo 75 3 u L.length (lgRows L)
  hlo : b < lo
  hb : w.heap.size ≤ b
  b : Below w.heap.size w wr
theorem JI.below {L : List Lg} {w wr w2 : World} {b lo k : Nat} {u : Value} {m : List (Int × Value)} (h : JI L w wr b lo k u m) (hb : Below wr.heap.size wr w2) : JI L w w2 b lo k u m :=
  ⟨h.g.below (Nat.le_refl _) hb, h.len, h.ks, own_below' h.own hb, h.hlo, h.hb, h.b.trans (hb.mono h.b.size)⟩
theorem JI.step {L : List Lg} {w w2 w4 w5 : World} {b lo k : Nat} {u : Value} {m : List (Int × Value)} {v' : Value} (h : JI L w w2 b lo k u m) (hk : k < L.length)
    (hg : w2.grownBy w4 (slotV L[k].m m).ownBlock) (h5 : Grp w5 (b + 1) b (putM L[k].m v' m) (fun q => if q = L[k].m then amtF (L.take k) L[k].m ++ [L[k].n] else amtF (L.take k) q)) (hg5 : w4.grownBy w5 (some b)) : JI L w w5 b lo (k + 1) u (putM L[k].m v' m) := by
  have hsl := h.g.slot L[k].m
  have hrow : ∀ j, (slotV L[k].m m).ownBlock = some j → b + 1 ≤ j := fun j hj => (hsl.lt j hj).1
  have hbb := h.hb
  have hb4 : Below w.heap.size w w4 := h.b.grown hg h.b.size fun j hj => by have := hrow j hj; omega
  refine ⟨?_, ?_, fun q => ?_, ?_, h.hlo, h.hb, ?_⟩
  · have e : (fun q => if q = L[k].m then amtF (L.take k) L[k].m ++ [L[k].n] else amtF (L.take k) q) = amtF (L.take (k + 1)) := by
      funext q
      rw [amtF_snoc hk q]
      by_cases e : q = L[k].m
      · rw [if_pos e, if_pos e, e]
      · rw [if_neg e, if_neg e]
    rw [← e]
    exact h5
  · have := putM_length (q := L[k].m) (v := v') m
    have := h.len
    omega
  · have h1 := h.ks q
    rw [List.take_succ_eq_append_getElem hk]
    constructor
    · rintro ⟨p, hp, rfl⟩
      rcases putM_mem h.g.map.apart hp with rfl | ⟨hp, _⟩
      · exact ⟨L[k], List.mem_append_right _ (List.mem_singleton.2 rfl), rfl⟩
      · obtain ⟨y, hy, e⟩ := h1.1 ⟨p, hp, rfl⟩
        exact ⟨y, List.mem_append_left _ hy, e⟩
    · rintro ⟨y, hy, rfl⟩
      rcases List.mem_append.1 hy with hy | hy
      · obtain ⟨p, hp, e⟩ := h1.2 ⟨y, hy, rfl⟩
        obtain ⟨u, hu⟩ := putM_mono (q := L[k].m) (v := v') hp
        exact ⟨_, hu, e⟩
      · simp at hy
        subst hy
        exact ⟨_, putM_new m, rfl⟩
  · have h1 := h.own.kept hg (own_apart h.own hsl (by decide))
    exact h1.kept hg5 (.inr (own_not_low h1 h.hlo))
  · exact hb4.grown hg5 hb4.size fun j hj => by cases hj; omega
/-- What comp.Join hands back. -/
def JoinP (A B : List Lg) (w : World) (e : Ending) (w' : World) : Prop :=
  (jnE A B ≠ 0 ∧ GotLE [] (jnE A B) w e w') ∨ (jnE A B = 0 ∧ ∃ ks : List Int, ks.Pairwise (· < ·) ∧ (∀ q, q ∈ ks ↔ ∃ y ∈ A ++ B, y.m = q) ∧ GotLE (gatR (amtF (A ++ B)) ks) 0 w e w')
end Go.Proofs.Ytglpnpjjjihghaa
