/-
  Two rows of one's own, and how one of them grows: words for memory.
-/
import Derived.Test.YtgkidjjijgegmaaMem
import Derived.Maps.AppendAt
import Derived.OneCell
namespace Go.Proofs.Ytgkidjjijgegmaa
open Go.RowKit

/-- Two rows of one's own, apart, over what stood at the start. -/
structure TwoR (w0 : World) (e : TypeId) (s : Nat) (u : Value) (n : Nat) (xs : List Value) (v : Value) (m : Nat) (ys : List Value) (wr : World) : Prop where
  p : wr.ownsRow w0.heap.size e s u n xs
  r : wr.ownsRow w0.heap.size e s v m ys
  ne : ∀ k, u.ownBlock = some k → v.ownBlock = some k → False
  b : Below w0.heap.size w0 wr
section
variable {w0 wr w1 w' : World} {e : TypeId} {s n m n' g cap : Nat} {u v : Value} {xs ys xs' : List Value}
theorem TwoR.start {w0 wr : World} {e : TypeId} {s : Nat} (hb : Below w0.heap.size w0 wr) : TwoR w0 e s (.slice none 0 0) 0 [] (.slice none 0 0) 0 [] wr :=
  ⟨World.ownsRow_nil _ _ _ _, World.ownsRow_nil _ _ _ _, fun k h => (by cases h), hb⟩
theorem none_or (x : Value) : x.ownBlock = none ∨ x.ownBlock ≠ none := by cases x.ownBlock <;> simp
theorem own_below {wr w1 : World} {base : Nat} {e : TypeId} {s n : Nat} {u : Value} {xs : List Value} (h : wr.ownsRow base e s u n xs) (hb : Below wr.heap.size wr w1) : w1.ownsRow base e s u n xs :=
  h.kept ⟨hb.os, hb.tape, hb.output, hb.size, fun k hk _ => hb.block k hk⟩ (none_or u)
theorem TwoR.below (h : TwoR w0 e s u n xs v m ys wr) (hb : Below wr.heap.size wr w') : TwoR w0 e s u n xs v m ys w' :=
  ⟨own_below h.p hb, own_below h.r hb, h.ne, h.b.trans (hb.mono h.b.size)⟩
theorem TwoR.swap (h : TwoR w0 e s u n xs v m ys wr) : TwoR w0 e s v m ys u n xs wr := ⟨h.r, h.p, fun k a b => h.ne k b a, h.b⟩
theorem far_of {v : Value} {row : Option Nat} (hne : ∀ k, row = some k → v.ownBlock = some k → False) : v.ownBlock = none ∨ v.ownBlock ≠ row := by
  cases hv : v.ownBlock with
  | none => exact .inl rfl
  | some k => exact .inr fun e => hne k e.symm hv
/-- The first row has grown, behind new blocks. -/
theorem TwoR.first (h : TwoR w0 e s u n xs v m ys wr) (hB : Below wr.heap.size wr w1) (h1 : w'.ownsRow w0.heap.size e s (.slice (some ⟨g, 0, none⟩) n' cap) n' xs') (hg : w1.grownBy w' u.ownBlock) (hat : u.ownBlock = some g ∨ wr.heap.size ≤ g) :
    TwoR w0 e s (.slice (some ⟨g, 0, none⟩) n' cap) n' xs' v m ys w' := by
  have hB2 := h.b.trans (hB.mono h.b.size)
  refine ⟨h1, (own_below h.r hB).kept hg (far_of fun k a b => h.ne k a b), fun k a b => ?_, hB2.grown hg hB2.size (fun k hk => (h.p.lt k hk).1)⟩
  have a' : g = k := by simpa [Value.ownBlock] using a
  subst a'
  rcases hat with e' | e'
  · exact h.ne g e' b
  · have := (h.r.lt g b).2
    omega
theorem TwoR.second {ys' : List Value} {m' : Nat} (h : TwoR w0 e s u n xs v m ys wr) (hB : Below wr.heap.size wr w1) (h1 : w'.ownsRow w0.heap.size e s (.slice (some ⟨g, 0, none⟩) m' cap) m' ys') (hg : w1.grownBy w' v.ownBlock) (hat : v.ownBlock = some g ∨ wr.heap.size ≤ g) :
    TwoR w0 e s u n xs (.slice (some ⟨g, 0, none⟩) m' cap) m' ys' w' := (h.swap.first hB h1 hg hat).swap
end
end Go.Proofs.Ytgkidjjijgegmaa
