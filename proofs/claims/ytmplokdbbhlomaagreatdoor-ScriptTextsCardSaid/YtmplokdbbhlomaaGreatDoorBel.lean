/-
  Regions that draw their order, whose operations only read and whose callees may make memory but hand back a value that is the same in every such world: one walk in the order of the text.
-/
import Derived.Test.YtmplokdbbhlomaaGreatDoorMem
import Derived.Deep.QuietTactic
import Derived.BigQuiet
namespace Go.Proofs.YtmplokdbbhlomaaGreatDoor
open Go.RowKit

/-- A world that is as w was below block B. -/
structure Bel (B : Nat) (w : World) where
  wd : World
  h : Below B w wd
instance (B : Nat) (w : World) : Nonempty (Bel B w) := ⟨⟨w, Below.refl _ _⟩⟩

theorem wp_region_bel {P : Program} {id : Nat} {Q : Exit → Act → World → Prop} {a : Act} {w : World} {l : List Oper} (B : Nat) (hm : P.follows .mixedOrders = true) (hB : Region.lexB .any l.toArray = true)
    (h : wpQuiet P l.toArray (fun w' => ∃ n : Bel B w, w' = n.wd) (fun a' => ∀ w', (∃ n : Bel B w, w' = n.wd) → Q .normal a' w') l a) : (Code.region id l.toArray true).wp P Q a w :=
  wp_region_quiet (C := fun w' => ∃ n : Bel B w, w' = n.wd) hm hB ⟨⟨_, (Below.refl _ _).drew⟩, rfl⟩ h

theorem Calls.bel_of {P : Program} {f : FuncId} {args : Array Value} {B : Nat} {w : World} {n : Bel B w} {v : Value} (hB : B ≤ w.heap.size)
    (h : Calls P f args n.wd fun e w' => e = .returned v ∧ Below n.wd.heap.size n.wd w') : Calls P f args n.wd fun e w'' => e = .returned v ∧ ∃ m : Bel B w, w'' = m.wd :=
  h.mono fun _ w' ⟨he, hb⟩ => ⟨he, ⟨w', n.h.trans (hb.mono (Nat.le_trans hB n.h.size))⟩, rfl⟩
theorem Calls.bel_of_same {P : Program} {f : FuncId} {args : Array Value} {B : Nat} {w : World} {n : Bel B w} {v : Value}
    (h : Calls P f args n.wd fun e w' => e = .returned v ∧ n.wd = w') : Calls P f args n.wd fun e w'' => e = .returned v ∧ ∃ m : Bel B w, w'' = m.wd :=
  h.mono fun _ _ ⟨he, hw⟩ => ⟨he, n, hw.symm⟩
theorem Bel.cells {B : Nat} {w : World} (n : Bel B w) (b o : Nat) (hb : b < B) : n.wd.cell? ⟨b, o, none⟩ = w.cell? ⟨b, o, none⟩ := n.h.cell (p := ⟨b, o, none⟩) hb
end Go.Proofs.YtmplokdbbhlomaaGreatDoor
