/-
  Rows of numbers as obligations and as events.
-/
import Derived.Test.YtikcodnmlenpeaaDoorOpen
import Derived.Test.YtikcodnmlenpeaaDoorAudit3
import Derived.Test.YtikcodnmlenpeaaDoorLaid34
namespace Go.Proofs.YtikcodnmlenpeaaDoor
open Go.RowKit

def Ob.of (r : List Int) : Ob := ⟨r.getD 0 0, r.getD 1 0, r.getD 2 0, r.getD 3 0, r.getD 4 0, r.getD 5 0⟩
def Ev.of (r : List Int) : Ev := ⟨r.getD 0 0, r.getD 1 0, r.getD 2 0, r.getD 3 0, r.getD 4 0⟩
theorem ob_of {r : List Int} (h : r.length = 6) : (Ob.of r).cells = r.map (Value.int .i64) := by
  match r, h with
  | [_, _, _, _, _, _], _ => rfl
theorem ev_of {r : List Int} (h : r.length = 5) : (Ev.of r).cells = r.map (Value.int .i64) := by
  match r, h with
  | [_, _, _, _, _], _ => rfl
theorem flatMap_of {α : Type} (f : List Int → α) (c : α → List Value) : ∀ (rows : List (List Int)), (∀ r ∈ rows, c (f r) = r.map (Value.int .i64)) → (rows.map f).flatMap c = rows.flatMap (·.map (Value.int .i64))
  | [], _ => rfl
  | r :: rows, h => by
    rw [List.map_cons, List.flatMap_cons, List.flatMap_cons, h r (by simp), flatMap_of f c rows fun x hx => h x (by simp [hx])]
theorem getD_wf {r : List Int} (h : ∀ y ∈ r, (Lit.int .i64 y).wf = true) (j : Nat) : I64 (r.getD j 0) := by
  rw [List.getD_eq_getElem?_getD]
  cases hq : r[j]? with
  | none => simp; unfold I64; omega
  | some y => simp; exact I64_of_wf (h y (List.mem_of_getElem? hq))
end Go.Proofs.YtikcodnmlenpeaaDoor
