/-
  Words for memory: a row of cells that reads as a list (nil let in), and how it is kept.
-/
import Derived.WalkKit
import Derived.WalkSpells
import Derived.WalkLawsBesides
import Derived.Lib.Hide
import Derived.Deep.AppendLies
import Derived.Deep.Draws
namespace Go.Proofs.YtmplokdbbhlomaaGreatDoor
open Go.RowKit

theorem addr_block (a : Addr) (n : Nat) : (a.add n).block = a.block := by unfold Addr.add; split <;> rfl
theorem addr_add (a : Addr) (i j : Nat) : (a.add i).add j = a.add (i + j) := by
  unfold Addr.add
  by_cases hi : i = 0 <;> by_cases hj : j = 0 <;> simp [hi, hj, Nat.add_assoc]

/-- The cells xs lie from the address A on, in a block below B. -/
def Seg (w : World) (B : Nat) (A : Option Addr) (xs : List Value) : Prop :=
  ∀ j u, xs[j]? = some u → ∃ b o, A = some ⟨b, o, none⟩ ∧ b < B ∧ w.cell? ⟨b, o + j, none⟩ = some u

section
variable {w w' : World} {B B' : Nat} {A : Option Addr} {xs : List Value}
theorem Seg.nil : Seg w B A [] := fun j u h => by simp at h
theorem Seg.keep (h : Seg w B A xs) (hk : ∀ p : Addr, p.block < B → w'.cell? p = w.cell? p) : Seg w' B A xs := fun j u hu => by
  obtain ⟨b, o, e, hb, hc⟩ := h j u hu
  exact ⟨b, o, e, hb, (hk ⟨b, o + j, none⟩ hb).trans hc⟩
theorem Seg.below (h : Seg w B A xs) (hb : Below B w w') : Seg w' B A xs := h.keep fun _ hp => hb.cell hp
theorem Seg.mono (h : Seg w B A xs) (hB : B ≤ B') : Seg w B' A xs := fun j u hu => by
  obtain ⟨b, o, e, hb, hc⟩ := h j u hu
  exact ⟨b, o, e, Nat.lt_of_lt_of_le hb hB, hc⟩
theorem Seg.take (h : Seg w B A xs) (n : Nat) : Seg w B A (xs.take n) := fun j u hu => h j u (by
  rw [List.getElem?_take] at hu
  split at hu
  · exact hu
  · cases hu)
/-- The cell of a place. -/
theorem Seg.at (h : Seg w B A xs) {k : Nat} (hk : k < xs.length) : ∃ b o, A = some ⟨b, o, none⟩ ∧ b < B ∧ w.cell? ⟨b, o + k, none⟩ = some xs[k] :=
  h k _ (List.getElem?_eq_getElem hk)
/-- A run of cells from a place on. -/
theorem Seg.run (h : Seg w B A xs) {i : Nat} {y : Value} {t : List Value} (hs : ∀ j u, (y :: t)[j]? = some u → xs[i + j]? = some u) :
    ∃ b o, A = some ⟨b, o, none⟩ ∧ b < B ∧ ∀ j u, (y :: t)[j]? = some u → w.cell? ⟨b, o + i + j, none⟩ = some u := by
  obtain ⟨b, o, e, hb, _⟩ := h (i + 0) y (hs 0 y (by simp))
  refine ⟨b, o, e, hb, fun j u hu => ?_⟩
  obtain ⟨b', o', e', _, hc⟩ := h (i + j) u (hs j u hu)
  rw [e] at e'
  injection e' with e'
  injection e' with e1 e2
  subst e1 e2
  rw [Nat.add_assoc]
  exact hc
theorem Seg.of_own {base : Nat} {e : TypeId} {size n c : Nat} (h : w.ownsRow base e size (.slice A n c) n xs) : Seg w w.heap.size A xs := by
  intro j u hu
  have hn : 0 < n := by
    rcases Nat.eq_zero_or_pos n with h0 | h0
    · have h1 := h.1
      subst h0
      have hx : xs = [] := List.eq_nil_of_length_eq_zero (by simpa using h1)
      rw [hx] at hu
      simp at hu
    · exact h0
  obtain ⟨g, cap, hv, _, hlt⟩ := h.form hn
  have hA : A = some ⟨g, 0, none⟩ := by injection hv
  subst hA
  refine ⟨g, 0, rfl, hlt, ?_⟩
  have hc := h.cells (g := g) rfl j u hu
  have ea : (⟨g, 0, none⟩ : Addr).add j = ⟨g, 0 + j, none⟩ := by unfold Addr.add; split <;> simp_all
  rw [ea] at hc
  exact hc
end

/-- The rows of a list, one behind the other: place i's cells. -/
theorem flat_at {α : Type} (f : α → List Value) (n : Nat) (hf : ∀ a, (f a).length = n) : ∀ (l : List α) (k : Nat) (hk : k < l.length) (j : Nat) (u : Value), (f l[k])[j]? = some u → (l.flatMap f)[k * n + j]? = some u
  | [], _, hk, _, _, _ => absurd hk (by simp)
  | a :: l, 0, _, j, u, h => by
    have hj : j < (f a).length := (List.getElem?_eq_some_iff.1 h).1
    rw [List.flatMap_cons, Nat.zero_mul, Nat.zero_add, List.getElem?_append_left hj]
    exact h
  | a :: l, k + 1, hk, j, u, h => by
    have e : (k + 1) * n + j = n + (k * n + j) := by rw [Nat.succ_mul]; omega
    rw [List.flatMap_cons, e, List.getElem?_append_right (by rw [hf]; omega), hf, Nat.add_sub_cancel_left]
    exact flat_at f n hf l k (by simpa using hk) j u h

theorem below_drewN {B : Nat} {a w : World} (h : Below B a w) (n : Nat) : Below B a (w.drewN n) := ⟨h.os, h.tape, h.output, h.size, h.block⟩
theorem bcells {W w1 : World} (hb : Below W.heap.size W w1) : (∀ b o, b < W.heap.size → w1.cell? ⟨b, o, none⟩ = W.cell? ⟨b, o, none⟩) ∧ (∀ b o, b < W.heap.size → w1.frozen? ⟨b, o, none⟩ = W.frozen? ⟨b, o, none⟩) :=
  ⟨fun b o h => hb.cell (p := ⟨b, o, none⟩) h, fun b o h => hb.frozen (p := ⟨b, o, none⟩) h⟩
theorem cell_new (w : World) (cs : Array Value) (t : TypeId) {b : Nat} (j : Nat) (hb : b = w.heap.size) : (w.alloc (.cells cs t)).cell? ⟨b, j, none⟩ = cs[j]? := by
  subst hb
  exact cell_of_row _ _ _ cs t (0, 0) (heap_alloc_new w _)
theorem cell_old (w : World) (o : Obj) {b : Nat} (j : Nat) (hb : b < w.heap.size) : (w.alloc o).cell? ⟨b, j, none⟩ = w.cell? ⟨b, j, none⟩ := World.cell?_alloc_lt _ _ _ hb

section
variable {w : World} {base : Nat} {e : TypeId} {size n : Nat} {v : Value} {xs : List Value}
/-- What the call owns is a slice. -/
theorem own_form (h : w.ownsRow base e size v n xs) : ∃ A c, v = .slice A n c := by
  rcases h.2 with ⟨rfl, rfl⟩ | ⟨g, cap, cur, rfl, _⟩
  · exact ⟨none, 0, rfl⟩
  · exact ⟨_, _, rfl⟩
theorem own_base (h : w.ownsRow base e size v n xs) : ∀ k, v.ownBlock = some k → base ≤ k := fun k hk => (h.lt k hk).1
end
theorem heap_alloc_new' (w : World) (o : Obj) {b : Nat} (hb : b = w.heap.size) : (w.alloc o).heap[b]? = some o := by
  subst hb
  exact heap_alloc_new w o
theorem heap_alloc_old' (w : World) (o : Obj) {b : Nat} (hb : b < w.heap.size) : (w.alloc o).heap[b]? = w.heap[b]? := Below.heap_alloc w o b hb
/-- The cells of a block that was made just now. -/
theorem new_cells (w : World) (t : TypeId) (cs : Array Value) {b : Nat} (hb : b = w.heap.size) : ∀ j u, cs.toList[j]? = some u → (w.alloc (.cells cs t)).cell? ((⟨b, 0, none⟩ : Addr).add j) = some u := by
  intro j u hu
  have ea : (⟨b, 0, none⟩ : Addr).add j = ⟨b, j, none⟩ := by unfold Addr.add; split <;> simp_all
  rw [ea, cell_new w cs t j hb]
  simpa using hu
theorem one_int {k : IntKind} {a : Int} : ∀ u ∈ [Value.int k a], u.oneCell' = true := by
  intro u hu
  simp at hu
  subst hu
  rfl
/-- An empty slice of one's own. -/
theorem own_empty (w : World) (e : TypeId) (size : Nat) : (w.alloc (.cells #[] e)).ownsRow w.heap.size e size (.slice (some ⟨w.heap.size, 0, none⟩) 0 0) 0 [] :=
  ⟨by simp, Or.inr ⟨w.heap.size, 0, #[], rfl, Nat.le_refl _, heap_alloc_new w _, Nat.le_refl _, Nat.zero_le _, by simp, by simp⟩⟩
/-- A slice held against nil. -/
theorem slice_is_nil {P : Program} {t e : TypeId} (h : P.underlying t = some (.slice e)) (w : World) (a : Option Addr) (n c : Nat) : (binOp .eql t (.slice a n c) (.slice none 0 0)).run P w = .ok (.bool a.isNone) w := by
  have hd : ∀ d : Nat, (Op.equalIn (d + 1) t (.slice a n c) (.slice none 0 0)).run P w = .ok a.isNone w := fun d => by
    cases a <;> simp [Op.equalIn, run_underlying h]
  simp only [binOp]
  simp [Op.equal, Op.maxDepth, hd 9999]
end Go.Proofs.YtmplokdbbhlomaaGreatDoor
