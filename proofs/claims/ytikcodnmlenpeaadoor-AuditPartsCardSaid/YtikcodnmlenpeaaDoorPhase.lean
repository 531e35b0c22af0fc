/-
  What phase.follow and phase.Next come to, over this seat's translation: contracts for callers.
-/
import Derived.Test.YtikcodnmlenpeaaDoorMapR
import Derived.Test.YtikcodnmlenpeaaDoorRegInv
import Derived.Test.YtikcodnmlenpeaaDoorMoney
import Derived.Test.YtikcodnmlenpeaaDoorFrame
import Derived.DeepKeys4
import Derived.Deep.RegionHeld3
import Derived.Test.YtikcodnmlenpeaaDoorProg
namespace Go.Proofs.YtikcodnmlenpeaaDoor
open Go.RowKit

theorem wf_I64 {x : Int} (h : I64 x) : (Lit.int .i64 x).wf = true := by
  unfold I64 at h
  have h1 : IntKind.i64.min = -9223372036854775808 := rfl
  have h2 : IntKind.i64.max = 9223372036854775807 := rfl
  simp only [Lit.wf, Bool.and_eq_true, decide_eq_true_eq, h1, h2]
  omega
/-- Two numbers as a key. -/
def encII (p : Int × Int) : Value := .agg #[.int .i64 p.1, .int .i64 p.2]
def DomII (p : Int × Int) : Prop := I64 p.1 ∧ I64 p.2
theorem key_pair {P : Program} {k : TypeId} {f0 f1 : Field} (hs : P.underlying k = some (.struct #[f0, f1])) (h0 : P.underlying f0.type = some (.int .i64)) (h1 : P.underlying f1.type = some (.int .i64)) (o0 : f0.offset = 0) (o1 : f1.offset = 1)
    (c0 : P.cellsOf f0.type = 1) (c1 : P.cellsOf f1.type = 1) (hC : P.cellsOf k = 2) (hn : (#[f0, f1] : Array Field).all (·.name != "_") = true) (hk : P.keyType k = true) (hsz : 0 < P.types.size) (p : Int × Int) (hp : DomII p) :
    ∃ kl, keyOf P k (encII p) = some kl := by
  obtain ⟨x, y⟩ := p
  obtain ⟨hx, hy⟩ := hp
  have wx := wf_I64 hx
  have wy := wf_I64 hy
  obtain ⟨n, hn'⟩ : ∃ n, P.types.size = n + 1 := ⟨P.types.size - 1, by omega⟩
  unfold keyOf encII
  simp only [hs]
  rw [hn']
  have hf : (Value.agg #[.int .i64 x, .int .i64 y]).formed P k = true := by simp [Value.formed, hs, hC]
  have e0 : P.keyLits (n + 1) f0.type [.int .i64 x] = some [.int .i64 x] := by
    unfold Program.keyLits
    simp [h0, wx]
  have e1 : P.keyLits (n + 1) f1.type [.int .i64 y] = some [.int .i64 y] := by
    unfold Program.keyLits
    simp [h1, wy]
  have e : P.keyLits (n + 1 + 1) k [.int .i64 x, .int .i64 y] = some [.int .i64 x, .int .i64 y] := by
    unfold Program.keyLits
    simp only [hs]
    rw [if_pos ⟨by simp [hC], hn⟩]
    simp [o0, o1, c0, c1, e0, e1]
  rw [hk, hf]
  simp [Value.cells, e]
theorem ev_enc : EncOk Tryd.prog 78 encII DomII where
  keyed := Go.Maps.Keyed.of_law (deep_law_laid laid_out (m := 2) (by omega) (of_decide_eq_true (by kernel_rfl)) (by kernel_rfl) (by kernel_rfl))
  key := fun q hq => key_pair Tryd.underlying78 (by kernel_rfl) (by kernel_rfl) rfl rfl (by kernel_rfl) (by kernel_rfl) (by kernel_rfl) (by kernel_rfl) (by kernel_rfl) (of_decide_eq_true (by kernel_rfl)) q hq
  inj := fun q q' h => by
    unfold encII at h
    simp at h
    exact Prod.ext h.1 h.2

/-- The phases that follow. -/
def tgtF (p : Int × Int) : Option Int :=
  if p = (1, 1) then some 2 else if p = (2, 2) then some 2 else if p = (2, 3) then some 4 else if p = (3, 4) then some 4 else if p = (4, 4) then some 4 else if p = (4, 5) then some 1 else none
/-- What the map has, once some have been put. -/
structure Part6 (m : List ((Int × Int) × Value)) (b0 b1 b2 b3 b4 b5 : Bool) : Prop where
  dom : ∀ p ∈ m, DomII p.1
  sound : ∀ p v, getM p m = some v → ∃ n, tgtF p = some n ∧ v = .int .i64 n
  h0 : b0 = true → getM (1, 1) m = some (.int .i64 2)
  h1 : b1 = true → getM (2, 2) m = some (.int .i64 2)
  h2 : b2 = true → getM (2, 3) m = some (.int .i64 4)
  h3 : b3 = true → getM (3, 4) m = some (.int .i64 4)
  h4 : b4 = true → getM (4, 4) m = some (.int .i64 4)
  h5 : b5 = true → getM (4, 5) m = some (.int .i64 1)
theorem Part6.start : Part6 [] false false false false false false := ⟨by simp, fun p v h => by simp [getM] at h, by simp, by simp, by simp, by simp, by simp, by simp⟩
theorem put_get {q q' : Int × Int} {v v' : Value} {m : List ((Int × Int) × Value)} (h : getM q' m = some v') (hv : q = q' → v = v') : getM q' (putM q v m) = some v' := by
  by_cases c : q = q'
  · rw [c, get_put_same, hv c]
  · rw [get_put_other c, h]
theorem Part6.put {m : List ((Int × Int) × Value)} {b0 b1 b2 b3 b4 b5 : Bool} (h : Part6 m b0 b1 b2 b3 b4 b5) {q : Int × Int} {n : Int} (hq : tgtF q = some n) (hd : DomII q) (c0 c1 c2 c3 c4 c5 : Bool)
    (e0 : c0 = true → b0 = true ∨ q = (1, 1)) (e1 : c1 = true → b1 = true ∨ q = (2, 2)) (e2 : c2 = true → b2 = true ∨ q = (2, 3)) (e3 : c3 = true → b3 = true ∨ q = (3, 4)) (e4 : c4 = true → b4 = true ∨ q = (4, 4)) (e5 : c5 = true → b5 = true ∨ q = (4, 5)) :
    Part6 (putM q (.int .i64 n) m) c0 c1 c2 c3 c4 c5 := by
  have key : ∀ (q' : Int × Int) (n' : Int), tgtF q' = some n' → (getM q' m = some (.int .i64 n') ∨ q = q') → getM q' (putM q (.int .i64 n) m) = some (.int .i64 n') := fun q' n' ht h => by
    by_cases c : q = q'
    · subst c
      rw [get_put_same]
      rw [hq] at ht
      injection ht with ht
      rw [ht]
    · rw [get_put_other c]
      exact h.resolve_right c
  refine ⟨fun p hp => ?_, fun p v hv => ?_, fun c => key _ 2 rfl ((e0 c).imp h.h0 id), fun c => key _ 2 rfl ((e1 c).imp h.h1 id), fun c => key _ 4 rfl ((e2 c).imp h.h2 id), fun c => key _ 4 rfl ((e3 c).imp h.h3 id), fun c => key _ 4 rfl ((e4 c).imp h.h4 id), fun c => key _ 1 rfl ((e5 c).imp h.h5 id)⟩
  · rcases putM_keys hp with rfl | hp
    · exact hd
    · exact h.dom p hp
  · by_cases c : q = p
    · subst c
      rw [get_put_same] at hv
      injection hv with hv
      exact ⟨n, hq, hv.symm⟩
    · rw [get_put_other c] at hv
      exact h.sound p v hv
theorem Part6.all {m : List ((Int × Int) × Value)} (h : Part6 m true true true true true true) (p : Int × Int) : getM p m = (tgtF p).map (.int .i64) := by
  have snd := h.sound p
  unfold tgtF at *
  by_cases c0 : p = (1, 1)
  · subst c0; exact h.h0 rfl
  by_cases c1 : p = (2, 2)
  · subst c1; exact h.h1 rfl
  by_cases c2 : p = (2, 3)
  · subst c2; exact h.h2 rfl
  by_cases c3 : p = (3, 4)
  · subst c3; exact h.h3 rfl
  by_cases c4 : p = (4, 4)
  · subst c4; exact h.h4 rfl
  by_cases c5 : p = (4, 5)
  · subst c5; exact h.h5 rfl
  simp only [c0, c1, c2, c3, c4, c5, if_false] at snd ⊢
  cases hg : getM p m with
  | none => rfl
  | some v =>
    obtain ⟨n, hn, _⟩ := snd v hg
    cases hn
end Go.Proofs.YtikcodnmlenpeaaDoor
