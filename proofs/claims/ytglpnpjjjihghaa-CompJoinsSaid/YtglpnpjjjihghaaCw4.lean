/-
  What comp.Worth comes to, over this seat's translation: a contract for callers.
-/
import Derived.Test.YtglpnpjjjihghaaCw3
import Derived.Test.YtglpnpjjjihghaaCw1
import Derived.Deep.AppendLies
import Derived.BigQuiet
import Derived.Deep.QuietTactic
namespace Go.Proofs.Ytglpnpjjjihghaa
open Go.RowKit

/-- A store into a map, at a step of a region that draws its order. -/
theorem step_mapUpdate {P : Program} {w : World} {ops : Array Oper} {o : Oper} {a : Act} {K : Act → World → Prop} {Q : Exit → Act → World → Prop} {E : Prop} (hgd : o.guard = none) (t : TypeId) (mo xo vo : Operand) (ho : o.op = .mapUpdate t mo xo vo)
    {b : Nat} {q : Value} {v : Value} (hm : a.eval mo = .map (some b)) (hx : a.eval xo = q) (hv : a.eval vo = v) {R : World → Prop} (hrun : ∃ w2, (Instr.mapUpdate t (.map (some b)) q v).run P w = .ok () w2 ∧ R w2) (h : ∀ w2, R w2 → K (a.put o.dst undef) w2) :
    if Region.wanted o (yielded ops a.tmps) = true then Oper.wp P o a w K Q else E := by
  have hw : Region.wanted o (yielded ops a.tmps) = true := by simp [Region.wanted, hgd]
  rw [if_pos hw]
  obtain ⟨w2, hr, h2⟩ := hrun
  unfold Oper.wp
  simp [execOp, ho, hm, hx, hv, hr, Result.andThen]
  exact h w2 h2
/-- The worths of a member's lacks. -/
def wthF (x : Cfg) (L : List Lg) (q : Int) : List Int := (L.filter fun y => y.m == q).map fun y => wthV x y.a y.n
/-- The first error. -/
def wthsE (x : Cfg) : List Lg → Int
  | [] => 0
  | y :: L => if wthE x y.a y.n = 0 then wthsE x L else wthE x y.a y.n
theorem wthF_snoc (x : Cfg) {L : List Lg} {k : Nat} (hk : k < L.length) (q : Int) : wthF x (L.take (k + 1)) q = if q = L[k].m then wthF x (L.take k) q ++ [wthV x L[k].a L[k].n] else wthF x (L.take k) q := by
  unfold wthF
  rw [List.take_succ_eq_append_getElem hk, List.filter_append, List.map_append]
  by_cases h : q = L[k].m
  · rw [if_pos h]
    simp [h]
  · rw [if_neg h]
    have h' : ¬ L[k].m = q := fun e => h e.symm
    simp [h']
theorem wthsE_take {x : Cfg} : ∀ {L : List Lg} {k : Nat} (hk : k < L.length), (∀ j (hj : j < k), wthE x L[j].a L[j].n = 0) → wthE x L[k].a L[k].n ≠ 0 → wthsE x L = wthE x L[k].a L[k].n
  | y :: L, 0, _, _, h => by
    unfold wthsE
    rw [if_neg (by simpa using h)]
    rfl
  | y :: L, k + 1, hk, h, h' => by
    unfold wthsE
    rw [if_pos (by have := h 0 (by omega); simpa using this)]
    exact wthsE_take (by simpa using hk) (fun j hj => by have := h (j + 1) (by omega); simpa using this) (by simpa using h')
theorem wthsE_all {x : Cfg} : ∀ {L : List Lg}, (∀ j (hj : j < L.length), wthE x L[j].a L[j].n = 0) → wthsE x L = 0
  | [], _ => rfl
  | y :: L, h => by
    unfold wthsE
    rw [if_pos (by have := h 0 (by simp); simpa using this)]
    exact wthsE_all fun j hj => by have := h (j + 1) (by simpa using hj); simpa using this
/-- What comp.Worth hands back. -/
def WorthP (x : Cfg) (L : List Lg) (w : World) (e : Ending) (w' : World) : Prop :=
  (wthsE x L ≠ 0 ∧ GotLE [] (wthsE x L) w e w') ∨ (wthsE x L = 0 ∧ ∃ ks : List Int, ks.Pairwise (· < ·) ∧ (∀ q, q ∈ ks ↔ ∃ y ∈ L, y.m = q) ∧ GotLE (gatL (wthF x L) ks) (gatE (wthF x L) ks) w e w')
theorem i64_info4 : (Try.prog.info? 2).map (fun i => (i.zero, i.size, i.bytes)) = some (some (.int .i64 0), 1, 8) := by kernel_rfl
/-- While the lacks are gone through. -/
structure WI (x : Cfg) (L : List Lg) (w wr : World) (k : Nat) (m : List (Int × Value)) : Prop where
  g : Grp wr (w.heap.size + 2) (w.heap.size + 1) m (wthF x (L.take k))
  len : m.length ≤ k
  ks : ∀ q, (∃ p ∈ m, p.1 = q) ↔ ∃ y ∈ L.take k, y.m = q
  ok : ∀ j (hj : j < L.length), j < k → wthE x L[j].a L[j].n = 0
  bx : CfAt wr w.heap.size x
  b : Below w.heap.size w wr
theorem CfAt.grown {w w' : World} {bx : Nat} {x : Cfg} {row : Option Nat} (h : CfAt w bx x) (hg : w.grownBy w' row) (hne : some bx ≠ row) : CfAt w' bx x :=
  have k := fun o => World.cell?_of_block (w := w) (w' := w') (a := ⟨bx, o, none⟩) (hg.block bx h.lt hne)
  ⟨(k 0).trans h.c0, (k 1).trans h.c1, (k 2).trans h.c2, (k 3).trans h.c3, (k 4).trans h.c4, (k 5).trans h.c5, (k 6).trans h.c6, (k 7).trans h.c7, Nat.lt_of_lt_of_le h.lt hg.size⟩
theorem WI.below {x : Cfg} {L : List Lg} {w wr w2 : World} {k : Nat} {m : List (Int × Value)} (h : WI x L w wr k m) (hb : Below wr.heap.size wr w2) : WI x L w w2 k m :=
  ⟨h.g.below (Nat.le_refl _) hb, h.len, h.ks, h.ok, h.bx.below hb, h.b.trans (hb.mono h.b.size)⟩
/-- One lack more has been put in. -/
theorem WI.step {x : Cfg} {L : List Lg} {w w2 w4 w5 : World} {k : Nat} {m : List (Int × Value)} {v' : Value} (h : WI x L w w2 k m) (hk : k < L.length) (he : wthE x L[k].a L[k].n = 0)
    (hg : w2.grownBy w4 (slotV L[k].m m).ownBlock) (h5 : Grp w5 (w.heap.size + 2) (w.heap.size + 1) (putM L[k].m v' m) (fun q => if q = L[k].m then wthF x (L.take k) L[k].m ++ [wthV x L[k].a L[k].n] else wthF x (L.take k) q)) (hg5 : w4.grownBy w5 (some (w.heap.size + 1))) : WI x L w w5 (k + 1) (putM L[k].m v' m) := by
  have hrow : ∀ j, (slotV L[k].m m).ownBlock = some j → w.heap.size + 2 ≤ j := fun j hj => ((h.g.slot L[k].m).lt j hj).1
  have hb4 : Below w.heap.size w w4 := h.b.grown hg h.b.size fun j hj => by have := hrow j hj; omega
  refine ⟨?_, ?_, fun q => ?_, fun j hj hjk => ?_, ?_, ?_⟩
  · have e : (fun q => if q = L[k].m then wthF x (L.take k) L[k].m ++ [wthV x L[k].a L[k].n] else wthF x (L.take k) q) = wthF x (L.take (k + 1)) := by
      funext q
      rw [wthF_snoc x hk q]
      by_cases e : q = L[k].m
      · rw [if_pos e, if_pos e, e]
      · rw [if_neg e, if_neg e]
    rw [← e]
    exact h5
  · have := putM_length (q := L[k].m) (v := v') m
    have := h.len
    omega
  · have h1 := h.ks q
    rw [List.take_succ_eq_append_getElem hk]
    constructor
    · rintro ⟨p, hp, rfl⟩
      rcases putM_mem h.g.map.apart hp with rfl | ⟨hp, _⟩
      · exact ⟨L[k], List.mem_append_right _ (List.mem_singleton.2 rfl), rfl⟩
      · obtain ⟨y, hy, e⟩ := h1.1 ⟨p, hp, rfl⟩
        exact ⟨y, List.mem_append_left _ hy, e⟩
    · rintro ⟨y, hy, rfl⟩
      rcases List.mem_append.1 hy with hy | hy
      · obtain ⟨p, hp, e⟩ := h1.2 ⟨y, hy, rfl⟩
        obtain ⟨u, hu⟩ := putM_mono (q := L[k].m) (v := v') hp
        exact ⟨_, hu, e⟩
      · simp at hy
        subst hy
        exact ⟨_, putM_new m, rfl⟩
  · by_cases e : j = k
    · subst e; exact he
    · exact h.ok j hj (by omega)
  · refine (h.bx.grown hg (fun e => ?_)).grown hg5 (by simp)
    have := hrow _ e.symm
    omega
  · exact hb4.grown hg5 hb4.size fun j hj => by cases hj; omega
end Go.Proofs.Ytglpnpjjjihghaa
