/-
  What conf.Plain(2, 2, 1) comes to, over this seat's translation: a contract for callers.
-/
import Derived.Test.YtglpnpjjjihghaaCfg2
namespace Go.Proofs.Ytglpnpjjjihghaa
open Go.RowKit

theorem blk_set {w : World} {g : Nat} {cs : Array Value} {t : TypeId} (h : w.heap[g]? = some (.cells cs t (0, 0))) (i : Nat) (u : Value) : (w.setCell ⟨g, i, none⟩ u).heap[g]? = some (.cells (cs.setIfInBounds i u) t (0, 0)) := by
  simp [World.setCell, Array.getElem?_modify, h]
theorem own_setCell {w : World} {base : Nat} {e : TypeId} {size n : Nat} {v : Value} {xs : List Value} (h : w.ownsRow base e size v n xs) {p : Addr} (hp : v.ownBlock ≠ some p.block) (u : Value) : (w.setCell p u).ownsRow base e size v n xs := by
  have hg : w.grownBy (w.setCell p u) (some p.block) := ⟨rfl, rfl, rfl, by simp [World.setCell], fun i _ hi => Below.heap_setCell _ _ _ _ (fun e => hi (by rw [e]))⟩
  exact h.kept hg (Or.inr hp)
/-- Rows of two types lie apart. -/
theorem own_apart {w : World} {base base' : Nat} {e e' : TypeId} {size size' n n' : Nat} {v v' : Value} {xs xs' : List Value} (h : w.ownsRow base e size v n xs) (h' : w.ownsRow base' e' size' v' n' xs') (hne : e ≠ e') : v.ownBlock = none ∨ v.ownBlock ≠ v'.ownBlock := by
  rcases h.2 with ⟨rfl, _⟩ | ⟨g, cap, cur, rfl, _, hh, _⟩
  · left; rfl
  · right
    rcases h'.2 with ⟨rfl, _⟩ | ⟨g', cap', cur', rfl, _, hh', _⟩
    · simp [Value.ownBlock]
    · intro he
      have e2 : g = g' := by simpa [Value.ownBlock] using he
      subst e2
      rw [hh] at hh'
      injection hh' with hh'
      injection hh' with _ ht
      exact hne ht
/-- Plain, on its way. -/
structure PlSt (w wr : World) (v0 v1 v2 : Value) (ms ss : List Pr) (cy : List Cy) : Prop where
  box : wr.heap[w.heap.size + 1]? = some (.cells #[v0, v1, v2, .int .i64 500, .int .i64 200, .int .i64 1, .int .i64 64, .int .i64 32] 26 (0, 0))
  res : wr.heap[w.heap.size]? = some (.cells #[.slice none 0 0, .slice none 0 0, .slice none 0 0, .int .i64 0, .int .i64 0, .int .i64 0, .int .i64 0, .int .i64 0] 26 (0, 0))
  o0 : wr.ownsRow (w.heap.size + 2) 109 2 v0 ms.length (prRows ms)
  o1 : wr.ownsRow (w.heap.size + 2) 84 2 v1 ss.length (prRows ss)
  o2 : wr.ownsRow (w.heap.size + 2) 111 4 v2 cy.length (cyRows cy)
  bel : Below w.heap.size w wr
section
variable {w wr w4 : World} {v0 v1 v2 v' : Value} {ms ss : List Pr} {cy : List Cy} {o : Obj}
theorem PlSt.lt (h : PlSt w wr v0 v1 v2 ms ss cy) : w.heap.size + 1 < wr.heap.size := (Array.getElem?_eq_some_iff.1 h.box).1
theorem PlSt.c (h : PlSt w wr v0 v1 v2 ms ss cy) (j : Nat) : wr.cell? ⟨w.heap.size + 1, j, none⟩ = (#[v0, v1, v2, .int .i64 500, .int .i64 200, .int .i64 1, .int .i64 64, .int .i64 32] : Array Value)[j]? := cell_of_row _ _ _ _ _ (0, 0) h.box
theorem PlSt.f (h : PlSt w wr v0 v1 v2 ms ss cy) (j : Nat) : wr.frozen? ⟨w.heap.size + 1, j, none⟩ = false := frozen_of_row _ _ _ _ _ h.box
theorem PlSt.r (h : PlSt w wr v0 v1 v2 ms ss cy) (j : Nat) : wr.cell? ⟨w.heap.size, j, none⟩ = (#[.slice none 0 0, .slice none 0 0, .slice none 0 0, .int .i64 0, .int .i64 0, .int .i64 0, .int .i64 0, .int .i64 0] : Array Value)[j]? := cell_of_row _ _ _ _ _ (0, 0) h.res
theorem PlSt.rf (h : PlSt w wr v0 v1 v2 ms ss cy) (j : Nat) : wr.frozen? ⟨w.heap.size, j, none⟩ = false := frozen_of_row _ _ _ _ _ h.res
theorem far {base : Nat} {e : TypeId} {size n : Nat} {v : Value} {xs : List Value} (h : w.ownsRow base e size v n xs) {g : Nat} (hg : g < base) : v.ownBlock ≠ some g := fun e => by
  have := (h.lt _ e).1
  omega
theorem kept_blk {base : Nat} {e : TypeId} {size n : Nat} {v : Value} {xs : List Value} (h : wr.ownsRow base e size v n xs) (hg : (wr.alloc o).grownBy w4 v.ownBlock) {g : Nat} (hb : g < base) (hl : g < wr.heap.size) : w4.heap[g]? = wr.heap[g]? :=
  (hg.block g (by simp; omega) (fun e => far h hb e.symm)).trans (heap_alloc_old' _ _ hl)
theorem PlSt.m (h : PlSt w wr v0 v1 v2 ms ss cy) {y : Pr} (hown : w4.ownsRow (w.heap.size + 2) 109 2 v' (ms.length + 1) (prRows ms ++ y.cells)) (hg : (wr.alloc o).grownBy w4 v0.ownBlock) : PlSt w (w4.setCell ⟨w.heap.size + 1, 0, none⟩ v') v' v1 v2 (ms ++ [y]) ss cy := by
  have hlt := h.lt
  have hsz := h.bel.size
  refine ⟨?_, ?_, by rw [show (ms ++ [y]).length = ms.length + 1 by simp, show prRows (ms ++ [y]) = prRows ms ++ y.cells by simp [prRows]]; exact own_setCell hown (far hown (by simp)) _, own_setCell ((h.o1.alloc o).kept hg (own_apart h.o1 h.o0 (by decide))) (far h.o1 (by simp)) _, own_setCell ((h.o2.alloc o).kept hg (own_apart h.o2 h.o0 (by decide))) (far h.o2 (by simp)) _, ?_⟩
  · rw [blk_set ((kept_blk h.o0 hg (by omega) hlt).trans h.box)]; rfl
  · rw [Below.heap_setCell _ _ _ _ (by simp)]
    exact (kept_blk h.o0 hg (by omega) (by omega)).trans h.res
  · exact ((h.bel.alloc hsz o).grown hg (by simp; omega) (fun j hj => Nat.le_trans (by omega) (own_base h.o0 j hj))).setCell (by simp) _
theorem PlSt.m0 (h : PlSt w wr v0 v1 v2 ms ss cy) (hg : (wr.alloc o).grownBy w4 v0.ownBlock) : w4.cell? ⟨w.heap.size + 1, 0, none⟩ = some v0 ∧ w4.frozen? ⟨w.heap.size + 1, 0, none⟩ = false ∧ w.heap.size + 1 < w4.heap.size :=
  have hb := (kept_blk h.o0 hg (by omega) h.lt).trans h.box
  ⟨cell_of_row _ _ _ _ _ (0, 0) hb, frozen_of_row _ _ _ _ _ hb, (Array.getElem?_eq_some_iff.1 hb).1⟩
theorem PlSt.s (h : PlSt w wr v0 v1 v2 ms ss cy) {y : Pr} (hown : w4.ownsRow (w.heap.size + 2) 84 2 v' (ss.length + 1) (prRows ss ++ y.cells)) (hg : (wr.alloc o).grownBy w4 v1.ownBlock) : PlSt w (w4.setCell ⟨w.heap.size + 1, 1, none⟩ v') v0 v' v2 ms (ss ++ [y]) cy := by
  have hlt := h.lt
  have hsz := h.bel.size
  refine ⟨?_, ?_, own_setCell ((h.o0.alloc o).kept hg (own_apart h.o0 h.o1 (by decide))) (far h.o0 (by simp)) _, by rw [show (ss ++ [y]).length = ss.length + 1 by simp, show prRows (ss ++ [y]) = prRows ss ++ y.cells by simp [prRows]]; exact own_setCell hown (far hown (by simp)) _, own_setCell ((h.o2.alloc o).kept hg (own_apart h.o2 h.o1 (by decide))) (far h.o2 (by simp)) _, ?_⟩
  · rw [blk_set ((kept_blk h.o1 hg (by omega) hlt).trans h.box)]; rfl
  · rw [Below.heap_setCell _ _ _ _ (by simp)]
    exact (kept_blk h.o1 hg (by omega) (by omega)).trans h.res
  · exact ((h.bel.alloc hsz o).grown hg (by simp; omega) (fun j hj => Nat.le_trans (by omega) (own_base h.o1 j hj))).setCell (by simp) _
theorem PlSt.s0 (h : PlSt w wr v0 v1 v2 ms ss cy) (hg : (wr.alloc o).grownBy w4 v1.ownBlock) : w4.cell? ⟨w.heap.size + 1, 1, none⟩ = some v1 ∧ w4.frozen? ⟨w.heap.size + 1, 1, none⟩ = false ∧ w.heap.size + 1 < w4.heap.size :=
  have hb := (kept_blk h.o1 hg (by omega) h.lt).trans h.box
  ⟨cell_of_row _ _ _ _ _ (0, 0) hb, frozen_of_row _ _ _ _ _ hb, (Array.getElem?_eq_some_iff.1 hb).1⟩
theorem PlSt.y (h : PlSt w wr v0 v1 v2 ms ss cy) {y : Cy} (hown : w4.ownsRow (w.heap.size + 2) 111 4 v' (cy.length + 1) (cyRows cy ++ y.cells)) (hg : (wr.alloc o).grownBy w4 v2.ownBlock) : PlSt w (w4.setCell ⟨w.heap.size + 1, 2, none⟩ v') v0 v1 v' ms ss (cy ++ [y]) := by
  have hlt := h.lt
  have hsz := h.bel.size
  refine ⟨?_, ?_, own_setCell ((h.o0.alloc o).kept hg (own_apart h.o0 h.o2 (by decide))) (far h.o0 (by simp)) _, own_setCell ((h.o1.alloc o).kept hg (own_apart h.o1 h.o2 (by decide))) (far h.o1 (by simp)) _, by rw [show (cy ++ [y]).length = cy.length + 1 by simp, show cyRows (cy ++ [y]) = cyRows cy ++ y.cells by simp [cyRows]]; exact own_setCell hown (far hown (by simp)) _, ?_⟩
  · rw [blk_set ((kept_blk h.o2 hg (by omega) hlt).trans h.box)]; rfl
  · rw [Below.heap_setCell _ _ _ _ (by simp)]
    exact (kept_blk h.o2 hg (by omega) (by omega)).trans h.res
  · exact ((h.bel.alloc hsz o).grown hg (by simp; omega) (fun j hj => Nat.le_trans (by omega) (own_base h.o2 j hj))).setCell (by simp) _
theorem PlSt.y0 (h : PlSt w wr v0 v1 v2 ms ss cy) (hg : (wr.alloc o).grownBy w4 v2.ownBlock) : w4.cell? ⟨w.heap.size + 1, 2, none⟩ = some v2 ∧ w4.frozen? ⟨w.heap.size + 1, 2, none⟩ = false ∧ w.heap.size + 1 < w4.heap.size :=
  have hb := (kept_blk h.o2 hg (by omega) h.lt).trans h.box
  ⟨cell_of_row _ _ _ _ _ (0, 0) hb, frozen_of_row _ _ _ _ _ hb, (Array.getElem?_eq_some_iff.1 hb).1⟩
/-- The result's block, being written. -/
structure Pl2 (w W : World) (cs : Array Value) (v0 v1 v2 : Value) (ms ss : List Pr) (cy : List Cy) : Prop where
  res : W.heap[w.heap.size]? = some (.cells cs 26 (0, 0))
  o0 : W.ownsRow (w.heap.size + 2) 109 2 v0 ms.length (prRows ms)
  o1 : W.ownsRow (w.heap.size + 2) 84 2 v1 ss.length (prRows ss)
  o2 : W.ownsRow (w.heap.size + 2) 111 4 v2 cy.length (cyRows cy)
  bel : Below w.heap.size w W
theorem PlSt.two (h : PlSt w wr v0 v1 v2 ms ss cy) : Pl2 w wr #[.slice none 0 0, .slice none 0 0, .slice none 0 0, .int .i64 0, .int .i64 0, .int .i64 0, .int .i64 0, .int .i64 0] v0 v1 v2 ms ss cy := ⟨h.res, h.o0, h.o1, h.o2, h.bel⟩
theorem Pl2.set {cs : Array Value} (h : Pl2 w wr cs v0 v1 v2 ms ss cy) (j : Nat) (u : Value) : Pl2 w (wr.setCell ⟨w.heap.size, j, none⟩ u) (cs.setIfInBounds j u) v0 v1 v2 ms ss cy :=
  ⟨blk_set h.res j u, own_setCell h.o0 (far h.o0 (by simp)) _, own_setCell h.o1 (far h.o1 (by simp)) _, own_setCell h.o2 (far h.o2 (by simp)) _, h.bel.setCell (Nat.le_refl _) _⟩
end
theorem set8 (z0 z1 z2 z3 z4 z5 z6 z7 a0 a1 a2 a3 a4 a5 a6 a7 : Value) : (((((((((#[z0, z1, z2, z3, z4, z5, z6, z7] : Array Value).setIfInBounds 0 a0).setIfInBounds 1 a1).setIfInBounds 2 a2).setIfInBounds 3 a3).setIfInBounds 4 a4).setIfInBounds 5 a5).setIfInBounds 6 a6).setIfInBounds 7 a7) = #[a0, a1, a2, a3, a4, a5, a6, a7] := by simp
/-- A plain house has come back. -/
def PlainP (w : World) (e : Ending) (w' : World) : Prop := ∃ (Am : Option Addr) (cm : Nat) (As : Option Addr) (cs : Nat) (Ac : Option Addr) (cc : Nat),
  e = .returned (Cfg.val ⟨[⟨1000, 100⟩, ⟨1000, 100⟩], Am, cm, [⟨10, 12⟩, ⟨10, 12⟩], As, cs, [⟨4, 7, 9, 10⟩], Ac, cc, 500, 200, 1, 64, 32⟩) ∧ CfOk w' ⟨[⟨1000, 100⟩, ⟨1000, 100⟩], Am, cm, [⟨10, 12⟩, ⟨10, 12⟩], As, cs, [⟨4, 7, 9, 10⟩], Ac, cc, 500, 200, 1, 64, 32⟩ ∧ Below w.heap.size w w'
theorem m_info : (Try.prog.info? 109).map (fun i => (i.zero, i.size, i.bytes)) = some (some (.agg #[.int .i64 0, .int .i64 0]), 2, 16) := by kernel_rfl
theorem s_info : (Try.prog.info? 84).map (fun i => (i.zero, i.size, i.bytes)) = some (some (.agg #[.int .i64 0, .int .i64 0]), 2, 16) := by kernel_rfl
theorem c_info : (Try.prog.info? 111).map (fun i => (i.zero, i.size, i.bytes)) = some (some (.agg #[.int .i64 0, .int .i64 0, .int .i64 0, .int .i64 0]), 4, 32) := by kernel_rfl
theorem four_int {a b c d : Int} : ∀ u ∈ [Value.int .i64 a, .int .i64 b, .int .i64 c, .int .i64 d], u.oneCell' = true := by
  intro u hu
  simp at hu
  rcases hu with rfl | rfl | rfl | rfl <;> rfl
theorem two_int {a b : Int} : ∀ u ∈ [Value.int .i64 a, .int .i64 b], u.oneCell' = true := by
  intro u hu
  simp at hu
  rcases hu with rfl | rfl <;> rfl
theorem rep_succ {α : Type} (k : Nat) (y : α) : List.replicate (k + 1) y = List.replicate k y ++ [y] := by rw [List.replicate_succ']
theorem pl_start (w : World) : PlSt w ((w.alloc (.cells #[.slice none 0 0, .slice none 0 0, .slice none 0 0, .int .i64 0, .int .i64 0, .int .i64 0, .int .i64 0, .int .i64 0] 26)).alloc (.cells #[.slice none 0 0, .slice none 0 0, .slice none 0 0, .int .i64 500, .int .i64 200, .int .i64 1, .int .i64 64, .int .i64 32] 26)) (.slice none 0 0) (.slice none 0 0) (.slice none 0 0) [] [] [] :=
  ⟨heap_alloc_new' _ _ (by simp), by rw [heap_alloc_old' _ _ (by simp)]; exact heap_alloc_new w _, ⟨by simp [prRows], Or.inl ⟨rfl, rfl⟩⟩, ⟨by simp [prRows], Or.inl ⟨rfl, rfl⟩⟩, ⟨by simp [cyRows], Or.inl ⟨rfl, rfl⟩⟩, ((Below.refl _ _).alloc (Nat.le_refl _) _).alloc (by simp) _⟩
set_option maxRecDepth 100000 in
set_option maxHeartbeats 1600000 in
theorem plain_any (w : World) : Calls Try.prog 41 #[.int .i64 2, .int .i64 2, .int .i64 1] w (PlainP w) := by
  obtain ⟨i0, hi0, hz0, hz1', hz2⟩ := info_parts m_info
  obtain ⟨j0, hj0, hy0, hy1', hy2⟩ := info_parts s_info
  obtain ⟨k0, hk0, hx0, hx1', hx2⟩ := info_parts c_info
  have HST := Lib.hid (pl_start w)
  go_enter Try.func41, Try.ntmps41
  go_wp2_with fail
  refine (near_any _ _ _ _ (by omega) (by omega)).mono ?_
  rintro e w1 ⟨rfl, rfl⟩
  go_wp2_with fail
  go_loopw [12] (fun i wr => ∃ k : Nat, k ≤ 2 ∧ i = .int .i64 k ∧ Hid (∃ v, PlSt w wr v (.slice none 0 0) (.slice none 0 0) (List.replicate k ⟨1000, 100⟩) [] [])) (fun i _ => 2 - (intOf i).toNat)
  case atStart => exact ⟨0, Nat.zero_le _, rfl, ⟨_, HST.out⟩⟩
  case round =>
    obtain ⟨k, hk, rfl, HP⟩ := hrel
    obtain ⟨v, hp⟩ := HP.out
    have HQ := Lib.hid hp
    have q0 : wr.cell? ⟨w.heap.size + 1, 0, none⟩ = some v := hp.c 0
    have qf := hp.f 0
    have ql := hp.lt
    clear hp HP
    by_cases hlt : k < 2
    · go_wp2_with (at_builtin; refine wpList_append_own _ rfl _ _ 22 rfl (w.heap.size + 2) 109 i0 _ 2 16 Try.underlying22 hi0 hz0 hz1' hz2 rfl (by decide) _ (List.replicate k (⟨1000, 100⟩ : Pr)).length (prRows (List.replicate k ⟨1000, 100⟩)) rfl (HQ.out.o0.alloc _) ⟨wr.heap.size, 0, none⟩ 1 1 [.int .i64 1000, .int .i64 100] rfl rfl (new_cells _ _ #[_, _] (by simp)) two_int (by simp only [maxLen, List.length_replicate]; omega) (by simp only [List.length_replicate]; omega) (by simp; omega) ?_)
      intro v' w4 hown1 hgrow1 _
      obtain ⟨A', c', rfl⟩ := own_form hown1
      obtain ⟨r0, r1, r2⟩ := HQ.out.m0 hgrow1
      have HN := Lib.hid (HQ.out.m (y := ⟨1000, 100⟩) (by rw [List.length_replicate]; exact hown1) hgrow1)
      rw [← rep_succ] at HN
      clear hown1 hgrow1 q0 qf ql
      go_wp2_with fail
      go_roundw
      case rel => exact ⟨k + 1, by omega, by go_num, ⟨_, HN.out⟩⟩
      case measure => simp [intOf]; omega
    · obtain rfl : k = 2 := by omega
      clear q0 qf ql
      obtain ⟨wo, rfl⟩ : ∃ wo : World, wo = wr := ⟨_, rfl⟩
      have HQ1 : Hid (PlSt w wo v (.slice none 0 0) (.slice none 0 0) [⟨1000, 100⟩, ⟨1000, 100⟩] [] []) := HQ.out
      clear HQ
      go_wp2_with fail
      refine (near_any _ _ _ _ (by omega) (by omega)).mono ?_
      rintro e w1 ⟨rfl, rfl⟩
      go_wp2_with fail
      go_loopw [23] (fun i wr => ∃ k : Nat, k ≤ 2 ∧ i = .int .i64 k ∧ Hid (∃ v1, PlSt w wr v v1 (.slice none 0 0) [⟨1000, 100⟩, ⟨1000, 100⟩] (List.replicate k ⟨10, 12⟩) [])) (fun i _ => 2 - (intOf i).toNat)
      case atStart => exact ⟨0, Nat.zero_le _, rfl, ⟨_, HQ1.out⟩⟩
      case round =>
        obtain ⟨k, hk, rfl, HP⟩ := hrel
        obtain ⟨v1, hp⟩ := HP.out
        have HQ := Lib.hid hp
        have q0 : wr.cell? ⟨w.heap.size + 1, 1, none⟩ = some v1 := hp.c 1
        have qf := hp.f 1
        have ql := hp.lt
        clear hp HP
        by_cases hlt : k < 2
        · go_wp2_with (at_builtin; refine wpList_append_own _ rfl _ _ 23 rfl (w.heap.size + 2) 84 j0 _ 2 16 Try.underlying23 hj0 hy0 hy1' hy2 rfl (by decide) _ (List.replicate k (⟨10, 12⟩ : Pr)).length (prRows (List.replicate k ⟨10, 12⟩)) rfl (HQ.out.o1.alloc _) ⟨wr.heap.size, 0, none⟩ 1 1 [.int .i64 10, .int .i64 12] rfl rfl (new_cells _ _ #[_, _] (by simp)) two_int (by simp only [maxLen, List.length_replicate]; omega) (by simp only [List.length_replicate]; omega) (by simp; omega) ?_)
          intro v' w4 hown1 hgrow1 _
          obtain ⟨A', c', rfl⟩ := own_form hown1
          obtain ⟨r0, r1, r2⟩ := HQ.out.s0 hgrow1
          have HN := Lib.hid (HQ.out.s (y := ⟨10, 12⟩) (by rw [List.length_replicate]; exact hown1) hgrow1)
          rw [← rep_succ] at HN
          clear hown1 hgrow1 q0 qf ql
          go_wp2_with fail
          go_roundw
          case rel => exact ⟨k + 1, by omega, by go_num, ⟨_, HN.out⟩⟩
          case measure => simp [intOf]; omega
        · obtain rfl : k = 2 := by omega
          clear q0 qf ql
          obtain ⟨wp, rfl⟩ : ∃ wp : World, wp = wr := ⟨_, rfl⟩
          have HQ2 : Hid (PlSt w wp v v1 (.slice none 0 0) [⟨1000, 100⟩, ⟨1000, 100⟩] [⟨10, 12⟩, ⟨10, 12⟩] []) := HQ.out
          clear HQ
          go_wp2_with fail
          refine (near_any _ _ _ _ (by omega) (by omega)).mono ?_
          rintro e w1 ⟨rfl, rfl⟩
          go_wp2_with fail
          go_loopw [8, 34] (fun _ i wr => ∃ k : Nat, k ≤ 1 ∧ i = .int .i64 k ∧ Hid (∃ v2, PlSt w wr v v1 v2 [⟨1000, 100⟩, ⟨1000, 100⟩] [⟨10, 12⟩, ⟨10, 12⟩] (List.replicate k ⟨4, 7, 9, 10⟩))) (fun _ i _ => 1 - (intOf i).toNat)
          case atStart => exact ⟨0, Nat.zero_le _, rfl, ⟨_, HQ2.out⟩⟩
          case round =>
            obtain ⟨k, hk, rfl, HP⟩ := hrel
            obtain ⟨v2, hp⟩ := HP.out
            by_cases hlt : k < 1
            · obtain rfl : k = 0 := by omega
              have HQ := Lib.hid hp
              have q0 : wr.cell? ⟨w.heap.size + 1, 2, none⟩ = some v2 := hp.c 2
              have qf := hp.f 2
              have ql := hp.lt
              clear hp HP
              go_wp2_with (at_builtin; refine wpList_append_own _ rfl _ _ 24 rfl (w.heap.size + 2) 111 k0 _ 4 32 Try.underlying24 hk0 hx0 hx1' hx2 rfl (by decide) _ 0 [] rfl (HQ.out.o2.alloc _) ⟨wr.heap.size, 0, none⟩ 1 1 [.int .i64 4, .int .i64 7, .int .i64 9, .int .i64 10] rfl rfl (new_cells _ _ #[_, _, _, _] (by simp)) four_int (by simp only [maxLen]; omega) (by omega) (by simp; omega) ?_)
              intro v' w4 hown1 hgrow1 _
              obtain ⟨A', c', rfl⟩ := own_form hown1
              obtain ⟨r0, r1, r2⟩ := HQ.out.y0 hgrow1
              have HN := Lib.hid (HQ.out.y (y := ⟨4, 7, 9, 10⟩) hown1 hgrow1)
              clear hown1 hgrow1 q0 qf ql
              go_wp2_with fail
              go_roundw
              case rel => exact ⟨1, by omega, by go_num, ⟨_, HN.out⟩⟩
              case measure => simp [intOf]
            · obtain rfl : k = 1 := by omega
              have HQ : Hid (PlSt w wr v v1 v2 [⟨1000, 100⟩, ⟨1000, 100⟩] [⟨10, 12⟩, ⟨10, 12⟩] [⟨4, 7, 9, 10⟩]) := hp
              clear hp HP
              obtain ⟨A0, n0, rfl⟩ := own_form HQ.out.o0
              obtain ⟨A1, n1, rfl⟩ := own_form HQ.out.o1
              obtain ⟨A2, n2, rfl⟩ := own_form HQ.out.o2
              have q0 : wr.cell? ⟨w.heap.size + 1, 0, none⟩ = some (.slice A0 2 n0) := HQ.out.c 0
              have q1 : wr.cell? ⟨w.heap.size + 1, 1, none⟩ = some (.slice A1 2 n1) := HQ.out.c 1
              have q2 : wr.cell? ⟨w.heap.size + 1, 2, none⟩ = some (.slice A2 1 n2) := HQ.out.c 2
              have q3 : wr.cell? ⟨w.heap.size + 1, 3, none⟩ = some (.int .i64 500) := HQ.out.c 3
              have q4 : wr.cell? ⟨w.heap.size + 1, 4, none⟩ = some (.int .i64 200) := HQ.out.c 4
              have q5 : wr.cell? ⟨w.heap.size + 1, 5, none⟩ = some (.int .i64 1) := HQ.out.c 5
              have q6 : wr.cell? ⟨w.heap.size + 1, 6, none⟩ = some (.int .i64 64) := HQ.out.c 6
              have q7 : wr.cell? ⟨w.heap.size + 1, 7, none⟩ = some (.int .i64 32) := HQ.out.c 7
              have r0 : wr.cell? ⟨w.heap.size, 0, none⟩ = some (.slice none 0 0) := HQ.out.r 0
              have r1 : wr.cell? ⟨w.heap.size, 1, none⟩ = some (.slice none 0 0) := HQ.out.r 1
              have r2 : wr.cell? ⟨w.heap.size, 2, none⟩ = some (.slice none 0 0) := HQ.out.r 2
              have r3 : wr.cell? ⟨w.heap.size, 3, none⟩ = some (.int .i64 0) := HQ.out.r 3
              have r4 : wr.cell? ⟨w.heap.size, 4, none⟩ = some (.int .i64 0) := HQ.out.r 4
              have r5 : wr.cell? ⟨w.heap.size, 5, none⟩ = some (.int .i64 0) := HQ.out.r 5
              have r6 : wr.cell? ⟨w.heap.size, 6, none⟩ = some (.int .i64 0) := HQ.out.r 6
              have r7 : wr.cell? ⟨w.heap.size, 7, none⟩ = some (.int .i64 0) := HQ.out.r 7
              have hl1 := HQ.out.lt
              have g0 := HQ.out.rf
              go_wp2_with fail
              obtain ⟨hR, p0, p1, p2, hbel⟩ := ((((((((HQ.out.two).set 0 (.slice A0 2 n0)).set 1 (.slice A1 2 n1)).set 2 (.slice A2 1 n2)).set 3 (.int .i64 500)).set 4 (.int .i64 200)).set 5 (.int .i64 1)).set 6 (.int .i64 64)).set 7 (.int .i64 32)
              rw [set8] at hR
              have HRR := Lib.hid hR
              have HE0 := Lib.hid p0; have HE1 := Lib.hid p1; have HE2 := Lib.hid p2; have HBE := Lib.hid hbel
              clear hR p0 p1 p2 hbel q0 q1 q2 q3 q4 q5 q6 q7 r0 r1 r2 r3 r4 r5 r6 r7 g0 hl1 HQ
              generalize (((((((wr.setCell ⟨w.heap.size, 0, none⟩ (.slice A0 2 n0)).setCell ⟨w.heap.size, 1, none⟩ (.slice A1 2 n1)).setCell ⟨w.heap.size, 2, none⟩ (.slice A2 1 n2)).setCell ⟨w.heap.size, 3, none⟩ (.int .i64 500)).setCell ⟨w.heap.size, 4, none⟩ (.int .i64 200)).setCell ⟨w.heap.size, 5, none⟩ (.int .i64 1)).setCell ⟨w.heap.size, 6, none⟩ (.int .i64 64)).setCell ⟨w.heap.size, 7, none⟩ (.int .i64 32) = W8 at *
              have r0 : W8.cell? ⟨w.heap.size, 0, none⟩ = some (.slice A0 2 n0) := (cell_of_row _ _ _ _ _ (0, 0) HRR.out).trans rfl
              have r1 : W8.cell? ⟨w.heap.size, 1, none⟩ = some (.slice A1 2 n1) := (cell_of_row _ _ _ _ _ (0, 0) HRR.out).trans rfl
              have r2 : W8.cell? ⟨w.heap.size, 2, none⟩ = some (.slice A2 1 n2) := (cell_of_row _ _ _ _ _ (0, 0) HRR.out).trans rfl
              have r3 : W8.cell? ⟨w.heap.size, 3, none⟩ = some (.int .i64 500) := (cell_of_row _ _ _ _ _ (0, 0) HRR.out).trans rfl
              have r4 : W8.cell? ⟨w.heap.size, 4, none⟩ = some (.int .i64 200) := (cell_of_row _ _ _ _ _ (0, 0) HRR.out).trans rfl
              have r5 : W8.cell? ⟨w.heap.size, 5, none⟩ = some (.int .i64 1) := (cell_of_row _ _ _ _ _ (0, 0) HRR.out).trans rfl
              have r6 : W8.cell? ⟨w.heap.size, 6, none⟩ = some (.int .i64 64) := (cell_of_row _ _ _ _ _ (0, 0) HRR.out).trans rfl
              have r7 : W8.cell? ⟨w.heap.size, 7, none⟩ = some (.int .i64 32) := (cell_of_row _ _ _ _ _ (0, 0) HRR.out).trans rfl
              exact bodyPost_ret (v := .agg #[.slice A0 2 n0, .slice A1 2 n1, .slice A2 1 n2, .int .i64 500, .int .i64 200, .int .i64 1, .int .i64 64, .int .i64 32]) (by simp [results, Try.results41, go_sem, r0, r1, r2, r3, r4, r5, r6, r7]) rfl ⟨A0, n0, A1, n1, A2, n2, rfl, ⟨Seg.of_own HE0.out, Seg.of_own HE1.out, Seg.of_own HE2.out⟩, HBE.out⟩
end Go.Proofs.Ytglpnpjjjihghaa
