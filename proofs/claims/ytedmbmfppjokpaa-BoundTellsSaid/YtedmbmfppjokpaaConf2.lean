/-
  A house in memory; what package conf's Ticks and cycles come to, over this seat's translation.
-/
import Derived.Test.YtedmbmfppjokpaaConf1
namespace Go.Proofs.Ytedmbmfppjokpaa
open Go.RowKit

/-- A house, as it lies in memory. -/
structure Cfg where
  ms : List Pr
  Am : Option Addr
  cm : Nat
  ss : List Pr
  As : Option Addr
  cs : Nat
  cy : List Cy
  Ac : Option Addr
  cc : Nat
  line : Int
  capi : Int
  lead : Int
  tr : Int
  bids : Int
def Cfg.vals (x : Cfg) : Array Value := #[.slice x.Am x.ms.length x.cm, .slice x.As x.ss.length x.cs, .slice x.Ac x.cy.length x.cc, .int .i64 x.line, .int .i64 x.capi, .int .i64 x.lead, .int .i64 x.tr, .int .i64 x.bids]
def Cfg.val (x : Cfg) : Value := .agg #[.slice x.Am x.ms.length x.cm, .slice x.As x.ss.length x.cs, .slice x.Ac x.cy.length x.cc, .int .i64 x.line, .int .i64 x.capi, .int .i64 x.lead, .int .i64 x.tr, .int .i64 x.bids]
/-- A house's lists lie in memory. -/
structure CfOk (w : World) (x : Cfg) : Prop where
  m : Seg w w.heap.size x.Am (prRows x.ms)
  s : Seg w w.heap.size x.As (prRows x.ss)
  c : Seg w w.heap.size x.Ac (cyRows x.cy)
theorem CfOk.below {w w' : World} {x : Cfg} (h : CfOk w x) (hb : Below w.heap.size w w') : CfOk w' x := ⟨(h.m.below hb).mono hb.size, (h.s.below hb).mono hb.size, (h.c.below hb).mono hb.size⟩
/-- A house lies in a box. -/
structure CfAt (w : World) (bx : Nat) (x : Cfg) : Prop where
  c0 : w.cell? ⟨bx, 0, none⟩ = some (.slice x.Am x.ms.length x.cm)
  c1 : w.cell? ⟨bx, 1, none⟩ = some (.slice x.As x.ss.length x.cs)
  c2 : w.cell? ⟨bx, 2, none⟩ = some (.slice x.Ac x.cy.length x.cc)
  c3 : w.cell? ⟨bx, 3, none⟩ = some (.int .i64 x.line)
  c4 : w.cell? ⟨bx, 4, none⟩ = some (.int .i64 x.capi)
  c5 : w.cell? ⟨bx, 5, none⟩ = some (.int .i64 x.lead)
  c6 : w.cell? ⟨bx, 6, none⟩ = some (.int .i64 x.tr)
  c7 : w.cell? ⟨bx, 7, none⟩ = some (.int .i64 x.bids)
  lt : bx < w.heap.size
theorem cf_new (w : World) (x : Cfg) : CfAt (w.alloc (.cells #[.slice x.Am x.ms.length x.cm, .slice x.As x.ss.length x.cs, .slice x.Ac x.cy.length x.cc, .int .i64 x.line, .int .i64 x.capi, .int .i64 x.lead, .int .i64 x.tr, .int .i64 x.bids] 26)) w.heap.size x :=
  ⟨cell_new _ _ _ 0 rfl, cell_new _ _ _ 1 rfl, cell_new _ _ _ 2 rfl, cell_new _ _ _ 3 rfl, cell_new _ _ _ 4 rfl, cell_new _ _ _ 5 rfl, cell_new _ _ _ 6 rfl, cell_new _ _ _ 7 rfl, by simp⟩
theorem CfAt.below {w w' : World} {bx : Nat} {x : Cfg} (h : CfAt w bx x) (hb : Below w.heap.size w w') : CfAt w' bx x :=
  have k := fun o => hb.cell (p := ⟨bx, o, none⟩) h.lt
  ⟨(k 0).trans h.c0, (k 1).trans h.c1, (k 2).trans h.c2, (k 3).trans h.c3, (k 4).trans h.c4, (k 5).trans h.c5, (k 6).trans h.c6, (k 7).trans h.c7, Nat.lt_of_lt_of_le h.lt hb.size⟩
theorem box_below (w : World) (x : Cfg) : Below w.heap.size w (w.alloc (.cells #[.slice x.Am x.ms.length x.cm, .slice x.As x.ss.length x.cs, .slice x.Ac x.cy.length x.cc, .int .i64 x.line, .int .i64 x.capi, .int .i64 x.lead, .int .i64 x.tr, .int .i64 x.bids] 26)) := (Below.refl _ _).alloc (Nat.le_refl _) _

def ticksL (l : List Cy) : List Int := l.flatMap fun x => [x.a, x.b, x.c, x.d]
theorem ticks_snoc {l : List Cy} {k : Nat} (hk : k < l.length) : ticksL (l.take (k + 1)) = ticksL (l.take k) ++ [l[k].a, l[k].b, l[k].c, l[k].d] := by
  unfold ticksL; rw [List.take_succ_eq_append_getElem hk, List.flatMap_append]; simp
theorem ticks_len (l : List Cy) : (ticksL l).length = 4 * l.length := by
  induction l with
  | nil => rfl
  | cons a l ih => unfold ticksL at *; rw [List.flatMap_cons, List.length_append, ih]; simp; omega
theorem int_info : (Try.prog.info? 3).map (fun i => (i.zero, i.size, i.bytes)) = some (some (.int .i64 0), 1, 8) := by kernel_rfl
/-- A slice of numbers has come back. -/
def GotSeg (w : World) (zs : List Int) (e : Ending) (w' : World) : Prop := ∃ A c, e = .returned (.slice A zs.length c) ∧ Seg w' w'.heap.size A (zs.map (Value.int .i64)) ∧ Below w.heap.size w w'
theorem int_at {w : World} {B : Nat} {A : Option Addr} {zs : List Int} (h : Seg w B A (zs.map (Value.int .i64))) {k : Nat} (hk : k < zs.length) : ∃ b o, A = some ⟨b, o, none⟩ ∧ b < B ∧ w.cell? ⟨b, o + k, none⟩ = some (.int .i64 zs[k]) := by
  obtain ⟨b, o, e, hb, hc⟩ := h.at (k := k) (by simpa using hk)
  rw [List.getElem_map] at hc
  exact ⟨b, o, e, hb, hc⟩
theorem four_int {a b c d : Int} : ∀ u ∈ [Value.int .i64 a, .int .i64 b, .int .i64 c, .int .i64 d], u.oneCell' = true := by
  intro u hu
  simp at hu
  rcases hu with rfl | rfl | rfl | rfl <;> rfl
set_option maxRecDepth 100000 in
set_option maxHeartbeats 800000 in
theorem ticks_any (x : Cfg) (w : World) (h : CfOk w x) (hl : x.cy.length ≤ 100000) :
    Calls Try.prog 42 #[x.val] w (GotSeg w (ticksL x.cy)) := by
  have HOK := Lib.hid (h.below (box_below w x))
  have HB0 := Lib.hid (box_below w x)
  have c2 := (cf_new w x).c2
  obtain ⟨i0, hi0, hz0, hz1', hz2⟩ := info_parts int_info
  unfold Cfg.val
  clear h
  obtain ⟨ms, Am, cm, ss, As, cs, cy, Ac, cc, line, capi, lead, tr, bids⟩ := x
  obtain ⟨_, _, hc⟩ := HOK.out
  have HC := Lib.hid hc
  clear hc HOK
  simp only at *
  go_enter Try.func42, Try.ntmps42
  go_wp2_with fail
  generalize w.alloc (.cells #[.slice Am ms.length cm, .slice As ss.length cs, .slice Ac cy.length cc, .int .i64 line, .int .i64 capi, .int .i64 lead, .int .i64 tr, .int .i64 bids] 26) = W0 at *
  go_loopw [3, 5, 9] (fun u _ i wr => ∃ k : Nat, k ≤ cy.length ∧ i = .int .i64 k ∧ Hid (wr.ownsRow W0.heap.size 3 1 u (ticksL (cy.take k)).length ((ticksL (cy.take k)).map (Value.int .i64))) ∧ Hid (Below W0.heap.size W0 wr)) (fun _ _ i _ => cy.length - (intOf i).toNat)
  case atStart => exact ⟨0, Nat.zero_le _, rfl, ⟨by simp [ticksL], Or.inl ⟨rfl, rfl⟩⟩, Below.refl _ _⟩
  case round =>
    obtain ⟨k, hk, rfl, HO, HB⟩ := hrel
    have hsz := HB.out.size
    have htl := ticks_len (cy.take k)
    have hyl : (ticksL (cy.take k)).length ≤ 400000 := by rw [htl, List.length_take]; omega
    clear htl
    by_cases hlt : k < cy.length
    · obtain ⟨b, o, rfl, hb, d0, d1, d2, d3⟩ := cy_at (HC.out.below HB.out) hlt
      have HF1 := Lib.hid (ticks_snoc hlt)
      generalize ticksL (cy.take k) = ys at *
      go_wp2_with (at_builtin; refine wpList_append_own _ rfl _ _ 67 rfl W0.heap.size 3 i0 _ 1 8 Try.underlying67 hi0 hz0 hz1' hz2 rfl (by decide) _ ys.length (ys.map (Value.int .i64)) rfl ((HO.out.alloc _).alloc _) ⟨wr.heap.size + 1, 0, none⟩ 4 4 [.int .i64 cy[k].a, .int .i64 cy[k].b, .int .i64 cy[k].c, .int .i64 cy[k].d] rfl rfl (new_cells _ _ #[_, _, _, _] (by simp)) four_int (by simp only [maxLen]; omega) (by omega) (by simp; omega) ?_)
      intro v' w4 hown1 hgrow1 _
      have HO4 : Hid (w4.ownsRow W0.heap.size 3 1 v' (ticksL (cy.take (k + 1))).length ((ticksL (cy.take (k + 1))).map (Value.int .i64))) := by
        show World.ownsRow _ _ _ _ _ _ _
        rw [HF1.out, List.map_append, List.length_append]
        exact hown1
      have HG4 : Hid (Below W0.heap.size W0 w4) := ((HB.out.alloc hsz _).alloc (by simp; omega) _).grown hgrow1 (by simp; omega) (fun j hj => own_base HO.out j hj)
      clear hown1 hgrow1
      go_wp2_with fail
      go_roundw
      case rel => exact ⟨k + 1, by omega, by go_num, HO4, HG4⟩
      case measure => simp [intOf]; omega
    · obtain rfl : k = cy.length := by omega
      have hO := HO.out
      rw [List.take_length] at hO
      obtain ⟨A2, c2', rfl⟩ := own_form hO
      have HS2 := Lib.hid (Seg.of_own hO)
      clear hO
      go_wp2_with fail
      go_ret
      exact ⟨A2, c2', rfl, HS2.out, HB0.out.trans (HB.out.mono HB0.out.size)⟩
end Go.Proofs.Ytedmbmfppjokpaa
