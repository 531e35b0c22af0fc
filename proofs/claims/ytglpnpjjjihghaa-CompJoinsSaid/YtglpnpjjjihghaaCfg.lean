/-
  A config in memory: words for contracts. (Printed by wip/gen_cfg.py.)
-/
import Derived.Test.YtglpnpjjjihghaaMem
import Derived.Test.YtglpnpjjjihghaaMoneyDef
namespace Go.Proofs.Ytglpnpjjjihghaa
open Go.RowKit

/-- A pair of amounts: a member, or a security. -/
structure Pr where
  a : Int
  b : Int
def Pr.cells (x : Pr) : List Value := [.int .i64 x.a, .int .i64 x.b]
def prRows (l : List Pr) : List Value := l.flatMap Pr.cells
/-- A cycle. -/
structure Cy where
  a : Int
  b : Int
  c : Int
  d : Int
def Cy.cells (x : Cy) : List Value := [.int .i64 x.a, .int .i64 x.b, .int .i64 x.c, .int .i64 x.d]
def cyRows (l : List Cy) : List Value := l.flatMap Cy.cells
theorem pr_at {w : World} {B : Nat} {A : Option Addr} {l : List Pr} (h : Seg w B A (prRows l)) {k : Nat} (hk : k < l.length) :
    ∃ b o, A = some ⟨b, o, none⟩ ∧ b < B ∧ w.cell? ⟨b, o + k * 2, none⟩ = some (.int .i64 l[k].a) ∧ w.cell? ⟨b, o + k * 2 + 1, none⟩ = some (.int .i64 l[k].b) := by
  obtain ⟨b, o, e, hb, hc⟩ := h.run (i := k * 2) (y := .int .i64 l[k].a) (t := [.int .i64 l[k].b]) (fun j u hu => flat_at Pr.cells 2 (fun _ => rfl) l k hk j u hu)
  exact ⟨b, o, e, hb, hc 0 _ rfl, hc 1 _ rfl⟩
theorem cy_at {w : World} {B : Nat} {A : Option Addr} {l : List Cy} (h : Seg w B A (cyRows l)) {k : Nat} (hk : k < l.length) :
    ∃ b o, A = some ⟨b, o, none⟩ ∧ b < B ∧ w.cell? ⟨b, o + k * 4, none⟩ = some (.int .i64 l[k].a) ∧ w.cell? ⟨b, o + k * 4 + 1, none⟩ = some (.int .i64 l[k].b) ∧ w.cell? ⟨b, o + k * 4 + 2, none⟩ = some (.int .i64 l[k].c) ∧ w.cell? ⟨b, o + k * 4 + 3, none⟩ = some (.int .i64 l[k].d) := by
  obtain ⟨b, o, e, hb, hc⟩ := h.run (i := k * 4) (y := .int .i64 l[k].a) (t := [.int .i64 l[k].b, .int .i64 l[k].c, .int .i64 l[k].d]) (fun j u hu => flat_at Cy.cells 4 (fun _ => rfl) l k hk j u hu)
  exact ⟨b, o, e, hb, hc 0 _ rfl, hc 1 _ rfl, hc 2 _ rfl, hc 3 _ rfl⟩
/-- A house, as it lies in memory. -/
structure Cfg where
  ms : List Pr
  Am : Option Addr
  cm : Nat
  ss : List Pr
  As : Option Addr
  cs : Nat
  cy : List Cy
  Ac : Option Addr
  cc : Nat
  line : Int
  capi : Int
  lead : Int
  tr : Int
  bids : Int
def Cfg.vals (x : Cfg) : Array Value := #[.slice x.Am x.ms.length x.cm, .slice x.As x.ss.length x.cs, .slice x.Ac x.cy.length x.cc, .int .i64 x.line, .int .i64 x.capi, .int .i64 x.lead, .int .i64 x.tr, .int .i64 x.bids]
def Cfg.val (x : Cfg) : Value := .agg #[.slice x.Am x.ms.length x.cm, .slice x.As x.ss.length x.cs, .slice x.Ac x.cy.length x.cc, .int .i64 x.line, .int .i64 x.capi, .int .i64 x.lead, .int .i64 x.tr, .int .i64 x.bids]
/-- A house's lists lie in memory. -/
structure CfOk (w : World) (x : Cfg) : Prop where
  m : Seg w w.heap.size x.Am (prRows x.ms)
  s : Seg w w.heap.size x.As (prRows x.ss)
  c : Seg w w.heap.size x.Ac (cyRows x.cy)
theorem CfOk.below {w w' : World} {x : Cfg} (h : CfOk w x) (hb : Below w.heap.size w w') : CfOk w' x := ⟨(h.m.below hb).mono hb.size, (h.s.below hb).mono hb.size, (h.c.below hb).mono hb.size⟩
/-- A house lies in a box. -/
structure CfAt (w : World) (bx : Nat) (x : Cfg) : Prop where
  c0 : w.cell? ⟨bx, 0, none⟩ = some (.slice x.Am x.ms.length x.cm)
  c1 : w.cell? ⟨bx, 1, none⟩ = some (.slice x.As x.ss.length x.cs)
  c2 : w.cell? ⟨bx, 2, none⟩ = some (.slice x.Ac x.cy.length x.cc)
  c3 : w.cell? ⟨bx, 3, none⟩ = some (.int .i64 x.line)
  c4 : w.cell? ⟨bx, 4, none⟩ = some (.int .i64 x.capi)
  c5 : w.cell? ⟨bx, 5, none⟩ = some (.int .i64 x.lead)
  c6 : w.cell? ⟨bx, 6, none⟩ = some (.int .i64 x.tr)
  c7 : w.cell? ⟨bx, 7, none⟩ = some (.int .i64 x.bids)
  lt : bx < w.heap.size
theorem cf_new (w : World) (x : Cfg) : CfAt (w.alloc (.cells #[.slice x.Am x.ms.length x.cm, .slice x.As x.ss.length x.cs, .slice x.Ac x.cy.length x.cc, .int .i64 x.line, .int .i64 x.capi, .int .i64 x.lead, .int .i64 x.tr, .int .i64 x.bids] 26)) w.heap.size x :=
  ⟨cell_new _ _ _ 0 rfl, cell_new _ _ _ 1 rfl, cell_new _ _ _ 2 rfl, cell_new _ _ _ 3 rfl, cell_new _ _ _ 4 rfl, cell_new _ _ _ 5 rfl, cell_new _ _ _ 6 rfl, cell_new _ _ _ 7 rfl, by simp⟩
theorem CfAt.below {w w' : World} {bx : Nat} {x : Cfg} (h : CfAt w bx x) (hb : Below w.heap.size w w') : CfAt w' bx x :=
  have k := fun o => hb.cell (p := ⟨bx, o, none⟩) h.lt
  ⟨(k 0).trans h.c0, (k 1).trans h.c1, (k 2).trans h.c2, (k 3).trans h.c3, (k 4).trans h.c4, (k 5).trans h.c5, (k 6).trans h.c6, (k 7).trans h.c7, Nat.lt_of_lt_of_le h.lt hb.size⟩
theorem box_below (w : World) (x : Cfg) : Below w.heap.size w (w.alloc (.cells #[.slice x.Am x.ms.length x.cm, .slice x.As x.ss.length x.cs, .slice x.Ac x.cy.length x.cc, .int .i64 x.line, .int .i64 x.capi, .int .i64 x.lead, .int .i64 x.tr, .int .i64 x.bids] 26)) := (Below.refl _ _).alloc (Nat.le_refl _) _
end Go.Proofs.Ytglpnpjjjihghaa
