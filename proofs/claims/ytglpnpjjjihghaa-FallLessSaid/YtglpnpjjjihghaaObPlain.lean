/-
  Obligations, and what the calls of a sheet do, in plain Lean: no program.
-/
import Derived.Test.YtglpnpjjjihghaaMem
namespace Go.Proofs.Ytglpnpjjjihghaa
open Go.RowKit

/-- An obligation: its six numbers. -/
structure Ob where
  c : Int
  m : Int
  a : Int
  net : Int
  done : Int
  st : Int
def Ob.cells (x : Ob) : List Value := [.int .i64 x.c, .int .i64 x.m, .int .i64 x.a, .int .i64 x.net, .int .i64 x.done, .int .i64 x.st]
def Ob.val (x : Ob) : Value := .agg #[.int .i64 x.c, .int .i64 x.m, .int .i64 x.a, .int .i64 x.net, .int .i64 x.done, .int .i64 x.st]
def obRows (l : List Ob) : List Value := l.flatMap Ob.cells
/-- A leg: its three numbers. -/
structure Lg where
  m : Int
  a : Int
  n : Int
def Lg.cells (x : Lg) : List Value := [.int .i64 x.m, .int .i64 x.a, .int .i64 x.n]
def Lg.val (x : Lg) : Value := .agg #[.int .i64 x.m, .int .i64 x.a, .int .i64 x.n]
def lgRows (l : List Lg) : List Value := l.flatMap Lg.cells

theorem ob_at {w : World} {B : Nat} {A : Option Addr} {l : List Ob} (h : Seg w B A (obRows l)) {k : Nat} (hk : k < l.length) :
    ∃ b o, A = some ⟨b, o, none⟩ ∧ b < B ∧ w.cell? ⟨b, o + k * 6, none⟩ = some (.int .i64 l[k].c) ∧ w.cell? ⟨b, o + k * 6 + 1, none⟩ = some (.int .i64 l[k].m) ∧ w.cell? ⟨b, o + k * 6 + 2, none⟩ = some (.int .i64 l[k].a) ∧
      w.cell? ⟨b, o + k * 6 + 3, none⟩ = some (.int .i64 l[k].net) ∧ w.cell? ⟨b, o + k * 6 + 4, none⟩ = some (.int .i64 l[k].done) ∧ w.cell? ⟨b, o + k * 6 + 5, none⟩ = some (.int .i64 l[k].st) := by
  obtain ⟨b, o, e, hb, hc⟩ := h.run (i := k * 6) (y := .int .i64 l[k].c) (t := [.int .i64 l[k].m, .int .i64 l[k].a, .int .i64 l[k].net, .int .i64 l[k].done, .int .i64 l[k].st]) (fun j u hu => flat_at Ob.cells 6 (fun _ => rfl) l k hk j u hu)
  exact ⟨b, o, e, hb, hc 0 _ rfl, hc 1 _ rfl, hc 2 _ rfl, hc 3 _ rfl, hc 4 _ rfl, hc 5 _ rfl⟩
theorem lg_at {w : World} {B : Nat} {A : Option Addr} {l : List Lg} (h : Seg w B A (lgRows l)) {k : Nat} (hk : k < l.length) :
    ∃ b o, A = some ⟨b, o, none⟩ ∧ b < B ∧ w.cell? ⟨b, o + k * 3, none⟩ = some (.int .i64 l[k].m) ∧ w.cell? ⟨b, o + k * 3 + 1, none⟩ = some (.int .i64 l[k].a) ∧ w.cell? ⟨b, o + k * 3 + 2, none⟩ = some (.int .i64 l[k].n) := by
  obtain ⟨b, o, e, hb, hc⟩ := h.run (i := k * 3) (y := .int .i64 l[k].m) (t := [.int .i64 l[k].a, .int .i64 l[k].n]) (fun j u hu => flat_at Lg.cells 3 (fun _ => rfl) l k hk j u hu)
  exact ⟨b, o, e, hb, hc 0 _ rfl, hc 1 _ rfl, hc 2 _ rfl⟩

def minI : Int := -9223372036854775808
/-- How far a net is from 0. -/
def Ob.size (x : Ob) : Int := if x.net < 0 then -x.net else x.net
def isOpen (x : Ob) : Bool := x.st == 1
def mineB (m a : Int) (x : Ob) : Bool := x.st == 1 && x.m == m && x.a == a
def likeB (y : Lg) (x : Lg) : Bool := x.m == y.m && x.a == y.a
def zeroB (y : Lg) : Bool := y.n == 0 || y.n == minI
/-- A net may not be, or stands twice. -/
def twiceB (nets : List Lg) (i : Nat) (h : i < nets.length) : Bool := zeroB nets[i] || (nets.take i).any (likeB nets[i])
def badB (nets : List Lg) : Bool := (List.range nets.length).any fun i => if h : i < nets.length then twiceB nets i h else false
def newOb (cy : Int) (y : Lg) : Ob := ⟨cy, y.m, y.a, y.n, 0, 1⟩

def openE (cy : Int) (nets : List Lg) (L : List Ob) : Int :=
  if 1024 - (L.length : Int) < nets.length then 6 else if L.any isOpen then 17 else if L.any (fun x => decide (cy ≤ x.c)) then 7 else if badB nets then 1 else 0
def openL (cy : Int) (nets : List Lg) (L : List Ob) : List Ob := if openE cy nets L = 0 then L ++ nets.map (newOb cy) else L

def findI (m a : Int) (L : List Ob) : Nat := L.findIdx (mineB m a)

def debtE (m a n : Int) (L : List Ob) : Int := match L[findI m a L]? with
  | none => 8
  | some x => if x.net < 0 then 8 else if n < 1 then 1 else 0
def payE (m a n : Int) (L : List Ob) : Int := match L[findI m a L]? with
  | none => 8
  | some x => if x.net < 0 then 8 else if n < 1 then 1 else if x.net - x.done < n then 12 else 0
def takeE (m a n : Int) (L : List Ob) : Int := match L[findI m a L]? with
  | none => 8
  | some x => if x.net < 0 then 8 else if n < 1 then 1 else if x.done < n then 12 else 0
def markE (m a s n : Int) (L : List Ob) : Int := match L[findI m a L]? with
  | none => 8
  | some x => if s < 2 ∨ 5 < s ∨ n < 0 ∨ x.size < n ∨ (s = 2 ∧ n ≠ x.size) then 1 else 0
def payL (m a n : Int) (L : List Ob) : List Ob := if payE m a n L = 0 then L.modify (findI m a L) (fun x => { x with done := x.done + n }) else L
def takeL (m a n : Int) (L : List Ob) : List Ob := if takeE m a n L = 0 then L.modify (findI m a L) (fun x => { x with done := x.done - n }) else L
def markL (m a s n : Int) (L : List Ob) : List Ob := if markE m a s n L = 0 then L.modify (findI m a L) (fun x => { x with st := s, done := n }) else L

/-- What holds of every obligation. -/
structure Ob.ok (x : Ob) : Prop where
  lo : minI < x.net
  hi : x.net ≤ 9223372036854775807
  ne : x.net ≠ 0
  d0 : 0 ≤ x.done
  d1 : x.done ≤ x.size
/-- What holds of a sheet. -/
structure Fine (L : List Ob) : Prop where
  each : ∀ x ∈ L, x.ok
  once : ∀ j k (hj : j < L.length) (hk : k < L.length), j < k → isOpen L[j] = true → isOpen L[k] = true → ¬ (L[j].m = L[k].m ∧ L[j].a = L[k].a)
  len : L.length ≤ 1024
/-- What is not open stays. -/
def Stays (L L' : List Ob) : Prop := L.length ≤ L'.length ∧ ∀ k (h : k < L.length), isOpen L[k] = false → L'[k]? = some L[k]
end Go.Proofs.Ytglpnpjjjihghaa
