/-
  What audit.Closed, Nets and Drawn come to, over this seat's translation: contracts for callers.
-/
import Derived.Test.YtikcodnmlenpeaaDoorMoneySum
import Derived.Test.YtikcodnmlenpeaaDoorAudPlain
namespace Go.Proofs.YtikcodnmlenpeaaDoor
open Go.RowKit

/-- An obligation: its six numbers. -/
structure Ob where
  c : Int
  m : Int
  a : Int
  net : Int
  done : Int
  st : Int
def Ob.cells (x : Ob) : List Value := [.int .i64 x.c, .int .i64 x.m, .int .i64 x.a, .int .i64 x.net, .int .i64 x.done, .int .i64 x.st]
def obRows (l : List Ob) : List Value := l.flatMap Ob.cells
def evRows (l : List Ev) : List Value := l.flatMap Ev.cells

theorem ob_at {w : World} {B : Nat} {A : Option Addr} {l : List Ob} (h : Seg w B A (obRows l)) {k : Nat} (hk : k < l.length) :
    ∃ b o, A = some ⟨b, o, none⟩ ∧ b < B ∧ w.cell? ⟨b, o + k * 6, none⟩ = some (.int .i64 l[k].c) ∧ w.cell? ⟨b, o + k * 6 + 1, none⟩ = some (.int .i64 l[k].m) ∧ w.cell? ⟨b, o + k * 6 + 2, none⟩ = some (.int .i64 l[k].a) ∧
      w.cell? ⟨b, o + k * 6 + 3, none⟩ = some (.int .i64 l[k].net) ∧ w.cell? ⟨b, o + k * 6 + 4, none⟩ = some (.int .i64 l[k].done) ∧ w.cell? ⟨b, o + k * 6 + 5, none⟩ = some (.int .i64 l[k].st) := by
  obtain ⟨b, o, e, hb, hc⟩ := h.run (i := k * 6) (y := .int .i64 l[k].c) (t := [.int .i64 l[k].m, .int .i64 l[k].a, .int .i64 l[k].net, .int .i64 l[k].done, .int .i64 l[k].st]) (fun j u hu => flat_at Ob.cells 6 (fun _ => rfl) l k hk j u hu)
  exact ⟨b, o, e, hb, hc 0 _ rfl, hc 1 _ rfl, hc 2 _ rfl, hc 3 _ rfl, hc 4 _ rfl, hc 5 _ rfl⟩
theorem ev_at {w : World} {B : Nat} {A : Option Addr} {l : List Ev} (h : Seg w B A (evRows l)) {k : Nat} (hk : k < l.length) :
    ∃ b o, A = some ⟨b, o, none⟩ ∧ b < B ∧ w.cell? ⟨b, o + k * 5, none⟩ = some (.int .i64 l[k].k) ∧ w.cell? ⟨b, o + k * 5 + 1, none⟩ = some (.int .i64 l[k].m) ∧ w.cell? ⟨b, o + k * 5 + 2, none⟩ = some (.int .i64 l[k].a) ∧
      w.cell? ⟨b, o + k * 5 + 3, none⟩ = some (.int .i64 l[k].n) ∧ w.cell? ⟨b, o + k * 5 + 4, none⟩ = some (.int .i64 l[k].o) := by
  obtain ⟨b, o, e, hb, hc⟩ := h.run (i := k * 5) (y := .int .i64 l[k].k) (t := [.int .i64 l[k].m, .int .i64 l[k].a, .int .i64 l[k].n, .int .i64 l[k].o]) (fun j u hu => flat_at Ev.cells 5 (fun _ => rfl) l k hk j u hu)
  exact ⟨b, o, e, hb, hc 0 _ rfl, hc 1 _ rfl, hc 2 _ rfl, hc 3 _ rfl, hc 4 _ rfl⟩

def closedB (l : List Ob) : Bool := l.all fun x => !(x.st == 1)
theorem all_snoc {α : Type} (p : α → Bool) {l : List α} {k : Nat} (hk : k < l.length) : (l.take (k + 1)).all p = ((l.take k).all p && p l[k]) := by
  rw [List.take_succ_eq_append_getElem hk, List.all_append]; simp
theorem all_past {α : Type} (p : α → Bool) {l : List α} {k : Nat} (hk : k < l.length) (h : p l[k] = false) : l.all p = false := by
  rw [List.all_eq_false]; exact ⟨l[k], by simp, by simp [h]⟩
theorem ret_bool' {a b : Bool} (h : a = b) : Ending.returned (.bool a) = .returned (.bool b) := by rw [h]

set_option maxHeartbeats 400000 in
theorem closed_any (l : List Ob) (A : Option Addr) (c : Nat) (w : World) (hs : Seg w w.heap.size A (obRows l)) (hn : l.length ≤ 4611686018427387904) :
    Calls Tryd.prog 17 #[.slice A l.length c] w fun e w' => e = .returned (.bool (closedB l)) ∧ Below w.heap.size w w' := by
  have HS := Lib.hid hs
  clear hs
  go_enter Tryd.func17, Tryd.ntmps17
  go_wp2
  go_loopw [7] (fun i wr => ∃ k : Nat, k ≤ l.length ∧ i = .int .i64 k ∧ Hid (Below w.heap.size w wr) ∧ Hid ((l.take k).all (fun x => !(x.st == 1)) = true)) (fun i _ => l.length - (intOf i).toNat)
  case atStart => exact ⟨0, Nat.zero_le _, rfl, Below.refl _ _, rfl⟩
  case round =>
    obtain ⟨k, hk, rfl, HB, HK⟩ := hrel
    have hsz := HB.out.size
    by_cases hlt : k < l.length
    · obtain ⟨b, o, rfl, hb, c0, c1, c2, c3, c4, c5⟩ := ob_at (HS.out.below HB.out) hlt
      have HA := Lib.hid (all_snoc (fun x : Ob => !(x.st == 1)) hlt)
      cases ht : (l[k].st == 1)
      · go_wp2
        go_roundw
        case rel => exact ⟨k + 1, by omega, by go_num, HB.out.alloc hsz _, by show _ = _; rw [HA.out, HK.out, ht]; rfl⟩
        case measure => simp [intOf]; omega
      · go_wp2
        go_ret
        exact ⟨ret_bool' (all_past _ hlt (by rw [ht]; rfl)).symm, HB.out.alloc hsz _⟩
    · obtain rfl : k = l.length := by omega
      go_wp2
      go_ret
      have := HK.out
      rw [List.take_length] at this
      exact ⟨ret_bool' this.symm, HB.out⟩

theorem filter_snoc {α β : Type} (p : α → Bool) (f : α → β) {l : List α} {k : Nat} (hk : k < l.length) :
    ((l.take (k + 1)).filter p).map f = ((l.take k).filter p).map f ++ (if p l[k] then [f l[k]] else []) := by
  rw [List.take_succ_eq_append_getElem hk, List.filter_append, List.map_append]
  congr 1
  by_cases h : p l[k] = true <;> simp [h]
theorem filter_len {α β : Type} (p : α → Bool) (f : α → β) (l : List α) (k : Nat) : (((l.take k).filter p).map f).length ≤ k := by
  rw [List.length_map]
  exact Nat.le_trans (List.length_filter_le _ _) (List.length_take_le _ _)
/-- The nets of a cycle and an asset. -/
def netsL (l : List Ob) (cy ass : Int) : List Int := (l.filter fun x => (x.c == cy) && (x.a == ass)).map (·.net)
theorem int64_info : (Tryd.prog.info? 2).map (fun i => (i.zero, i.size, i.bytes)) = some (some (.int .i64 0), 1, 8) := by kernel_rfl

set_option maxHeartbeats 800000 in
theorem nets_any (l : List Ob) (cy ass : Int) (A : Option Addr) (c : Nat) (w : World) (hs : Seg w w.heap.size A (obRows l)) (hn : l.length ≤ 1000000) (hl : ∀ x ∈ l, I64 x.net) :
    Calls Tryd.prog 14 #[.slice A l.length c, .int .i64 cy, .int .i64 ass] w fun e w' =>
      e = .returned (.tuple #[.int .i64 (amtV (sumI (netsL l cy ass))), .int .i64 (amtE (sumI (netsL l cy ass)))]) ∧ Below w.heap.size w w' := by
  have HS := Lib.hid hs
  have HL := Lib.hid hl
  clear hs hl
  obtain ⟨i0, hi0, hz0, hz1, hz2⟩ := info_parts int64_info
  go_enter Tryd.func14, Tryd.ntmps14
  go_wp2
  go_loopw [8, 13] (fun v i wr => ∃ k : Nat, k ≤ l.length ∧ i = .int .i64 k ∧ Hid (Below w.heap.size w wr) ∧
      Hid (wr.ownsRow w.heap.size 2 1 v (netsL (l.take k) cy ass).length ((netsL (l.take k) cy ass).map (Value.int .i64)))) (fun _ i _ => l.length - (intOf i).toNat)
  case atStart => exact ⟨0, Nat.zero_le _, rfl, Below.refl _ _, ⟨by simp [netsL], Or.inl ⟨rfl, rfl⟩⟩⟩
  case round =>
    obtain ⟨k, hk, rfl, HB, HO⟩ := hrel
    have hsz := HB.out.size
    by_cases hlt : k < l.length
    · obtain ⟨b, o, rfl, hb, c0, c1, c2, c3, c4, c5⟩ := ob_at (HS.out.below HB.out) hlt
      have HF := Lib.hid (filter_snoc (fun x : Ob => (x.c == cy) && (x.a == ass)) (·.net) hlt)
      have hlen : (netsL (l.take k) cy ass).length ≤ k := filter_len _ _ l k
      cases ht : (l[k].c == cy)
      · go_wp2
        go_roundw
        case rel => exact ⟨k + 1, by omega, by go_num, HB.out.alloc hsz _, by
          have e : netsL (l.take (k + 1)) cy ass = netsL (l.take k) cy ass := by unfold netsL; rw [HF.out, ht]; simp
          rw [e]; exact HO.out.alloc _⟩
        case measure => simp [intOf]; omega
      · cases hu : (l[k].a == ass)
        · go_wp2
          go_roundw
          case rel => exact ⟨k + 1, by omega, by go_num, HB.out.alloc hsz _, by
            have e : netsL (l.take (k + 1)) cy ass = netsL (l.take k) cy ass := by unfold netsL; rw [HF.out, ht, hu]; simp
            rw [e]; exact HO.out.alloc _⟩
          case measure => simp [intOf]; omega
        · go_wp2_with (at_builtin; refine wpList_append_own _ rfl _ _ 33 rfl w.heap.size 2 i0 (.int .i64 0) 1 8 Tryd.underlying33 hi0 hz0 hz1 hz2 rfl (by decide) _ _ _ rfl ((HO.out.alloc _).alloc _) ⟨wr.heap.size + 1, 0, none⟩ 1 1 [.int .i64 l[k].net] rfl rfl ?c1 ?c2 ?c3 ?c4 ?c5 ?_)
          case c1 => exact new_cells _ _ #[_] (by simp)
          case c2 => exact one_int
          case c3 => simp only [maxLen]; omega
          case c4 => omega
          case c5 => simp; omega
          intro v' w1 hown1 hgrow1 _
          have HO1 := Lib.hid hown1
          have HG1 := Lib.hid hgrow1
          clear hown1 hgrow1
          go_wp2
          go_roundw
          case rel => exact ⟨k + 1, by omega, by go_num, ((HB.out.alloc hsz _).alloc (by simp; omega) _).grown HG1.out (by simp; omega) (own_base HO.out), by
            have e : netsL (l.take (k + 1)) cy ass = netsL (l.take k) cy ass ++ [l[k].net] := by unfold netsL; rw [HF.out, ht, hu]; simp
            exact Lib.hid (by rw [e]; simpa using HO1.out)⟩
          case measure => simp [intOf]; omega
    · obtain rfl : k = l.length := by omega
      have hO := HO.out
      rw [List.take_length] at hO
      obtain ⟨A', c', rfl⟩ := own_form hO
      have HSg := Lib.hid (Seg.of_own hO)
      have hlen : (netsL l cy ass).length ≤ l.length := by have := filter_len (fun x : Ob => (x.c == cy) && (x.a == ass)) (·.net) l l.length; rwa [List.take_length] at this
      have hI : ∀ x ∈ netsL l cy ass, I64 x := fun x hx => by
        unfold netsL at hx
        obtain ⟨y, hy, rfl⟩ := List.mem_map.1 hx
        exact HL.out y (List.mem_filter.1 hy).1
      have HI := Lib.hid hI
      clear hO hI
      go_wp2_with (go_at_call 31; refine (sum_any _ _ _ _ HI.out HSg.out (by omega)).mono ?_; rintro e w' ⟨rfl, hb1⟩)
      go_ret2
      exact ⟨rfl, HB.out.trans (hb1.mono hsz)⟩
/-- The amounts that were drawn of an account. -/
def drawsL (l : List Ev) (kd mb : Int) : List Int := (l.filter fun x => (x.k == 10) && (x.o == kd) && (x.m == mb)).map (·.n)
set_option maxHeartbeats 800000 in
theorem drawn_any (l : List Ev) (kd mb : Int) (A : Option Addr) (c : Nat) (w : World) (hs : Seg w w.heap.size A (evRows l)) (hn : l.length ≤ 1000000) (hl : ∀ x ∈ l, I64 x.n) :
    Calls Tryd.prog 16 #[.slice A l.length c, .int .i64 kd, .int .i64 mb] w fun e w' =>
      e = .returned (.tuple #[.int .i64 (amtV (sumI (drawsL l kd mb))), .int .i64 (amtE (sumI (drawsL l kd mb)))]) ∧ Below w.heap.size w w' := by
  have HS := Lib.hid hs
  have HL := Lib.hid hl
  clear hs hl
  obtain ⟨i0, hi0, hz0, hz1, hz2⟩ := info_parts int64_info
  go_enter Tryd.func16, Tryd.ntmps16
  go_wp2
  go_loopw [8, 13] (fun v i wr => ∃ k : Nat, k ≤ l.length ∧ i = .int .i64 k ∧ Hid (Below w.heap.size w wr) ∧
      Hid (wr.ownsRow w.heap.size 2 1 v (drawsL (l.take k) kd mb).length ((drawsL (l.take k) kd mb).map (Value.int .i64)))) (fun _ i _ => l.length - (intOf i).toNat)
  case atStart => exact ⟨0, Nat.zero_le _, rfl, Below.refl _ _, ⟨by simp [drawsL], Or.inl ⟨rfl, rfl⟩⟩⟩
  case round =>
    obtain ⟨k, hk, rfl, HB, HO⟩ := hrel
    have hsz := HB.out.size
    by_cases hlt : k < l.length
    · obtain ⟨b, o, rfl, hb, c0, c1, c2, c3, c4⟩ := ev_at (HS.out.below HB.out) hlt
      have HF := Lib.hid (filter_snoc (fun x : Ev => (x.k == 10) && (x.o == kd) && (x.m == mb)) (·.n) hlt)
      have hlen : (drawsL (l.take k) kd mb).length ≤ k := filter_len _ _ l k
      cases ht : (l[k].k == 10)
      · go_wp2
        go_roundw
        case rel => exact ⟨k + 1, by omega, by go_num, HB.out.alloc hsz _, by
          have e : drawsL (l.take (k + 1)) kd mb = drawsL (l.take k) kd mb := by unfold drawsL; rw [HF.out, ht]; simp
          rw [e]; exact HO.out.alloc _⟩
        case measure => simp [intOf]; omega
      cases hu : (l[k].o == kd)
      · go_wp2
        go_roundw
        case rel => exact ⟨k + 1, by omega, by go_num, HB.out.alloc hsz _, by
          have e : drawsL (l.take (k + 1)) kd mb = drawsL (l.take k) kd mb := by unfold drawsL; rw [HF.out, ht, hu]; simp
          rw [e]; exact HO.out.alloc _⟩
        case measure => simp [intOf]; omega
      cases hv : (l[k].m == mb)
      · go_wp2
        go_roundw
        case rel => exact ⟨k + 1, by omega, by go_num, HB.out.alloc hsz _, by
          have e : drawsL (l.take (k + 1)) kd mb = drawsL (l.take k) kd mb := by unfold drawsL; rw [HF.out, ht, hu, hv]; simp
          rw [e]; exact HO.out.alloc _⟩
        case measure => simp [intOf]; omega
      · go_wp2_with (at_builtin; refine wpList_append_own _ rfl _ _ 33 rfl w.heap.size 2 i0 (.int .i64 0) 1 8 Tryd.underlying33 hi0 hz0 hz1 hz2 rfl (by decide) _ _ _ rfl ((HO.out.alloc _).alloc _) ⟨wr.heap.size + 1, 0, none⟩ 1 1 [.int .i64 l[k].n] rfl rfl ?c1 ?c2 ?c3 ?c4 ?c5 ?_)
        case c1 => exact new_cells _ _ #[_] (by simp)
        case c2 => exact one_int
        case c3 => simp only [maxLen]; omega
        case c4 => omega
        case c5 => simp; omega
        intro v' w1 hown1 hgrow1 _
        have HO1 := Lib.hid hown1
        have HG1 := Lib.hid hgrow1
        clear hown1 hgrow1
        go_wp2
        go_roundw
        case rel => exact ⟨k + 1, by omega, by go_num, ((HB.out.alloc hsz _).alloc (by simp; omega) _).grown HG1.out (by simp; omega) (own_base HO.out), by
          have e : drawsL (l.take (k + 1)) kd mb = drawsL (l.take k) kd mb ++ [l[k].n] := by unfold drawsL; rw [HF.out, ht, hu, hv]; simp
          exact Lib.hid (by rw [e]; simpa using HO1.out)⟩
        case measure => simp [intOf]; omega
    · obtain rfl : k = l.length := by omega
      have hO := HO.out
      rw [List.take_length] at hO
      obtain ⟨A', c', rfl⟩ := own_form hO
      have HSg := Lib.hid (Seg.of_own hO)
      have hlen : (drawsL l kd mb).length ≤ l.length := by have := filter_len (fun x : Ev => (x.k == 10) && (x.o == kd) && (x.m == mb)) (·.n) l l.length; rwa [List.take_length] at this
      have hI : ∀ x ∈ drawsL l kd mb, I64 x := fun x hx => by
        unfold drawsL at hx
        obtain ⟨y, hy, rfl⟩ := List.mem_map.1 hx
        exact HL.out y (List.mem_filter.1 hy).1
      have HI := Lib.hid hI
      clear hO hI
      go_wp2_with (go_at_call 31; refine (sum_any _ _ _ _ HI.out HSg.out (by omega)).mono ?_; rintro e w' ⟨rfl, hb1⟩)
      go_ret2
      exact ⟨rfl, HB.out.trans (hb1.mono hsz)⟩
end Go.Proofs.YtikcodnmlenpeaaDoor
