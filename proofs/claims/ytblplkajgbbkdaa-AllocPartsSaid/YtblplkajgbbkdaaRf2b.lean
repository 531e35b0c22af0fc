/-
  What complineref02.Mul comes to, over this seat's translation: a contract for callers.
-/
import Derived.Test.YtblplkajgbbkdaaRf2a
import Derived.RegionTactic
import Derived.BigRegion
import Derived.Deep.LoopGhost
namespace Go.Proofs.Ytblplkajgbbkdaa
open Go.RowKit Go.Lib Go.Sort

theorem val_set : ∀ (ns : List Nat) (j : Nat) (hj : j < ns.length) (t : Nat), val (ns.set j t) + ns[j] * 65536 ^ j = val ns + t * 65536 ^ j
  | [], _, hj, _ => by simp at hj
  | x :: xs, 0, _, t => by simp [val]; omega
  | x :: xs, j + 1, hj, t => by
    have ih := val_set xs j (by simpa using hj) t
    simp only [List.set_cons_succ, val, List.getElem_cons_succ, Nat.pow_succ]
    rw [← Nat.mul_assoc, ← Nat.mul_assoc]
    omega
theorem val_lt : ∀ (ns : List Nat), (∀ x ∈ ns, x < 65536) → val ns < 65536 ^ ns.length
  | [], _ => by simp [val]
  | x :: xs, h => by
    have h1 := h x (by simp)
    have ih := val_lt xs fun y hy => h y (by simp [hy])
    simp only [List.length_cons, val, Nat.pow_succ]
    omega
/-- A block is a row of words. -/
def RowU (w : World) (b : Nat) (ns : List Nat) : Prop := w.heap[b]? = some (.cells (ns.map fun (n : Nat) => Value.int .u64 (n : Int)).toArray 78 (0, 0))
section
variable {w w' : World} {b B : Nat} {ns : List Nat}
theorem RowU.cell (h : RowU w b ns) {i : Nat} (hi : i < ns.length) : w.cell? ⟨b, i, none⟩ = some (.int .u64 (ns[i] : Int)) := by
  rw [cell_of_row w b i _ 78 (0, 0) h]
  simp [hi]
theorem RowU.free (h : RowU w b ns) (i : Nat) : w.frozen? ⟨b, i, none⟩ = false := frozen_of_row w b i _ 78 h
theorem RowU.of_block (h : RowU w b ns) (e : w'.heap[b]? = w.heap[b]?) : RowU w' b ns := e.trans h
theorem RowU.drew (h : RowU w b ns) : RowU w.drew b ns := h
theorem RowU.set (h : RowU w b ns) (i : Nat) (v : Nat) : RowU (w.setCell ⟨b, i, none⟩ (.int .u64 (v : Int))) b (ns.set i v) := by
  unfold RowU at *
  rw [setCell_eq, mapBlock, Array.getElem?_modify, if_pos rfl, h]
  simp [onCells, List.map_set]
theorem RowU.new (w : World) (ns : List Nat) : RowU (w.alloc (.cells (ns.map fun (n : Nat) => Value.int .u64 (n : Int)).toArray 78)) w.heap.size ns := heap_alloc_new w _
theorem RowU.other (h : RowU w b ns) {a : Addr} (v : Value) (hne : b ≠ a.block) : RowU (w.setCell a v) b ns := h.of_block (Deep.blk_setCell_other w a v b hne)
theorem RowU.alloc (h : RowU w b ns) (hb : b < w.heap.size) (o : Obj) : RowU (w.alloc o) b ns := h.of_block (Deep.blk_alloc_lt w o b hb)
theorem RowU.below (h : RowU w b ns) (hb : b < B) (k : Below B w w') : RowU w' b ns := h.of_block (k.block b hb)
end
/-- The first digits' worth. -/
def upto (x : Nat → Nat) : Nat → Nat
  | 0 => 0
  | k + 1 => upto x k + x k * 65536 ^ k
def x4 (x0 x1 x2 x3 : Nat) : Nat → Nat := fun j => if j = 0 then x0 else if j = 1 then x1 else if j = 2 then x2 else if j = 3 then x3 else 0
theorem upto4 {a x0 x1 x2 x3 : Nat} (h : Dig4 a x0 x1 x2 x3) : upto (x4 x0 x1 x2 x3) 4 = a := by
  have := h.eq
  simp [upto, x4]
  omega
theorem x4_le {a x0 x1 x2 x3 : Nat} (h : Dig4 a x0 x1 x2 x3) (j : Nat) : x4 x0 x1 x2 x3 j ≤ 65535 := by
  have := h.l0; have := h.l1; have := h.l2; have := h.l3
  unfold x4
  split
  · omega
  · split
    · omega
    · split
      · omega
      · split <;> omega
/-- A word's row of eight. -/
def row8 (x0 x1 x2 x3 : Nat) : List Nat := [x0, x1, x2, x3, 0, 0, 0, 0]
theorem row8_at {x0 x1 x2 x3 j : Nat} (hj : j < 4) : ∃ h : j < (row8 x0 x1 x2 x3).length, (row8 x0 x1 x2 x3)[j] = x4 x0 x1 x2 x3 j := by
  refine ⟨by simp [row8]; omega, ?_⟩
  match j, hj with
  | 0, _ => rfl
  | 1, _ => rfl
  | 2, _ => rfl
  | 3, _ => rfl
/-- While the products are added. -/
structure MI (bx by_ bn Y M : Nat) (x y : Nat → Nat) (i k : Nat) (w3 : World) (ns : List Nat) (wr : World) : Prop where
  len : ns.length = 8
  row : RowU wr bn ns
  cx : ∀ j, j < 4 → wr.cell? ⟨bx, j, none⟩ = some (.int .u64 (x j : Int))
  cy : ∀ j, j < 4 → wr.cell? ⟨by_, j, none⟩ = some (.int .u64 (y j : Int))
  vl : val ns = upto x i * Y + x i * 65536 ^ i * upto y k
  bd : ∀ j (h : j < ns.length), ns[j] ≤ (4 * i + k) * M
  b : Below bn w3 wr
  nx : bx < bn
  ny : by_ < bn
theorem MI.next {bx by_ bn i Y M : Nat} {x y : Nat → Nat} {w3 wr : World} {ns : List Nat} (hY : upto y 4 = Y) (h : MI bx by_ bn Y M x y i 4 w3 ns wr) : MI bx by_ bn Y M x y (i + 1) 0 w3 ns wr := by
  refine ⟨h.len, h.row, h.cx, h.cy, ?_, fun j hj => ?_, h.b, h.nx, h.ny⟩
  · rw [h.vl, hY, show upto x (i + 1) = upto x i + x i * 65536 ^ i from rfl, show upto y 0 = 0 from rfl, Nat.mul_zero, Nat.add_zero, Nat.add_mul]
  · have := h.bd j hj
    rw [show 4 * (i + 1) + 0 = 4 * i + 4 by omega]; exact this
theorem MI.step {bx by_ bn i k p j Y M : Nat} {x y : Nat → Nat} {w3 wr : World} {ns : List Nat} (h : MI bx by_ bn Y M x y i k w3 ns wr) (hj : j < ns.length) (hji : j = i + k) (hp : p = x i * y k) (hpl : p ≤ M) : MI bx by_ bn Y M x y i (k + 1) w3 (ns.set j (ns[j] + p)) (wr.setCell ⟨bn, j, none⟩ (.int .u64 ((ns[j] + p : Nat) : Int))).drew := by
  have nx := h.nx; have ny := h.ny
  refine ⟨by rw [List.length_set]; exact h.len, (h.row.set j (ns[j] + p)).drew, fun q hq => ?_, fun q hq => ?_, ?_, fun q hq => ?_, (h.b.setCell (Nat.le_refl _) _).drew, nx, ny⟩
  · exact (World.cell?_of_block (w := wr) (a := ⟨bx, q, none⟩) (Deep.blk_setCell_other wr _ _ bx (by dsimp only; omega))).trans (h.cx q hq)
  · exact (World.cell?_of_block (w := wr) (a := ⟨by_, q, none⟩) (Deep.blk_setCell_other wr _ _ by_ (by dsimp only; omega))).trans (h.cy q hq)
  · have hv := val_set ns j hj (ns[j] + p)
    have e : p * 65536 ^ j = x i * 65536 ^ i * (y k * 65536 ^ k) := by
      rw [hp, hji, Nat.pow_add]
      simp only [Nat.mul_assoc, Nat.mul_left_comm]
    rw [Nat.add_mul, h.vl, e] at hv
    rw [show upto y (k + 1) = upto y k + y k * 65536 ^ k from rfl, Nat.mul_add]
    generalize x i * 65536 ^ i * (y k * 65536 ^ k) = A at *
    generalize ns[j] * 65536 ^ j = B at *
    generalize x i * 65536 ^ i * upto y k = C at *
    generalize upto x i * Y = D at *
    omega
  · rw [List.length_set] at hq
    have h1 := h.bd q hq
    have e : (4 * i + (k + 1)) * M = (4 * i + k) * M + M := by rw [← Nat.add_assoc, Nat.add_mul, Nat.one_mul]
    rw [List.getElem_set, e]
    split
    · rename_i c; subst c; omega
    · omega
/-- While what is too great is carried on. -/
structure CI (bn V i c : Nat) (w4 : World) (ns : List Nat) (wr : World) : Prop where
  len : ns.length = 8
  row : RowU wr bn ns
  lo : ∀ j (h : j < ns.length), j < i → ns[j] < 65536
  bd : ∀ j (h : j < ns.length), ns[j] ≤ 68717379600
  cb : c ≤ 68717379600
  vl : val ns + c * 65536 ^ i = V
  b : Below bn w4 wr
theorem CI.step {bn V i c t : Nat} {w4 wr : World} {ns : List Nat} (h : CI bn V i c w4 ns wr) (hi : i < ns.length) (ht : t = ns[i] + c) : CI bn V (i + 1) (t / 65536) w4 (ns.set i (t % 65536)) ((wr.setCell ⟨bn, i, none⟩ (.int .u64 (t : Int))).setCell ⟨bn, i, none⟩ (.int .u64 ((t % 65536 : Nat) : Int))) := by
  have hb := h.bd i hi
  have hc := h.cb
  refine ⟨by rw [List.length_set]; exact h.len, ?_, fun j hj hji => ?_, fun j hj => ?_, by omega, ?_, (h.b.setCell (Nat.le_refl _) _).setCell (Nat.le_refl _) _⟩
  · have := (h.row.set i t).set i (t % 65536)
    rw [List.set_set] at this
    exact this
  · rw [List.length_set] at hj
    rw [List.getElem_set]
    split
    · omega
    · exact h.lo j hj (by omega)
  · rw [List.length_set] at hj
    rw [List.getElem_set]
    split
    · omega
    · exact h.bd j hj
  · have hv := val_set ns i hi (t % 65536)
    have h1 := h.vl
    rw [Nat.pow_succ, ← Nat.mul_assoc, Nat.mul_right_comm]
    have e : t / 65536 * 65536 * 65536 ^ i + t % 65536 * 65536 ^ i = ns[i] * 65536 ^ i + c * 65536 ^ i := by
      rw [← Nat.add_mul, ← Nat.add_mul]
      congr 1
      omega
    generalize t / 65536 * 65536 * 65536 ^ i = A at *
    generalize t % 65536 * 65536 ^ i = B at *
    generalize ns[i] * 65536 ^ i = C at *
    generalize c * 65536 ^ i = D at *
    omega
theorem CI.ends {bn V c : Nat} {w4 wr : World} {ns : List Nat} (h : CI bn V 8 c w4 ns wr) (hV : V < 340282366920938463463374607431768211456) : ns = digs 8 V := by
  have h1 := h.vl
  have hc : c = 0 := by
    rcases Nat.eq_zero_or_pos c with e | e
    · exact e
    · exfalso
      have : 1 * 65536 ^ 8 ≤ c * 65536 ^ 8 := Nat.mul_le_mul_right _ e
      have e8 : (65536 : Nat) ^ 8 = 340282366920938463463374607431768211456 := by decide
      rw [e8] at h1 this
      omega
  rw [hc, Nat.zero_mul, Nat.add_zero] at h1
  have hd := digs_of ns fun x hx => by
    obtain ⟨j, hj, rfl⟩ := List.mem_iff_getElem.1 hx
    exact h.lo j hj (by have := h.len; omega)
  rw [h.len, h1] at hd
  exact hd
set_option maxHeartbeats 3200000 in
set_option maxRecDepth 100000 in
theorem rmul_any (a b x0 x1 x2 x3 y0 y1 y2 y3 : Nat) (w : World) (ha : Dig4 a x0 x1 x2 x3) (hb : Dig4 b y0 y1 y2 y3) :
    Calls Try.prog 52 #[.int .u64 a, .int .u64 b] w fun e w' => e = .returned (numV (a * b)) ∧ Below w.heap.size w w' := by
  have HX := fun W => Lib.hid (of_any a x0 x1 x2 x3 W ha)
  have HY := fun W => Lib.hid (of_any b y0 y1 y2 y3 W hb)
  have HDA := Lib.hid ha
  have HDB := Lib.hid hb
  clear ha hb
  go_enter Try.func52, Try.ntmps52
  go_wp2_with fail
  refine (HX _).out.mono ?_
  rintro e w1 ⟨rfl, hb1⟩
  have HB1 := Lib.hid hb1
  have s1 : w.heap.size < w1.heap.size := by have := hb1.size; simp at this; omega
  clear hb1
  go_wp2_with fail
  refine (HY _).out.mono ?_
  rintro e w2 ⟨rfl, hb2⟩
  have HB2 := Lib.hid hb2
  have s2 : w1.heap.size < w2.heap.size := by have := hb2.size; simp at this; omega
  clear hb2
  have HBW : Hid (Below w.heap.size w w2) := (((Below.refl _ _).alloc (Nat.le_refl _) _).trans (HB1.out.mono (by simp))).trans (((Below.refl _ _).alloc (by omega) _).trans (HB2.out.mono (by simp; omega)))
  have HR0 : Hid (RowU w2 w.heap.size [0, 0, 0, 0, 0, 0, 0, 0]) := by
    have h1 : RowU w1 w.heap.size [0, 0, 0, 0, 0, 0, 0, 0] := (RowU.new w [0, 0, 0, 0, 0, 0, 0, 0]).below (by rw [Deep.nblk_alloc]; omega) HB1.out
    exact (h1.alloc s1 _).below (by rw [Deep.nblk_alloc]; omega) HB2.out
  have HRX : Hid (RowU w2 w1.heap.size (row8 x0 x1 x2 x3)) := (RowU.new w1 (row8 x0 x1 x2 x3)).below (by rw [Deep.nblk_alloc]; omega) HB2.out
  clear HX HY HB1 HB2
  go_wp2_with fail
  obtain ⟨M, hM⟩ : ∃ M, M = 4294836225 := ⟨_, rfl⟩
  have hMle : M ≤ 4294836225 := by omega
  have hMle' : 4294836225 ≤ M := by omega
  clear hM
  have HW4 : Hid (∀ w4, w4 = ((w2.alloc (.cells #[.int .u64 y0, .int .u64 y1, .int .u64 y2, .int .u64 y3, .int .u64 0, .int .u64 0, .int .u64 0, .int .u64 0] 78)).alloc (.cells #[.int .u64 0, .int .u64 0, .int .u64 0, .int .u64 0, .int .u64 0, .int .u64 0, .int .u64 0, .int .u64 0] 78)) → MI w1.heap.size w2.heap.size (w2.heap.size + 1) b M (x4 x0 x1 x2 x3) (x4 y0 y1 y2 y3) 0 0 w4 [0, 0, 0, 0, 0, 0, 0, 0] w4 ∧ RowU w4 w.heap.size [0, 0, 0, 0, 0, 0, 0, 0] ∧ Below w.heap.size w w4) := by
    rintro w4 rfl
    have n1 := Deep.nblk_alloc
    have hY : RowU ((w2.alloc (.cells #[.int .u64 y0, .int .u64 y1, .int .u64 y2, .int .u64 y3, .int .u64 0, .int .u64 0, .int .u64 0, .int .u64 0] 78)).alloc (.cells #[.int .u64 0, .int .u64 0, .int .u64 0, .int .u64 0, .int .u64 0, .int .u64 0, .int .u64 0, .int .u64 0] 78)) w2.heap.size (row8 y0 y1 y2 y3) := (RowU.new w2 (row8 y0 y1 y2 y3)).alloc (by rw [n1]; omega) _
    have hX : RowU ((w2.alloc (.cells #[.int .u64 y0, .int .u64 y1, .int .u64 y2, .int .u64 y3, .int .u64 0, .int .u64 0, .int .u64 0, .int .u64 0] 78)).alloc (.cells #[.int .u64 0, .int .u64 0, .int .u64 0, .int .u64 0, .int .u64 0, .int .u64 0, .int .u64 0, .int .u64 0] 78)) w1.heap.size (row8 x0 x1 x2 x3) := (HRX.out.alloc s2 _).alloc (by rw [n1]; omega) _
    have hN := RowU.new (w2.alloc (.cells #[.int .u64 y0, .int .u64 y1, .int .u64 y2, .int .u64 y3, .int .u64 0, .int .u64 0, .int .u64 0, .int .u64 0] 78)) [0, 0, 0, 0, 0, 0, 0, 0]
    rw [n1] at hN
    refine ⟨⟨rfl, hN, fun j hj => ?_, fun j hj => ?_, by simp [val, upto], fun j hj => ?_, Below.refl _ _, by omega, by omega⟩, (HR0.out.alloc (by omega) _).alloc (by rw [n1]; omega) _, (HBW.out.alloc (by omega) _).alloc (by rw [n1]; omega) _⟩
    · obtain ⟨h1, h2⟩ := row8_at (x0 := x0) (x1 := x1) (x2 := x2) (x3 := x3) hj
      rw [hX.cell h1, h2]
    · obtain ⟨h1, h2⟩ := row8_at (x0 := y0) (x1 := y1) (x2 := y2) (x3 := y3) hj
      rw [hY.cell h1, h2]
    · have : ∀ x ∈ [0, 0, 0, 0, 0, 0, 0, (0 : Nat)], x = 0 := by simp
      rw [this _ (List.getElem_mem hj)]; omega
  have HY4 : Hid (upto (x4 y0 y1 y2 y3) 4 = b) := upto4 HDB.out
  have HX4 : Hid (upto (x4 x0 x1 x2 x3) 4 = a) := upto4 HDA.out
  have HXL : Hid (∀ j, x4 x0 x1 x2 x3 j ≤ 65535) := x4_le HDA.out
  have HYL : Hid (∀ j, x4 y0 y1 y2 y3 j ≤ 65535) := x4_le HDB.out
  have HW5 := HW4.out _ rfl
  clear HW4
  generalize x4 x0 x1 x2 x3 = x at *
  generalize x4 y0 y1 y2 y3 = y at *
  generalize ((w2.alloc (.cells #[.int .u64 y0, .int .u64 y1, .int .u64 y2, .int .u64 y3, .int .u64 0, .int .u64 0, .int .u64 0, .int .u64 0] 78)).alloc (.cells #[.int .u64 0, .int .u64 0, .int .u64 0, .int .u64 0, .int .u64 0, .int .u64 0, .int .u64 0, .int .u64 0] 78)) = w4 at HW5 ⊢
  generalize hbn : w2.heap.size + 1 = bn at HW5 ⊢
  have HM0 := Lib.hid HW5.1
  have HRB := Lib.hid HW5.2
  have hwbn : w.heap.size < bn := by omega
  clear HW5 hbn
  generalize w1.heap.size = bx at *
  generalize w2.heap.size = by_ at *
  go_loopw [8, 9] (fun u _ wr => ∃ i : Nat, i ≤ 4 ∧ u = .int .i64 i ∧ ∃ ns : List Nat, Hid (MI bx by_ bn b M x y i 0 w4 ns wr)) (fun u _ _ => 4 - (intOf u).toNat)
  case atStart => exact ⟨0, by omega, rfl, _, HM0⟩
  case round =>
    clear HM0
    obtain ⟨i, hi, rfl, ns, HM⟩ := hrel
    by_cases hlt : i < 4
    · have hltz : (i : Int) < 4 := by omega
      obtain ⟨wo, rfl⟩ : ∃ wo : World, wo = wr := ⟨_, rfl⟩
      go_wp2_with fail
      go_loopw [9] (fun u wr => ∃ k : Nat, k ≤ 4 ∧ u = .int .i64 k ∧ ∃ ns : List Nat, Hid (MI bx by_ bn b M x y i k w4 ns wr)) (fun u _ => 4 - (intOf u).toNat)
      case atStart => exact ⟨0, by omega, rfl, _, HM⟩
      case round =>
        clear HM
        obtain ⟨k, hk, rfl, ns, HM⟩ := hrel
        by_cases hlt2 : k < 4
        · have hltz2 : (k : Int) < 4 := by omega
          obtain ⟨j, hj⟩ : ∃ j, j = i + k := ⟨_, rfl⟩
          have hlen := HM.out.len
          have hjl : j < ns.length := by omega
          obtain ⟨q, hq⟩ : ∃ q, q = ns[j] := ⟨_, rfl⟩
          obtain ⟨p, hp⟩ : ∃ p, p = x i * y k := ⟨_, rfl⟩
          obtain ⟨t, ht⟩ : ∃ t, t = q + p := ⟨_, rfl⟩
          have hpl : p ≤ 4294836225 := by rw [hp]; exact Nat.mul_le_mul (HXL.out i) (HYL.out k)
          have hql : q ≤ 68717379600 := by
            have h1 := HM.out.bd j hjl
            rw [hq]
            refine Nat.le_trans h1 (Nat.le_trans (Nat.mul_le_mul (show 4 * i + k ≤ 16 by omega) hMle) (by omega))
          have cx := HM.out.cx i hlt
          have cy := HM.out.cy k hlt2
          have cn := HM.out.row.cell hjl
          rw [← hq] at cn
          have fnn := HM.out.row.free j
          have HM2 : Hid (MI bx by_ bn b M x y i (k + 1) w4 (ns.set j t) (wr.setCell ⟨bn, j, none⟩ (.int .u64 (t : Int))).drew) := by
            have := HM.out.step hjl hj hp (by omega)
            rw [← hq, ← ht] at this
            exact this
          have ep : (x i : Int) * (y k : Int) = (p : Int) := by rw [hp, Int.natCast_mul]
          have et : (q : Int) + (p : Int) = (t : Int) := by omega
          have htl : t ≤ 73012215825 := by omega
          have ea : ((i : Int) + (k : Int)).toNat = j := by omega
          have pa : (0 : Int) ≤ (i : Int) + (k : Int) := by omega
          have ba : (i : Int) + (k : Int) < 8 := by omega
          have ra : IntKind.i64.wrap ((i : Int) + (k : Int)) = (i : Int) + (k : Int) := by rw [IntKind.wrap_i64]; omega
          have rp : IntKind.u64.wrap (p : Int) = (p : Int) := by rw [IntKind.wrap_u64]; omega
          have rt : IntKind.u64.wrap (t : Int) = (t : Int) := by rw [IntKind.wrap_u64]; omega
          have pi : (0 : Int) ≤ (i : Int) := by omega
          have bi : (i : Int) < 8 := by omega
          have pk : (0 : Int) ≤ (k : Int) := by omega
          have bk : (k : Int) < 8 := by omega
          clear hj hq hp ht hlen hql hpl HM hjl
          go_wp2_with fail
          go_big_region
          clear cx cy cn fnn
          generalize (wr.setCell ⟨bn, j, none⟩ (.int .u64 (t : Int))).drew = w5 at HM2 ⊢
          clear ea pa ba ra rp rt pi bi pk bk ep et
          go_wp2
          go_roundw
          case rel => exact ⟨k + 1, by omega, by go_num, _, HM2⟩
          case measure => simp [intOf]; omega
        · have hltz2 : ¬ (k : Int) < 4 := by omega
          obtain rfl : k = 4 := by omega
          have HM2 := Lib.hid (HM.out.next HY4.out)
          clear HM
          go_wp2_with fail
          go_roundw
          case rel => exact ⟨i + 1, by omega, by go_num, _, HM2⟩
          case measure => simp [intOf]; omega
    · have hltz : ¬ (i : Int) < 4 := by omega
      obtain rfl : i = 4 := by omega
      have HC0 : Hid (CI bn (a * b) 0 0 w4 ns wr) := by
        refine ⟨HM.out.len, HM.out.row, fun j _ h => by omega, fun j h => Nat.le_trans (HM.out.bd j h) (Nat.le_trans (Nat.mul_le_mul (show 4 * 4 + 0 ≤ 16 by omega) hMle) (by omega)), by omega, ?_, HM.out.b⟩
        have := HM.out.vl
        rw [HX4.out, show upto y 0 = 0 from rfl, Nat.mul_zero, Nat.add_zero] at this
        rw [this, Nat.zero_mul, Nat.add_zero]
      have HAB : Hid (a * b < 340282366920938463463374607431768211456) := by
        have h1 := HDA.out.eq; have h2 := HDA.out.l0; have h3 := HDA.out.l1; have h4 := HDA.out.l2; have h5 := HDA.out.l3
        have g1 := HDB.out.eq; have g2 := HDB.out.l0; have g3 := HDB.out.l1; have g4 := HDB.out.l2; have g5 := HDB.out.l3
        have : a * b ≤ 18446744073709551615 * 18446744073709551615 := Nat.mul_le_mul (by omega) (by omega)
        show a * b < _
        omega
      clear HM
      obtain ⟨V, hV⟩ : ∃ V, V = a * b := ⟨_, rfl⟩
      rw [← hV] at HC0 HAB
      have HV := Lib.hid hV
      clear hV
      go_wp2_with fail
      go_loopw [10, 11] (fun u v wr => ∃ i c : Nat, i ≤ 8 ∧ u = .int .u64 c ∧ v = .int .i64 i ∧ ∃ ns : List Nat, Hid (CI bn V i c w4 ns wr)) (fun _ v _ => 8 - (intOf v).toNat)
      case atStart => exact ⟨0, 0, by omega, rfl, rfl, _, HC0⟩
      case round =>
        clear HC0
        obtain ⟨i, c, hi, rfl, rfl, ns, HC⟩ := hrel
        by_cases hlt : i < 8
        · have hltz : (i : Int) < 8 := by omega
          have hil : i < ns.length := by have := HC.out.len; omega
          obtain ⟨q, hq⟩ : ∃ q, q = ns[i] := ⟨_, rfl⟩
          obtain ⟨t, ht⟩ : ∃ t, t = q + c := ⟨_, rfl⟩
          obtain ⟨m, hm⟩ : ∃ m, m = t % 65536 := ⟨_, rfl⟩
          obtain ⟨d, hd⟩ : ∃ d, d = t / 65536 := ⟨_, rfl⟩
          have hql : q ≤ 68717379600 := by rw [hq]; exact HC.out.bd i hil
          have hcl := HC.out.cb
          have cn := HC.out.row.cell hil
          rw [← hq] at cn
          have fnn := HC.out.row.free i
          have HC2 : Hid (CI bn V (i + 1) d w4 (ns.set i m) ((wr.setCell ⟨bn, i, none⟩ (.int .u64 (t : Int))).setCell ⟨bn, i, none⟩ (.int .u64 (m : Int)))) := by
            have := HC.out.step hil (t := t) (by rw [← hq]; exact ht)
            rw [← hm, ← hd] at this
            exact this
          have et : (q : Int) + (c : Int) = (t : Int) := by omega
          have ed : (t : Int) / 65536 = (d : Int) := by omega
          have em : bits .and .u64 (t : Int) 65535 = (m : Int) := by rw [hm]; exact mask16 t (by omega)
          have htl : t ≤ 137434759200 := by omega
          have hrow2 := Lib.hid (HC.out.row.set i t)
          have cn2 : (wr.setCell ⟨bn, i, none⟩ (.int .u64 (t : Int))).cell? ⟨bn, i, none⟩ = some (.int .u64 (t : Int)) := by
            rw [hrow2.out.cell (by rw [List.length_set]; exact hil), List.getElem_set, if_pos rfl]
          have fn2 : (wr.setCell ⟨bn, i, none⟩ (.int .u64 (t : Int))).frozen? ⟨bn, i, none⟩ = false := hrow2.out.free i
          clear hq ht hm hd hql hcl HC hil
          go_wp2_with fail
          go_roundw
          case rel => exact ⟨i + 1, d, by omega, by first | rfl | go_num, by go_num, _, HC2⟩
          case measure => simp [intOf]; omega
        · have hltz : ¬ (i : Int) < 8 := by omega
          obtain rfl : i = 8 := by omega
          have hns := HC.out.ends HAB.out
          subst hns
          have HROW := HC.out.row
          have HRES := HRB.out.1.below hwbn HC.out.b
          have HBB : Hid (Below w.heap.size w wr) := HRB.out.2.trans (HC.out.b.mono (by omega))
          clear HC
          have lit : digs 8 V = [V % 65536, V / 65536 % 65536, V / 4294967296 % 65536, V / 281474976710656 % 65536, V / 18446744073709551616 % 65536, V / 1208925819614629174706176 % 65536, V / 79228162514264337593543950336 % 65536, V / 5192296858534827628530496329220096 % 65536] := by
            simp only [digs, Nat.div_div_eq_div_mul]
          obtain ⟨n0, n1, n2, n3, n4, n5, n6, n7, hlit, hnv⟩ : ∃ n0 n1 n2 n3 n4 n5 n6 n7 : Nat, digs 8 V = [n0, n1, n2, n3, n4, n5, n6, n7] ∧ numV V = .agg #[.int .u64 (n0 : Int), .int .u64 (n1 : Int), .int .u64 (n2 : Int), .int .u64 (n3 : Int), .int .u64 (n4 : Int), .int .u64 (n5 : Int), .int .u64 (n6 : Int), .int .u64 (n7 : Int)] := ⟨_, _, _, _, _, _, _, _, lit, rfl⟩
          have HNV := Lib.hid hnv
          rw [hlit] at HROW
          clear hlit hnv lit
          have a0 := HROW.cell (i := 0) (by simp)
          have a1 := HROW.cell (i := 1) (by simp)
          have a2 := HROW.cell (i := 2) (by simp)
          have a3 := HROW.cell (i := 3) (by simp)
          have a4 := HROW.cell (i := 4) (by simp)
          have a5 := HROW.cell (i := 5) (by simp)
          have a6 := HROW.cell (i := 6) (by simp)
          have a7 := HROW.cell (i := 7) (by simp)
          simp only [List.getElem_cons_zero, List.getElem_cons_succ] at a0 a1 a2 a3 a4 a5 a6 a7
          have r0 := HRES.cell (i := 0) (by simp)
          have r1 := HRES.cell (i := 1) (by simp)
          have r2 := HRES.cell (i := 2) (by simp)
          have r3 := HRES.cell (i := 3) (by simp)
          have r4 := HRES.cell (i := 4) (by simp)
          have r5 := HRES.cell (i := 5) (by simp)
          have r6 := HRES.cell (i := 6) (by simp)
          have r7 := HRES.cell (i := 7) (by simp)
          have g0 := HRES.free 0
          have g1 := HRES.free 1
          have g2 := HRES.free 2
          have g3 := HRES.free 3
          have g4 := HRES.free 4
          have g5 := HRES.free 5
          have g6 := HRES.free 6
          have g7 := HRES.free 7
          have HRESH := Lib.hid HRES
          clear HROW HRES
          go_wp2_with fail
          exact bodyPost_ret (v := .agg #[.int .u64 (n0 : Int), .int .u64 (n1 : Int), .int .u64 (n2 : Int), .int .u64 (n3 : Int), .int .u64 (n4 : Int), .int .u64 (n5 : Int), .int .u64 (n6 : Int), .int .u64 (n7 : Int)]) (by simp [results, Try.results52, go_sem, r0, r1, r2, r3, r4, r5, r6, r7]) rfl ⟨by rw [← HV.out, HNV.out], (((((((HBB.out.setCell (Nat.le_refl _) _).setCell (Nat.le_refl _) _).setCell (Nat.le_refl _) _).setCell (Nat.le_refl _) _).setCell (Nat.le_refl _) _).setCell (Nat.le_refl _) _).setCell (Nat.le_refl _) _).setCell (Nat.le_refl _) _⟩
end Go.Proofs.Ytblplkajgbbkdaa
