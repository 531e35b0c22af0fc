/-
  Several texts in one: Rf2a, Rf2b, Rf2c, Rf3, Rf3b.
-/
import Derived.Test.YtglpnpjjjihghaaMgD
import Derived.LoopN
import Derived.RegionTactic
import Derived.BigRegion
import Derived.Deep.LoopGhost
import Derived.Test.YtglpnpjjjihghaaRef01D
import Derived.Maps.AppendAt
import Derived.OneCell
/-
  The digits of a number; what complineref02.Of comes to, over this seat's translation: a contract for callers.
-/
namespace Go.Proofs.Ytglpnpjjjihghaa
open Go.RowKit Go.Lib

/-- The digits of a number, the lowest first. -/
def digs : Nat → Nat → List Nat
  | 0, _ => []
  | n + 1, v => v % 65536 :: digs n (v / 65536)
theorem digs_len : ∀ n v, (digs n v).length = n
  | 0, _ => rfl
  | n + 1, v => by simp [digs, digs_len n]
theorem digs_at : ∀ {n v j : Nat} (h : j < (digs n v).length), (digs n v)[j] = v / 65536 ^ j % 65536
  | 0, _, _, h => by simp [digs] at h
  | n + 1, v, 0, _ => by simp [digs]
  | n + 1, v, j + 1, h => by
    have ih := digs_at (n := n) (v := v / 65536) (j := j) (by simpa [digs] using h)
    simp only [digs, List.getElem_cons_succ]
    rw [ih, Nat.div_div_eq_div_mul, Nat.pow_succ, Nat.mul_comm]
/-- What digits are worth. -/
def val : List Nat → Nat
  | [] => 0
  | x :: xs => x + 65536 * val xs
theorem digs_of : ∀ (ns : List Nat), (∀ x ∈ ns, x < 65536) → ns = digs ns.length (val ns)
  | [], _ => rfl
  | x :: xs, h => by
    have h1 := h x (by simp)
    have ih := digs_of xs fun y hy => h y (by simp [hy])
    simp only [List.length_cons, digs, val]
    have e1 : (x + 65536 * val xs) % 65536 = x := by omega
    have e2 : (x + 65536 * val xs) / 65536 = val xs := by omega
    rw [e1, e2, ← ih]
/-- A number of eight digits, as a value. -/
def numV (v : Nat) : Value := .agg #[.int .u64 ((v % 65536 : Nat) : Int), .int .u64 ((v / 65536 % 65536 : Nat) : Int), .int .u64 ((v / 4294967296 % 65536 : Nat) : Int), .int .u64 ((v / 281474976710656 % 65536 : Nat) : Int), .int .u64 ((v / 18446744073709551616 % 65536 : Nat) : Int), .int .u64 ((v / 1208925819614629174706176 % 65536 : Nat) : Int), .int .u64 ((v / 79228162514264337593543950336 % 65536 : Nat) : Int), .int .u64 ((v / 5192296858534827628530496329220096 % 65536 : Nat) : Int)]
theorem mask16 (a : Nat) (ha : a < 18446744073709551616) : bits .and .u64 (a : Int) 65535 = ((a % 65536 : Nat) : Int) := by
  have h := bits_and_u64_nat a 65535 ha (by omega)
  have e : a &&& 65535 = a % 65536 := Nat.and_two_pow_sub_one_eq_mod a 16
  rw [e] at h
  exact h
/-- The four digits of a word. -/
structure Dig4 (a x0 x1 x2 x3 : Nat) : Prop where
  k0 : bits .and .u64 (a : Int) 65535 = (x0 : Int)
  k1 : bits .and .u64 ((a : Int) / 65536) 65535 = (x1 : Int)
  k2 : bits .and .u64 ((a : Int) / 4294967296) 65535 = (x2 : Int)
  k3 : bits .and .u64 ((a : Int) / 281474976710656) 65535 = (x3 : Int)
  l0 : x0 ≤ 65535
  l1 : x1 ≤ 65535
  l2 : x2 ≤ 65535
  l3 : x3 ≤ 65535
  eq : a = x0 + 65536 * x1 + 4294967296 * x2 + 281474976710656 * x3
theorem dig4 (a : Nat) (h : a < 18446744073709551616) : Dig4 a (a % 65536) (a / 65536 % 65536) (a / 4294967296 % 65536) (a / 281474976710656 % 65536) := by
  refine ⟨mask16 a h, ?_, ?_, ?_, by omega, by omega, by omega, by omega, by omega⟩
  · rw [show (a : Int) / 65536 = ((a / 65536 : Nat) : Int) by omega]; exact mask16 _ (by omega)
  · rw [show (a : Int) / 4294967296 = ((a / 4294967296 : Nat) : Int) by omega]; exact mask16 _ (by omega)
  · rw [show (a : Int) / 281474976710656 = ((a / 281474976710656 : Nat) : Int) by omega]; exact mask16 _ (by omega)
set_option maxHeartbeats 1600000 in
set_option maxRecDepth 100000 in
theorem of_any (a x0 x1 x2 x3 : Nat) (w : World) (hd : Dig4 a x0 x1 x2 x3) :
    Calls Try.prog 122 #[.int .u64 0, .int .u64 a] w fun e w' => e = .returned (.agg #[.int .u64 x0, .int .u64 x1, .int .u64 x2, .int .u64 x3, .int .u64 0, .int .u64 0, .int .u64 0, .int .u64 0]) ∧ Below w.heap.size w w' := by
  have k0 := hd.k0
  have k1 := hd.k1
  have k2 := hd.k2
  have k3 := hd.k3
  have kz : bits .and .u64 0 65535 = 0 := by decide
  clear hd
  go_enter Try.func122, Try.ntmps122
  go_wp2_with fail
  refine wp_loop_rounds 5 ?_
  rw [rounds_succ]
  go_wp2_with fail
  rw [rounds_succ]
  go_wp2_with fail
  rw [rounds_succ]
  go_wp2_with fail
  rw [rounds_succ]
  go_wp2_with fail
  rw [rounds_succ]
  go_wp2_with fail
  exact bodyPost_ret (v := .agg #[.int .u64 x0, .int .u64 x1, .int .u64 x2, .int .u64 x3, .int .u64 0, .int .u64 0, .int .u64 0, .int .u64 0]) (by simp [results, Try.results122, go_sem]) rfl ⟨rfl, ((Below.refl _ _).alloc (Nat.le_refl _) _).alloc (by simp) _⟩
end Go.Proofs.Ytglpnpjjjihghaa

/-
  What complineref02.Mul comes to, over this seat's translation: a contract for callers.
-/
namespace Go.Proofs.Ytglpnpjjjihghaa
open Go.RowKit Go.Lib Go.Sort

theorem val_set : ∀ (ns : List Nat) (j : Nat) (hj : j < ns.length) (t : Nat), val (ns.set j t) + ns[j] * 65536 ^ j = val ns + t * 65536 ^ j
  | [], _, hj, _ => by simp at hj
  | x :: xs, 0, _, t => by simp [val]; omega
  | x :: xs, j + 1, hj, t => by
    have ih := val_set xs j (by simpa using hj) t
    simp only [List.set_cons_succ, val, List.getElem_cons_succ, Nat.pow_succ]
    rw [← Nat.mul_assoc, ← Nat.mul_assoc]
    omega
theorem val_lt : ∀ (ns : List Nat), (∀ x ∈ ns, x < 65536) → val ns < 65536 ^ ns.length
  | [], _ => by simp [val]
  | x :: xs, h => by
    have h1 := h x (by simp)
    have ih := val_lt xs fun y hy => h y (by simp [hy])
    simp only [List.length_cons, val, Nat.pow_succ]
    omega
/-- A block is a row of words. -/
def RowU (w : World) (b : Nat) (ns : List Nat) : Prop := w.heap[b]? = some (.cells (ns.map fun (n : Nat) => Value.int .u64 (n : Int)).toArray 153 (0, 0))
section
variable {w w' : World} {b B : Nat} {ns : List Nat}
theorem RowU.cell (h : RowU w b ns) {i : Nat} (hi : i < ns.length) : w.cell? ⟨b, i, none⟩ = some (.int .u64 (ns[i] : Int)) := by
  rw [cell_of_row w b i _ 153 (0, 0) h]
  simp [hi]
theorem RowU.free (h : RowU w b ns) (i : Nat) : w.frozen? ⟨b, i, none⟩ = false := frozen_of_row w b i _ 153 h
theorem RowU.of_block (h : RowU w b ns) (e : w'.heap[b]? = w.heap[b]?) : RowU w' b ns := e.trans h
theorem RowU.drew (h : RowU w b ns) : RowU w.drew b ns := h
theorem RowU.set (h : RowU w b ns) (i : Nat) (v : Nat) : RowU (w.setCell ⟨b, i, none⟩ (.int .u64 (v : Int))) b (ns.set i v) := by
  unfold RowU at *
  rw [setCell_eq, mapBlock, Array.getElem?_modify, if_pos rfl, h]
  simp [onCells, List.map_set]
theorem RowU.new (w : World) (ns : List Nat) : RowU (w.alloc (.cells (ns.map fun (n : Nat) => Value.int .u64 (n : Int)).toArray 153)) w.heap.size ns := heap_alloc_new w _
theorem RowU.other (h : RowU w b ns) {a : Addr} (v : Value) (hne : b ≠ a.block) : RowU (w.setCell a v) b ns := h.of_block (Deep.blk_setCell_other w a v b hne)
theorem RowU.alloc (h : RowU w b ns) (hb : b < w.heap.size) (o : Obj) : RowU (w.alloc o) b ns := h.of_block (Deep.blk_alloc_lt w o b hb)
theorem RowU.below (h : RowU w b ns) (hb : b < B) (k : Below B w w') : RowU w' b ns := h.of_block (k.block b hb)
end
/-- The first digits' worth. -/
def upto (x : Nat → Nat) : Nat → Nat
  | 0 => 0
  | k + 1 => upto x k + x k * 65536 ^ k
def x4 (x0 x1 x2 x3 : Nat) : Nat → Nat := fun j => if j = 0 then x0 else if j = 1 then x1 else if j = 2 then x2 else if j = 3 then x3 else 0
theorem upto4 {a x0 x1 x2 x3 : Nat} (h : Dig4 a x0 x1 x2 x3) : upto (x4 x0 x1 x2 x3) 4 = a := by
  have := h.eq
  simp [upto, x4]
  omega
theorem x4_le {a x0 x1 x2 x3 : Nat} (h : Dig4 a x0 x1 x2 x3) (j : Nat) : x4 x0 x1 x2 x3 j ≤ 65535 := by
  have := h.l0; have := h.l1; have := h.l2; have := h.l3
  unfold x4
  split
  · omega
  · split
    · omega
    · split
      · omega
      · split <;> omega
/-- A word's row of eight. -/
def row8 (x0 x1 x2 x3 : Nat) : List Nat := [x0, x1, x2, x3, 0, 0, 0, 0]
theorem row8_at {x0 x1 x2 x3 j : Nat} (hj : j < 4) : ∃ h : j < (row8 x0 x1 x2 x3).length, (row8 x0 x1 x2 x3)[j] = x4 x0 x1 x2 x3 j := by
  refine ⟨by simp [row8]; omega, ?_⟩
  match j, hj with
  | 0, _ => rfl
  | 1, _ => rfl
  | 2, _ => rfl
  | 3, _ => rfl
/-- While the products are added. -/
structure MI (bx by_ bn Y M : Nat) (x y : Nat → Nat) (i k : Nat) (w3 : World) (ns : List Nat) (wr : World) : Prop where
  len : ns.length = 8
  row : RowU wr bn ns
  cx : ∀ j, j < 4 → wr.cell? ⟨bx, j, none⟩ = some (.int .u64 (x j : Int))
  cy : ∀ j, j < 4 → wr.cell? ⟨by_, j, none⟩ = some (.int .u64 (y j : Int))
  vl : val ns = upto x i * Y + x i * 65536 ^ i * upto y k
  bd : ∀ j (h : j < ns.length), ns[j] ≤ (4 * i + k) * M
  b : Below bn w3 wr
  nx : bx < bn
  ny : by_ < bn
theorem MI.next {bx by_ bn i Y M : Nat} {x y : Nat → Nat} {w3 wr : World} {ns : List Nat} (hY : upto y 4 = Y) (h : MI bx by_ bn Y M x y i 4 w3 ns wr) : MI bx by_ bn Y M x y (i + 1) 0 w3 ns wr := by
  refine ⟨h.len, h.row, h.cx, h.cy, ?_, fun j hj => ?_, h.b, h.nx, h.ny⟩
  · rw [h.vl, hY, show upto x (i + 1) = upto x i + x i * 65536 ^ i from rfl, show upto y 0 = 0 from rfl, Nat.mul_zero, Nat.add_zero, Nat.add_mul]
  · have := h.bd j hj
    rw [show 4 * (i + 1) + 0 = 4 * i + 4 by omega]; exact this
theorem MI.step {bx by_ bn i k p j Y M : Nat} {x y : Nat → Nat} {w3 wr : World} {ns : List Nat} (h : MI bx by_ bn Y M x y i k w3 ns wr) (hj : j < ns.length) (hji : j = i + k) (hp : p = x i * y k) (hpl : p ≤ M) : MI bx by_ bn Y M x y i (k + 1) w3 (ns.set j (ns[j] + p)) (wr.setCell ⟨bn, j, none⟩ (.int .u64 ((ns[j] + p : Nat) : Int))).drew := by
  have nx := h.nx; have ny := h.ny
  refine ⟨by rw [List.length_set]; exact h.len, (h.row.set j (ns[j] + p)).drew, fun q hq => ?_, fun q hq => ?_, ?_, fun q hq => ?_, (h.b.setCell (Nat.le_refl _) _).drew, nx, ny⟩
  · exact (World.cell?_of_block (w := wr) (a := ⟨bx, q, none⟩) (Deep.blk_setCell_other wr _ _ bx (by dsimp only; omega))).trans (h.cx q hq)
  · exact (World.cell?_of_block (w := wr) (a := ⟨by_, q, none⟩) (Deep.blk_setCell_other wr _ _ by_ (by dsimp only; omega))).trans (h.cy q hq)
  · have hv := val_set ns j hj (ns[j] + p)
    have e : p * 65536 ^ j = x i * 65536 ^ i * (y k * 65536 ^ k) := by
      rw [hp, hji, Nat.pow_add]
      simp only [Nat.mul_assoc, Nat.mul_left_comm]
    rw [Nat.add_mul, h.vl, e] at hv
    rw [show upto y (k + 1) = upto y k + y k * 65536 ^ k from rfl, Nat.mul_add]
    generalize x i * 65536 ^ i * (y k * 65536 ^ k) = A at *
    generalize ns[j] * 65536 ^ j = B at *
    generalize x i * 65536 ^ i * upto y k = C at *
    generalize upto x i * Y = D at *
    omega
  · rw [List.length_set] at hq
    have h1 := h.bd q hq
    have e : (4 * i + (k + 1)) * M = (4 * i + k) * M + M := by rw [← Nat.add_assoc, Nat.add_mul, Nat.one_mul]
    rw [List.getElem_set, e]
    split
    · rename_i c; subst c; omega
    · omega
/-- While what is too great is carried on. -/
structure CI (bn V i c : Nat) (w4 : World) (ns : List Nat) (wr : World) : Prop where
  len : ns.length = 8
  row : RowU wr bn ns
  lo : ∀ j (h : j < ns.length), j < i → ns[j] < 65536
  bd : ∀ j (h : j < ns.length), ns[j] ≤ 68717379600
  cb : c ≤ 68717379600
  vl : val ns + c * 65536 ^ i = V
  b : Below bn w4 wr
theorem CI.step {bn V i c t : Nat} {w4 wr : World} {ns : List Nat} (h : CI bn V i c w4 ns wr) (hi : i < ns.length) (ht : t = ns[i] + c) : CI bn V (i + 1) (t / 65536) w4 (ns.set i (t % 65536)) ((wr.setCell ⟨bn, i, none⟩ (.int .u64 (t : Int))).setCell ⟨bn, i, none⟩ (.int .u64 ((t % 65536 : Nat) : Int))) := by
  have hb := h.bd i hi
  have hc := h.cb
  refine ⟨by rw [List.length_set]; exact h.len, ?_, fun j hj hji => ?_, fun j hj => ?_, by omega, ?_, (h.b.setCell (Nat.le_refl _) _).setCell (Nat.le_refl _) _⟩
  · have := (h.row.set i t).set i (t % 65536)
    rw [List.set_set] at this
    exact this
  · rw [List.length_set] at hj
    rw [List.getElem_set]
    split
    · omega
    · exact h.lo j hj (by omega)
  · rw [List.length_set] at hj
    rw [List.getElem_set]
    split
    · omega
    · exact h.bd j hj
  · have hv := val_set ns i hi (t % 65536)
    have h1 := h.vl
    rw [Nat.pow_succ, ← Nat.mul_assoc, Nat.mul_right_comm]
    have e : t / 65536 * 65536 * 65536 ^ i + t % 65536 * 65536 ^ i = ns[i] * 65536 ^ i + c * 65536 ^ i := by
      rw [← Nat.add_mul, ← Nat.add_mul]
      congr 1
      omega
    generalize t / 65536 * 65536 * 65536 ^ i = A at *
    generalize t % 65536 * 65536 ^ i = B at *
    generalize ns[i] * 65536 ^ i = C at *
    generalize c * 65536 ^ i = D at *
    omega
theorem CI.ends {bn V c : Nat} {w4 wr : World} {ns : List Nat} (h : CI bn V 8 c w4 ns wr) (hV : V < 340282366920938463463374607431768211456) : ns = digs 8 V := by
  have h1 := h.vl
  have hc : c = 0 := by
    rcases Nat.eq_zero_or_pos c with e | e
    · exact e
    · exfalso
      have : 1 * 65536 ^ 8 ≤ c * 65536 ^ 8 := Nat.mul_le_mul_right _ e
      have e8 : (65536 : Nat) ^ 8 = 340282366920938463463374607431768211456 := by decide
      rw [e8] at h1 this
      omega
  rw [hc, Nat.zero_mul, Nat.add_zero] at h1
  have hd := digs_of ns fun x hx => by
    obtain ⟨j, hj, rfl⟩ := List.mem_iff_getElem.1 hx
    exact h.lo j hj (by have := h.len; omega)
  rw [h.len, h1] at hd
  exact hd
set_option maxHeartbeats 3200000 in
set_option maxRecDepth 100000 in
theorem rmul_any (a b x0 x1 x2 x3 y0 y1 y2 y3 : Nat) (w : World) (ha : Dig4 a x0 x1 x2 x3) (hb : Dig4 b y0 y1 y2 y3) :
    Calls Try.prog 105 #[.int .u64 a, .int .u64 b] w fun e w' => e = .returned (numV (a * b)) ∧ Below w.heap.size w w' := by
  have HX := fun W => Lib.hid (of_any a x0 x1 x2 x3 W ha)
  have HY := fun W => Lib.hid (of_any b y0 y1 y2 y3 W hb)
  have HDA := Lib.hid ha
  have HDB := Lib.hid hb
  clear ha hb
  go_enter Try.func105, Try.ntmps105
  go_wp2_with fail
  refine (HX _).out.mono ?_
  rintro e w1 ⟨rfl, hb1⟩
  have HB1 := Lib.hid hb1
  have s1 : w.heap.size < w1.heap.size := by have := hb1.size; simp at this; omega
  clear hb1
  go_wp2_with fail
  refine (HY _).out.mono ?_
  rintro e w2 ⟨rfl, hb2⟩
  have HB2 := Lib.hid hb2
  have s2 : w1.heap.size < w2.heap.size := by have := hb2.size; simp at this; omega
  clear hb2
  have HBW : Hid (Below w.heap.size w w2) := (((Below.refl _ _).alloc (Nat.le_refl _) _).trans (HB1.out.mono (by simp))).trans (((Below.refl _ _).alloc (by omega) _).trans (HB2.out.mono (by simp; omega)))
  have HR0 : Hid (RowU w2 w.heap.size [0, 0, 0, 0, 0, 0, 0, 0]) := by
    have h1 : RowU w1 w.heap.size [0, 0, 0, 0, 0, 0, 0, 0] := (RowU.new w [0, 0, 0, 0, 0, 0, 0, 0]).below (by rw [Deep.nblk_alloc]; omega) HB1.out
    exact (h1.alloc s1 _).below (by rw [Deep.nblk_alloc]; omega) HB2.out
  have HRX : Hid (RowU w2 w1.heap.size (row8 x0 x1 x2 x3)) := (RowU.new w1 (row8 x0 x1 x2 x3)).below (by rw [Deep.nblk_alloc]; omega) HB2.out
  clear HX HY HB1 HB2
  go_wp2_with fail
  obtain ⟨M, hM⟩ : ∃ M, M = 4294836225 := ⟨_, rfl⟩
  have hMle : M ≤ 4294836225 := by omega
  have hMle' : 4294836225 ≤ M := by omega
  clear hM
  have HW4 : Hid (∀ w4, w4 = ((w2.alloc (.cells #[.int .u64 y0, .int .u64 y1, .int .u64 y2, .int .u64 y3, .int .u64 0, .int .u64 0, .int .u64 0, .int .u64 0] 153)).alloc (.cells #[.int .u64 0, .int .u64 0, .int .u64 0, .int .u64 0, .int .u64 0, .int .u64 0, .int .u64 0, .int .u64 0] 153)) → MI w1.heap.size w2.heap.size (w2.heap.size + 1) b M (x4 x0 x1 x2 x3) (x4 y0 y1 y2 y3) 0 0 w4 [0, 0, 0, 0, 0, 0, 0, 0] w4 ∧ RowU w4 w.heap.size [0, 0, 0, 0, 0, 0, 0, 0] ∧ Below w.heap.size w w4) := by
    rintro w4 rfl
    have n1 := Deep.nblk_alloc
    have hY : RowU ((w2.alloc (.cells #[.int .u64 y0, .int .u64 y1, .int .u64 y2, .int .u64 y3, .int .u64 0, .int .u64 0, .int .u64 0, .int .u64 0] 153)).alloc (.cells #[.int .u64 0, .int .u64 0, .int .u64 0, .int .u64 0, .int .u64 0, .int .u64 0, .int .u64 0, .int .u64 0] 153)) w2.heap.size (row8 y0 y1 y2 y3) := (RowU.new w2 (row8 y0 y1 y2 y3)).alloc (by rw [n1]; omega) _
    have hX : RowU ((w2.alloc (.cells #[.int .u64 y0, .int .u64 y1, .int .u64 y2, .int .u64 y3, .int .u64 0, .int .u64 0, .int .u64 0, .int .u64 0] 153)).alloc (.cells #[.int .u64 0, .int .u64 0, .int .u64 0, .int .u64 0, .int .u64 0, .int .u64 0, .int .u64 0, .int .u64 0] 153)) w1.heap.size (row8 x0 x1 x2 x3) := (HRX.out.alloc s2 _).alloc (by rw [n1]; omega) _
    have hN := RowU.new (w2.alloc (.cells #[.int .u64 y0, .int .u64 y1, .int .u64 y2, .int .u64 y3, .int .u64 0, .int .u64 0, .int .u64 0, .int .u64 0] 153)) [0, 0, 0, 0, 0, 0, 0, 0]
    rw [n1] at hN
    refine ⟨⟨rfl, hN, fun j hj => ?_, fun j hj => ?_, by simp [val, upto], fun j hj => ?_, Below.refl _ _, by omega, by omega⟩, (HR0.out.alloc (by omega) _).alloc (by rw [n1]; omega) _, (HBW.out.alloc (by omega) _).alloc (by rw [n1]; omega) _⟩
    · obtain ⟨h1, h2⟩ := row8_at (x0 := x0) (x1 := x1) (x2 := x2) (x3 := x3) hj
      rw [hX.cell h1, h2]
    · obtain ⟨h1, h2⟩ := row8_at (x0 := y0) (x1 := y1) (x2 := y2) (x3 := y3) hj
      rw [hY.cell h1, h2]
    · have : ∀ x ∈ [0, 0, 0, 0, 0, 0, 0, (0 : Nat)], x = 0 := by simp
      rw [this _ (List.getElem_mem hj)]; omega
  have HY4 : Hid (upto (x4 y0 y1 y2 y3) 4 = b) := upto4 HDB.out
  have HX4 : Hid (upto (x4 x0 x1 x2 x3) 4 = a) := upto4 HDA.out
  have HXL : Hid (∀ j, x4 x0 x1 x2 x3 j ≤ 65535) := x4_le HDA.out
  have HYL : Hid (∀ j, x4 y0 y1 y2 y3 j ≤ 65535) := x4_le HDB.out
  have HW5 := HW4.out _ rfl
  clear HW4
  generalize x4 x0 x1 x2 x3 = x at *
  generalize x4 y0 y1 y2 y3 = y at *
  generalize ((w2.alloc (.cells #[.int .u64 y0, .int .u64 y1, .int .u64 y2, .int .u64 y3, .int .u64 0, .int .u64 0, .int .u64 0, .int .u64 0] 153)).alloc (.cells #[.int .u64 0, .int .u64 0, .int .u64 0, .int .u64 0, .int .u64 0, .int .u64 0, .int .u64 0, .int .u64 0] 153)) = w4 at HW5 ⊢
  generalize hbn : w2.heap.size + 1 = bn at HW5 ⊢
  have HM0 := Lib.hid HW5.1
  have HRB := Lib.hid HW5.2
  have hwbn : w.heap.size < bn := by omega
  clear HW5 hbn
  generalize w1.heap.size = bx at *
  generalize w2.heap.size = by_ at *
  go_loopw [8, 9] (fun u _ wr => ∃ i : Nat, i ≤ 4 ∧ u = .int .i64 i ∧ ∃ ns : List Nat, Hid (MI bx by_ bn b M x y i 0 w4 ns wr)) (fun u _ _ => 4 - (intOf u).toNat)
  case atStart => exact ⟨0, by omega, rfl, _, HM0⟩
  case round =>
    clear HM0
    obtain ⟨i, hi, rfl, ns, HM⟩ := hrel
    by_cases hlt : i < 4
    · have hltz : (i : Int) < 4 := by omega
      obtain ⟨wo, rfl⟩ : ∃ wo : World, wo = wr := ⟨_, rfl⟩
      go_wp2_with fail
      go_loopw [9] (fun u wr => ∃ k : Nat, k ≤ 4 ∧ u = .int .i64 k ∧ ∃ ns : List Nat, Hid (MI bx by_ bn b M x y i k w4 ns wr)) (fun u _ => 4 - (intOf u).toNat)
      case atStart => exact ⟨0, by omega, rfl, _, HM⟩
      case round =>
        clear HM
        obtain ⟨k, hk, rfl, ns, HM⟩ := hrel
        by_cases hlt2 : k < 4
        · have hltz2 : (k : Int) < 4 := by omega
          obtain ⟨j, hj⟩ : ∃ j, j = i + k := ⟨_, rfl⟩
          have hlen := HM.out.len
          have hjl : j < ns.length := by omega
          obtain ⟨q, hq⟩ : ∃ q, q = ns[j] := ⟨_, rfl⟩
          obtain ⟨p, hp⟩ : ∃ p, p = x i * y k := ⟨_, rfl⟩
          obtain ⟨t, ht⟩ : ∃ t, t = q + p := ⟨_, rfl⟩
          have hpl : p ≤ 4294836225 := by rw [hp]; exact Nat.mul_le_mul (HXL.out i) (HYL.out k)
          have hql : q ≤ 68717379600 := by
            have h1 := HM.out.bd j hjl
            rw [hq]
            refine Nat.le_trans h1 (Nat.le_trans (Nat.mul_le_mul (show 4 * i + k ≤ 16 by omega) hMle) (by omega))
          have cx := HM.out.cx i hlt
          have cy := HM.out.cy k hlt2
          have cn := HM.out.row.cell hjl
          rw [← hq] at cn
          have fnn := HM.out.row.free j
          have HM2 : Hid (MI bx by_ bn b M x y i (k + 1) w4 (ns.set j t) (wr.setCell ⟨bn, j, none⟩ (.int .u64 (t : Int))).drew) := by
            have := HM.out.step hjl hj hp (by omega)
            rw [← hq, ← ht] at this
            exact this
          have ep : (x i : Int) * (y k : Int) = (p : Int) := by rw [hp, Int.natCast_mul]
          have et : (q : Int) + (p : Int) = (t : Int) := by omega
          have htl : t ≤ 73012215825 := by omega
          have ea : ((i : Int) + (k : Int)).toNat = j := by omega
          have pa : (0 : Int) ≤ (i : Int) + (k : Int) := by omega
          have ba : (i : Int) + (k : Int) < 8 := by omega
          have ra : IntKind.i64.wrap ((i : Int) + (k : Int)) = (i : Int) + (k : Int) := by rw [IntKind.wrap_i64]; omega
          have rp : IntKind.u64.wrap (p : Int) = (p : Int) := by rw [IntKind.wrap_u64]; omega
          have rt : IntKind.u64.wrap (t : Int) = (t : Int) := by rw [IntKind.wrap_u64]; omega
          have pi : (0 : Int) ≤ (i : Int) := by omega
          have bi : (i : Int) < 8 := by omega
          have pk : (0 : Int) ≤ (k : Int) := by omega
          have bk : (k : Int) < 8 := by omega
          clear hj hq hp ht hlen hql hpl HM hjl
          go_wp2_with fail
          go_big_region
          clear cx cy cn fnn
          generalize (wr.setCell ⟨bn, j, none⟩ (.int .u64 (t : Int))).drew = w5 at HM2 ⊢
          clear ea pa ba ra rp rt pi bi pk bk ep et
          go_wp2
          go_roundw
          case rel => exact ⟨k + 1, by omega, by go_num, _, HM2⟩
          case measure => simp [intOf]; omega
        · have hltz2 : ¬ (k : Int) < 4 := by omega
          obtain rfl : k = 4 := by omega
          have HM2 := Lib.hid (HM.out.next HY4.out)
          clear HM
          go_wp2_with fail
          go_roundw
          case rel => exact ⟨i + 1, by omega, by go_num, _, HM2⟩
          case measure => simp [intOf]; omega
    · have hltz : ¬ (i : Int) < 4 := by omega
      obtain rfl : i = 4 := by omega
      have HC0 : Hid (CI bn (a * b) 0 0 w4 ns wr) := by
        refine ⟨HM.out.len, HM.out.row, fun j _ h => by omega, fun j h => Nat.le_trans (HM.out.bd j h) (Nat.le_trans (Nat.mul_le_mul (show 4 * 4 + 0 ≤ 16 by omega) hMle) (by omega)), by omega, ?_, HM.out.b⟩
        have := HM.out.vl
        rw [HX4.out, show upto y 0 = 0 from rfl, Nat.mul_zero, Nat.add_zero] at this
        rw [this, Nat.zero_mul, Nat.add_zero]
      have HAB : Hid (a * b < 340282366920938463463374607431768211456) := by
        have h1 := HDA.out.eq; have h2 := HDA.out.l0; have h3 := HDA.out.l1; have h4 := HDA.out.l2; have h5 := HDA.out.l3
        have g1 := HDB.out.eq; have g2 := HDB.out.l0; have g3 := HDB.out.l1; have g4 := HDB.out.l2; have g5 := HDB.out.l3
        have : a * b ≤ 18446744073709551615 * 18446744073709551615 := Nat.mul_le_mul (by omega) (by omega)
        show a * b < _
        omega
      clear HM
      obtain ⟨V, hV⟩ : ∃ V, V = a * b := ⟨_, rfl⟩
      rw [← hV] at HC0 HAB
      have HV := Lib.hid hV
      clear hV
      go_wp2_with fail
      go_loopw [10, 11] (fun u v wr => ∃ i c : Nat, i ≤ 8 ∧ u = .int .u64 c ∧ v = .int .i64 i ∧ ∃ ns : List Nat, Hid (CI bn V i c w4 ns wr)) (fun _ v _ => 8 - (intOf v).toNat)
      case atStart => exact ⟨0, 0, by omega, rfl, rfl, _, HC0⟩
      case round =>
        clear HC0
        obtain ⟨i, c, hi, rfl, rfl, ns, HC⟩ := hrel
        by_cases hlt : i < 8
        · have hltz : (i : Int) < 8 := by omega
          have hil : i < ns.length := by have := HC.out.len; omega
          obtain ⟨q, hq⟩ : ∃ q, q = ns[i] := ⟨_, rfl⟩
          obtain ⟨t, ht⟩ : ∃ t, t = q + c := ⟨_, rfl⟩
          obtain ⟨m, hm⟩ : ∃ m, m = t % 65536 := ⟨_, rfl⟩
          obtain ⟨d, hd⟩ : ∃ d, d = t / 65536 := ⟨_, rfl⟩
          have hql : q ≤ 68717379600 := by rw [hq]; exact HC.out.bd i hil
          have hcl := HC.out.cb
          have cn := HC.out.row.cell hil
          rw [← hq] at cn
          have fnn := HC.out.row.free i
          have HC2 : Hid (CI bn V (i + 1) d w4 (ns.set i m) ((wr.setCell ⟨bn, i, none⟩ (.int .u64 (t : Int))).setCell ⟨bn, i, none⟩ (.int .u64 (m : Int)))) := by
            have := HC.out.step hil (t := t) (by rw [← hq]; exact ht)
            rw [← hm, ← hd] at this
            exact this
          have et : (q : Int) + (c : Int) = (t : Int) := by omega
          have ed : (t : Int) / 65536 = (d : Int) := by omega
          have em : bits .and .u64 (t : Int) 65535 = (m : Int) := by rw [hm]; exact mask16 t (by omega)
          have htl : t ≤ 137434759200 := by omega
          have hrow2 := Lib.hid (HC.out.row.set i t)
          have cn2 : (wr.setCell ⟨bn, i, none⟩ (.int .u64 (t : Int))).cell? ⟨bn, i, none⟩ = some (.int .u64 (t : Int)) := by
            rw [hrow2.out.cell (by rw [List.length_set]; exact hil), List.getElem_set, if_pos rfl]
          have fn2 : (wr.setCell ⟨bn, i, none⟩ (.int .u64 (t : Int))).frozen? ⟨bn, i, none⟩ = false := hrow2.out.free i
          clear hq ht hm hd hql hcl HC hil
          go_wp2_with fail
          go_roundw
          case rel => exact ⟨i + 1, d, by omega, by first | rfl | go_num, by go_num, _, HC2⟩
          case measure => simp [intOf]; omega
        · have hltz : ¬ (i : Int) < 8 := by omega
          obtain rfl : i = 8 := by omega
          have hns := HC.out.ends HAB.out
          subst hns
          have HROW := HC.out.row
          have HRES := HRB.out.1.below hwbn HC.out.b
          have HBB : Hid (Below w.heap.size w wr) := HRB.out.2.trans (HC.out.b.mono (by omega))
          clear HC
          have lit : digs 8 V = [V % 65536, V / 65536 % 65536, V / 4294967296 % 65536, V / 281474976710656 % 65536, V / 18446744073709551616 % 65536, V / 1208925819614629174706176 % 65536, V / 79228162514264337593543950336 % 65536, V / 5192296858534827628530496329220096 % 65536] := by
            simp only [digs, Nat.div_div_eq_div_mul]
          obtain ⟨n0, n1, n2, n3, n4, n5, n6, n7, hlit, hnv⟩ : ∃ n0 n1 n2 n3 n4 n5 n6 n7 : Nat, digs 8 V = [n0, n1, n2, n3, n4, n5, n6, n7] ∧ numV V = .agg #[.int .u64 (n0 : Int), .int .u64 (n1 : Int), .int .u64 (n2 : Int), .int .u64 (n3 : Int), .int .u64 (n4 : Int), .int .u64 (n5 : Int), .int .u64 (n6 : Int), .int .u64 (n7 : Int)] := ⟨_, _, _, _, _, _, _, _, lit, rfl⟩
          have HNV := Lib.hid hnv
          rw [hlit] at HROW
          clear hlit hnv lit
          have a0 := HROW.cell (i := 0) (by simp)
          have a1 := HROW.cell (i := 1) (by simp)
          have a2 := HROW.cell (i := 2) (by simp)
          have a3 := HROW.cell (i := 3) (by simp)
          have a4 := HROW.cell (i := 4) (by simp)
          have a5 := HROW.cell (i := 5) (by simp)
          have a6 := HROW.cell (i := 6) (by simp)
          have a7 := HROW.cell (i := 7) (by simp)
          simp only [List.getElem_cons_zero, List.getElem_cons_succ] at a0 a1 a2 a3 a4 a5 a6 a7
          have r0 := HRES.cell (i := 0) (by simp)
          have r1 := HRES.cell (i := 1) (by simp)
          have r2 := HRES.cell (i := 2) (by simp)
          have r3 := HRES.cell (i := 3) (by simp)
          have r4 := HRES.cell (i := 4) (by simp)
          have r5 := HRES.cell (i := 5) (by simp)
          have r6 := HRES.cell (i := 6) (by simp)
          have r7 := HRES.cell (i := 7) (by simp)
          have g0 := HRES.free 0
          have g1 := HRES.free 1
          have g2 := HRES.free 2
          have g3 := HRES.free 3
          have g4 := HRES.free 4
          have g5 := HRES.free 5
          have g6 := HRES.free 6
          have g7 := HRES.free 7
          have HRESH := Lib.hid HRES
          clear HROW HRES
          go_wp2_with fail
          exact bodyPost_ret (v := .agg #[.int .u64 (n0 : Int), .int .u64 (n1 : Int), .int .u64 (n2 : Int), .int .u64 (n3 : Int), .int .u64 (n4 : Int), .int .u64 (n5 : Int), .int .u64 (n6 : Int), .int .u64 (n7 : Int)]) (by simp [results, Try.results105, go_sem, r0, r1, r2, r3, r4, r5, r6, r7]) rfl ⟨by rw [← HV.out, HNV.out], (((((((HBB.out.setCell (Nat.le_refl _) _).setCell (Nat.le_refl _) _).setCell (Nat.le_refl _) _).setCell (Nat.le_refl _) _).setCell (Nat.le_refl _) _).setCell (Nat.le_refl _) _).setCell (Nat.le_refl _) _).setCell (Nat.le_refl _) _⟩
end Go.Proofs.Ytglpnpjjjihghaa

/-
  What complineref02.Div comes to, over this seat's translation: a contract for callers.
-/
namespace Go.Proofs.Ytglpnpjjjihghaa
open Go.RowKit Go.Lib Go.Sort

theorem bit_of (v im : Nat) : v / 65536 ^ (im / 16) % 65536 / 2 ^ (im % 16) % 2 = v / 2 ^ im % 2 := by
  have hs : im % 16 < 16 := Nat.mod_lt _ (by omega)
  have e1 : (65536 : Nat) = 2 ^ (im % 16) * 2 ^ (16 - im % 16) := by
    rw [← Nat.pow_add, show im % 16 + (16 - im % 16) = 16 by omega]
  have e2 : v / 65536 ^ (im / 16) % 65536 / 2 ^ (im % 16) = v / 65536 ^ (im / 16) / 2 ^ (im % 16) % 2 ^ (16 - im % 16) := by
    conv => lhs; arg 1; arg 2; rw [e1]
    exact Nat.mod_mul_right_div_self _ _ _
  have hd : 2 ∣ 2 ^ (16 - im % 16) := ⟨2 ^ (15 - im % 16), by rw [← Nat.pow_succ']; congr 1; omega⟩
  rw [e2, Nat.mod_mod_of_dvd _ hd, Nat.div_div_eq_div_mul]
  congr 2
  have e3 : (65536 : Nat) = 2 ^ 16 := rfl
  rw [e3, ← Nat.pow_mul, ← Nat.pow_add]
  congr 1
  omega
theorem half_of (v im : Nat) : v / 2 ^ im = 2 * (v / 2 ^ (im + 1)) + v / 2 ^ im % 2 := by
  rw [Nat.pow_succ, ← Nat.div_div_eq_div_mul]
  omega
/-- One bit more. -/
theorem bit_step {X c bt : Nat} (hc : 0 < c) (hb : bt < 2) :
    (c ≤ X % c * 2 + bt → (2 * X + bt) / c = X / c * 2 + 1 ∧ (2 * X + bt) % c = X % c * 2 + bt - c) ∧ (¬ c ≤ X % c * 2 + bt → (2 * X + bt) / c = X / c * 2 ∧ (2 * X + bt) % c = X % c * 2 + bt) := by
  have h := Nat.div_add_mod X c
  have hr := Nat.mod_lt X hc
  generalize X / c = q at *
  generalize X % c = r at *
  constructor
  · intro h1
    have e9 : c * (q * 2 + 1) = 2 * (c * q) + c := by rw [Nat.mul_add, Nat.mul_one, ← Nat.mul_assoc, Nat.mul_comm (c * q)]
    have e : 2 * X + bt = c * (q * 2 + 1) + (r * 2 + bt - c) := by
      rw [e9]
      generalize c * q = a at *
      omega
    rw [e]
    refine ⟨?_, ?_⟩
    · rw [Nat.mul_add_div hc, Nat.div_eq_of_lt (by omega), Nat.add_zero]
    · rw [Nat.mul_add_mod, Nat.mod_eq_of_lt (by omega)]
  · intro h1
    have e9 : c * (q * 2) = 2 * (c * q) := by rw [← Nat.mul_assoc, Nat.mul_comm (c * q)]
    have e : 2 * X + bt = c * (q * 2) + (r * 2 + bt) := by
      rw [e9]
      generalize c * q = a at *
      omega
    rw [e]
    refine ⟨?_, ?_⟩
    · rw [Nat.mul_add_div hc, Nat.div_eq_of_lt (by omega), Nat.add_zero]
    · rw [Nat.mul_add_mod, Nat.mod_eq_of_lt (by omega)]
theorem quo_small {v c m : Nat} (hq : v / c < 18446744073709551616) : v / 2 ^ (m + 1) / c < 9223372036854775808 := by
  rw [Nat.div_div_eq_div_mul, Nat.mul_comm, ← Nat.div_div_eq_div_mul]
  have h1 : v / c / 2 ^ (m + 1) ≤ v / c / 2 := Nat.div_le_div_left (by rw [Nat.pow_succ]; have := Nat.pow_pos (n := m) (show 0 < 2 by omega); omega) (by omega)
  omega
/-- The state of a division, m bits to go. -/
def DS (v c m q r : Nat) : Prop := q = v / 2 ^ m / c ∧ r = v / 2 ^ m % c
set_option maxHeartbeats 3200000 in
set_option maxRecDepth 100000 in
theorem rdiv_walk (v c n0 n1 n2 n3 n4 n5 n6 n7 : Nat) (w : World) (hn : digs 8 v = [n0, n1, n2, n3, n4, n5, n6, n7]) (hc : 0 < c) (hc2 : c < 9223372036854775808) (hq : v / c < 18446744073709551616) (hv : v < 340282366920938463463374607431768211456) :
    Calls Try.prog 104 #[.agg #[.int .u64 (n0 : Int), .int .u64 (n1 : Int), .int .u64 (n2 : Int), .int .u64 (n3 : Int), .int .u64 (n4 : Int), .int .u64 (n5 : Int), .int .u64 (n6 : Int), .int .u64 (n7 : Int)], .int .u64 c] w fun e w' => e = .returned (.tuple #[.int .u64 ((v / c : Nat) : Int), .int .u64 ((v % c : Nat) : Int), .int .i64 0]) ∧ Below w.heap.size w w' := by
  have HN := Lib.hid hn
  have HQ := Lib.hid hq
  have HV := Lib.hid hv
  obtain ⟨D, hD⟩ : ∃ D, D = v / c := ⟨_, rfl⟩
  obtain ⟨R, hR⟩ : ∃ R, R = v % c := ⟨_, rfl⟩
  rw [← hD, ← hR]
  have HD := Lib.hid hD
  have HR := Lib.hid hR
  clear hn hq hv hD hR
  have z1 : ((c : Int) == 0) = false := by rw [beq_eq_false_iff_ne]; omega
  go_enter Try.func104, Try.ntmps104
  go_wp2_with fail
  have HROW : Hid (RowU (w.alloc (.cells #[.int .u64 (n0 : Int), .int .u64 (n1 : Int), .int .u64 (n2 : Int), .int .u64 (n3 : Int), .int .u64 (n4 : Int), .int .u64 (n5 : Int), .int .u64 (n6 : Int), .int .u64 (n7 : Int)] 153)) w.heap.size (digs 8 v)) := by
    rw [HN.out]
    exact RowU.new w [n0, n1, n2, n3, n4, n5, n6, n7]
  have HBW : Hid (Below w.heap.size w (w.alloc (.cells #[.int .u64 (n0 : Int), .int .u64 (n1 : Int), .int .u64 (n2 : Int), .int .u64 (n3 : Int), .int .u64 (n4 : Int), .int .u64 (n5 : Int), .int .u64 (n6 : Int), .int .u64 (n7 : Int)] 153))) := (Below.refl _ _).alloc (Nat.le_refl _) _
  generalize w.alloc (.cells #[.int .u64 (n0 : Int), .int .u64 (n1 : Int), .int .u64 (n2 : Int), .int .u64 (n3 : Int), .int .u64 (n4 : Int), .int .u64 (n5 : Int), .int .u64 (n6 : Int), .int .u64 (n7 : Int)] 153) = w4 at HROW HBW ⊢
  go_loopw [7, 8, 9, 10, 11] (fun s7 s8 s9 _ _ wr => ∃ m q r : Nat, m ≤ 128 ∧ s9 = .int .i64 ((m : Int) - 1) ∧ s7 = .int .u64 q ∧ s8 = .int .u64 r ∧ Hid (DS v c m q r) ∧ wr = w4) (fun _ _ i _ _ _ => (intOf i + 1).toNat)
  case atStart =>
    refine ⟨128, 0, 0, by omega, rfl, rfl, rfl, ?_, rfl⟩
    have e : v / 2 ^ 128 = 0 := Nat.div_eq_of_lt HV.out
    exact ⟨by rw [e]; simp, by rw [e]; simp⟩
  case round =>
    obtain ⟨m, q, r, hm, rfl, rfl, rfl, HS, rfl⟩ := hrel
    by_cases h0 : m = 0
    · subst h0
      have hq' : q = D := by rw [HS.out.1, HD.out]; simp
      have hr' : r = R := by rw [HS.out.2, HR.out]; simp
      subst hq' hr'
      clear HS HD HR
      go_wp2_with fail
      go_ret3
      exact ⟨rfl, HBW.out⟩
    · obtain ⟨im, rfl⟩ : ∃ im, m = im + 1 := ⟨m - 1, by omega⟩
      rw [show (((im + 1 : Nat) : Int) - 1) = (im : Int) by omega]
      obtain ⟨j, hj⟩ : ∃ j, j = im / 16 := ⟨_, rfl⟩
      obtain ⟨s, hs⟩ : ∃ s, s = im % 16 := ⟨_, rfl⟩
      have hj8 : j < (digs 8 v).length := by rw [digs_len]; omega
      obtain ⟨nj, hnj⟩ : ∃ nj, nj = (digs 8 v)[j] := ⟨_, rfl⟩
      have cj := HROW.out.cell hj8
      rw [← hnj] at cj
      obtain ⟨z, hz⟩ : ∃ z, z = nj / 2 ^ s := ⟨_, rfl⟩
      obtain ⟨bt, hbt⟩ : ∃ bt, bt = z % 2 := ⟨_, rfl⟩
      have hbv : bt = v / 2 ^ im % 2 := by rw [hbt, hz, hnj, digs_at, hj, hs]; exact bit_of v im
      have hb2 : bt < 2 := by omega
      have HBS := Lib.hid (bit_step (X := v / 2 ^ (im + 1)) (c := c) (bt := bt) hc hb2)
      have hHalf := half_of v im
      rw [← hbv] at hHalf
      rw [← hHalf, ← HS.out.1, ← HS.out.2] at HBS
      have hrc : r < c := by rw [HS.out.2]; exact Nat.mod_lt _ hc
      have hq63 : q < 9223372036854775808 := by rw [HS.out.1]; exact quo_small HQ.out
      have ej : (im : Int) / 16 = (j : Int) := by omega
      have es : (im : Int) % 16 = (s : Int) := by omega
      have hs16 : s < 16 := by omega
      have ez : (nj : Int) / 2 ^ s = (z : Int) := by rw [hz, Int.natCast_ediv, Int.natCast_pow]; rfl
      have hnl : nj < 65536 := by rw [hnj, digs_at]; exact Nat.mod_lt _ (by omega)
      have hzl : z < 65536 := by rw [hz]; exact Nat.lt_of_le_of_lt (Nat.div_le_self _ _) hnl
      have eb : bits .and .u64 (z : Int) 1 = (bt : Int) := by
        have h := bits_and_u64_nat z 1 (by omega) (by omega)
        rw [Nat.and_one_is_mod, ← hbt] at h
        exact h
      have er : (r : Int) / 9223372036854775808 = 0 := by omega
      have eq63 : (q : Int) / 9223372036854775808 = 0 := by omega
      have him : im ≤ 127 := by omega
      have hj8' : j < 8 := by omega
      clear hj hs hnj hz hbt hbv hHalf hj8 HS
      by_cases hcc : c ≤ r * 2 + bt
      · obtain ⟨r2, hr2⟩ : ∃ r2, r2 = r * 2 + bt - c := ⟨_, rfl⟩
        have hds : Hid (DS v c im (q * 2 + 1) r2) := ⟨(HBS.out.1 hcc).1.symm, by rw [hr2]; exact (HBS.out.1 hcc).2.symm⟩
        have e2 : (r : Int) * 2 + (bt : Int) - (c : Int) = (r2 : Int) := by omega
        have hcz : (c : Int) ≤ (r : Int) * 2 + (bt : Int) := by omega
        have hr2b : r2 < c := by omega
        clear HBS hr2
        go_wp2_with fail
        go_roundw
        case rel => exact ⟨im, q * 2 + 1, r2, by omega, rfl, by first | rfl | go_num, by first | rfl | go_num, hds, by first | rfl | trivial⟩
        case measure => simp [intOf]
      · have hds : Hid (DS v c im (q * 2) (r * 2 + bt)) := ⟨(HBS.out.2 hcc).1.symm, (HBS.out.2 hcc).2.symm⟩
        have hcz : ¬ (c : Int) ≤ (r : Int) * 2 + (bt : Int) := by omega
        clear HBS
        go_wp2_with fail
        go_roundw
        case rel => exact ⟨im, q * 2, r * 2 + bt, by omega, rfl, by first | rfl | go_num, by first | rfl | go_num, hds, by first | rfl | trivial⟩
        case measure => simp [intOf]
theorem numV_digs (v : Nat) : ∃ n0 n1 n2 n3 n4 n5 n6 n7 : Nat, digs 8 v = [n0, n1, n2, n3, n4, n5, n6, n7] ∧ numV v = .agg #[.int .u64 (n0 : Int), .int .u64 (n1 : Int), .int .u64 (n2 : Int), .int .u64 (n3 : Int), .int .u64 (n4 : Int), .int .u64 (n5 : Int), .int .u64 (n6 : Int), .int .u64 (n7 : Int)] :=
  ⟨_, _, _, _, _, _, _, _, by simp only [digs, Nat.div_div_eq_div_mul], rfl⟩
theorem rdiv_any (v c : Nat) (w : World) (hc : 0 < c) (hc2 : c < 9223372036854775808) (hq : v / c < 18446744073709551616) (hv : v < 340282366920938463463374607431768211456) :
    Calls Try.prog 104 #[numV v, .int .u64 c] w fun e w' => e = .returned (.tuple #[.int .u64 ((v / c : Nat) : Int), .int .u64 ((v % c : Nat) : Int), .int .i64 0]) ∧ Below w.heap.size w w' := by
  obtain ⟨n0, n1, n2, n3, n4, n5, n6, n7, h1, h2⟩ := numV_digs v
  rw [h2]
  exact rdiv_walk v c n0 n1 n2 n3 n4 n5 n6 n7 w h1 hc hc2 hq hv
theorem rmul_num (a b : Nat) (w : World) (ha : a < 18446744073709551616) (hb : b < 18446744073709551616) :
    Calls Try.prog 105 #[.int .u64 a, .int .u64 b] w fun e w' => e = .returned (numV (a * b)) ∧ Below w.heap.size w w' := rmul_any a b _ _ _ _ _ _ _ _ w (dig4 a ha) (dig4 b hb)
set_option maxHeartbeats 800000 in
theorem rquota_any (T wt S : Nat) (w : World) (hT : T < 9223372036854775808) (hw : wt ≤ S) (h0 : 0 < S) (hS : S < 9223372036854775808) :
    Calls Try.prog 97 #[.int .i64 T, .int .i64 wt, .int .i64 S] w fun e w' => e = .returned (.tuple #[.int .i64 ((T * wt / S : Nat) : Int), .int .i64 ((T * wt % S : Nat) : Int)]) ∧ Below w.heap.size w w' := by
  have hq : T * wt / S ≤ T := by
    have := Nat.div_le_div_right (c := S) (Nat.mul_le_mul_left T hw)
    rw [Nat.mul_div_cancel _ h0] at this
    exact this
  have hr : T * wt % S < S := Nat.mod_lt _ h0
  have hm : T * wt ≤ 9223372036854775807 * 9223372036854775807 := Nat.mul_le_mul (by omega) (by omega)
  have HC := fun W => Lib.hid (rmul_num T wt W (by omega) (by omega))
  have HD := fun W => Lib.hid (rdiv_any (T * wt) S W h0 hS (by omega) (by omega))
  clear hm
  generalize T * wt / S = D at *
  generalize T * wt % S = M at *
  generalize numV (T * wt) = V at *
  have z3 : (0 : Int) ≤ (T : Int) := by omega
  go_enter Try.func97, Try.ntmps97
  go_wp2_with fail
  refine (HC _).out.mono ?_
  rintro e w1 ⟨rfl, hb1⟩
  have HB := Lib.hid hb1
  clear hb1
  go_wp2_with fail
  refine (HD _).out.mono ?_
  rintro e w2 ⟨rfl, hb2⟩
  have HB2 := Lib.hid (HB.out.trans (hb2.mono HB.out.size))
  clear hb2
  go_wp2_with fail
  go_ret2
  exact ⟨rfl, HB2.out⟩
end Go.Proofs.Ytglpnpjjjihghaa

/-
  What complineref03.Wrong, Same and Apportion come to, over this seat's translation: contracts for callers.
-/
namespace Go.Proofs.Ytglpnpjjjihghaa
open Go.RowKit Go.Lib Go.Sort Go.Proofs.Ytglpnpjjjihghaa.StableLaw Go.Proofs.Ytglpnpjjjihghaa.ShareLaw

set_option maxHeartbeats 1600000 in
theorem wrong_any (T : Int) (l : List Int) (A : Option Addr) (c : Nat) (w : World) (hl : ∀ x ∈ l, I64 x) (hs : Seg w w.heap.size A (l.map (Value.int .i64))) (hn : l.length ≤ maxLen) :
    Calls Try.prog 76 #[.int .i64 T, .slice A l.length c] w fun e w' => e = .returned (.tuple #[.int .i64 (chkV T l), .int .i64 (chkE T l)]) ∧ w = w' := by
  unfold maxLen at hn
  by_cases h1 : 1024 < l.length
  · have e1 : chkV T l = 0 := by unfold chkV; rw [if_pos h1]
    have e2 : chkE T l = 6 := by unfold chkE; rw [if_pos h1]
    rw [e1, e2]
    clear hl hs e1 e2
    go_enter Try.func76, Try.ntmps76
    go_wp2_with fail
    go_ret2
    exact ⟨rfl, rfl⟩
  · have h1' : l.length ≤ 1024 := by omega
    by_cases h2 : T < 0
    · have e1 : chkV T l = 0 := by unfold chkV; rw [if_neg h1, if_pos (.inl h2)]
      have e2 : chkE T l = 1 := by unfold chkE; rw [if_neg h1, if_pos (.inl h2)]
      rw [e1, e2]
      clear hl hs e1 e2
      go_enter Try.func76, Try.ntmps76
      go_wp2_with fail
      go_ret2
      exact ⟨rfl, rfl⟩
    · have HS := Lib.hid hs
      have HD := Lib.hid (refsum_any l A c w hl hs (by omega))
      clear hl hs
      have HYES : Hid (negB l = true → chkV T l = 0 ∧ chkE T l = 1) := fun h3 => ⟨by unfold chkV; rw [if_neg h1, if_pos (.inr h3)], by unfold chkE; rw [if_neg h1, if_pos (.inr h3)]⟩
      have HNO : Hid (negB l = false → chkV T l = amtV (sumI l) ∧ chkE T l = amtE (sumI l)) := fun h3 => ⟨by unfold chkV; rw [if_neg h1, if_neg (by simp [h2, h3])], by unfold chkE; rw [if_neg h1, if_neg (by simp [h2, h3])]⟩
      go_enter Try.func76, Try.ntmps76
      go_wp2_with fail
      go_loop [6] (fun i => ∃ k : Nat, k ≤ l.length ∧ i = .int .i64 k ∧ Hid (∀ j (hj : j < l.length), j < k → 0 ≤ l[j])) (fun i => l.length - (intOf i).toNat)
      case atStart => exact ⟨0, Nat.zero_le _, rfl, fun j _ h => by omega⟩
      case round =>
        obtain ⟨k, hk, rfl, HP⟩ := hrel
        by_cases hlt : k < l.length
        · obtain ⟨b, o, rfl, hb, hc⟩ := HS.out.at (k := k) (by simpa using hlt)
          rw [List.getElem_map] at hc
          by_cases hx : l[k] < 0
          · have HT := Lib.hid (HYES.out (negB_true hlt hx))
            go_wp2_with fail
            go_ret2
            exact ⟨by rw [HT.out.1, HT.out.2]; rfl, rfl⟩
          · have HP2 : Hid (∀ j (hj : j < l.length), j < k + 1 → 0 ≤ l[j]) := by
              intro j hj hjk
              by_cases e : j = k
              · subst e; omega
              · exact HP.out j hj (by omega)
            go_wp2_with fail
            go_round
            case rel => exact ⟨k + 1, by omega, by go_num, HP2⟩
            case measure => simp [intOf]; omega
        · have HT := Lib.hid (HNO.out (negB_of fun j hj => by have := HP.out j hj (by omega); omega))
          go_wp2_with fail
          refine HD.out.mono ?_
          rintro e w' ⟨rfl, rfl⟩
          go_wp2_with fail
          go_ret2
          exact ⟨by rw [HT.out.1, HT.out.2]; rfl, rfl⟩
set_option maxHeartbeats 1600000 in
theorem same_any (l m : List Int) (A B : Option Addr) (c d : Nat) (w : World) (hs : Seg w w.heap.size A (l.map (Value.int .i64))) (ht : Seg w w.heap.size B (m.map (Value.int .i64))) (hn : l.length ≤ 1000000) (he : l = m) :
    Calls Try.prog 31 #[.slice A l.length c, .slice B m.length d] w fun e w' => e = .returned (.bool true) ∧ Below w.heap.size w w' := by
  subst he
  have HS := Lib.hid hs
  have HT := Lib.hid ht
  clear hs ht
  go_enter Try.func31, Try.ntmps31
  go_wp2_with fail
  go_loopw [5] (fun i wr => ∃ k : Nat, k ≤ l.length ∧ i = .int .i64 k ∧ Hid (Below w.heap.size w wr)) (fun i _ => l.length - (intOf i).toNat)
  case atStart => exact ⟨0, Nat.zero_le _, rfl, Below.refl _ _⟩
  case round =>
    obtain ⟨k, hk, rfl, HB⟩ := hrel
    by_cases hlt : k < l.length
    · obtain ⟨b, o, rfl, hb, hc⟩ := (HS.out.below HB.out).at (k := k) (by simpa using hlt)
      obtain ⟨b', o', rfl, hb', hc'⟩ := (HT.out.below HB.out).at (k := k) (by simpa using hlt)
      rw [List.getElem_map] at hc hc'
      generalize l[k] = y at *
      have i1 : (0 : Int) ≤ (k : Int) := by omega
      have i2 : (k : Int) < (l.length : Int) := by omega
      go_wp2_with fail
      go_quiet (fail)
      have HB2 := Lib.hid (below_drewN HB.out nq)
      clear hc hc' HB
      generalize wr.drewN nq = w2 at HB2 ⊢
      go_wp2_with fail
      go_roundw
      case rel => exact ⟨k + 1, by omega, by go_num, HB2⟩
      case measure => simp [intOf]; omega
    · go_wp2_with fail
      go_ret
      exact ⟨rfl, HB.out⟩
end Go.Proofs.Ytglpnpjjjihghaa

/-
  What complineref03.Apportion comes to, over this seat's translation: a contract for callers.
-/
namespace Go.Proofs.Ytglpnpjjjihghaa
open Go.RowKit Go.Lib Go.Sort Go.Proofs.Ytglpnpjjjihghaa.StableLaw Go.Proofs.Ytglpnpjjjihghaa.ShareLaw

/-- Two rows of one's own. -/
structure Two2 (w : World) (u v : Value) (n : Nat) (ps rs : List Int) (wr : World) : Prop where
  p : wr.ownsRow w.heap.size 2 1 u n (ps.map (Value.int .i64))
  r : wr.ownsRow w.heap.size 2 1 v n (rs.map (Value.int .i64))
  ne : ∀ k, u.ownBlock = some k → v.ownBlock = some k → False
  b : Below w.heap.size w wr
section
variable {w wr w' : World} {u v u' : Value} {n : Nat} {ps rs : List Int}
theorem Two2.start (w : World) : Two2 w (.slice none 0 0) (.slice none 0 0) 0 [] [] w := ⟨World.ownsRow_nil _ _ _ _, World.ownsRow_nil _ _ _ _, fun k h => (by cases h), Below.refl _ _⟩
theorem Two2.below (h : Two2 w u v n ps rs wr) (hb : Below wr.heap.size wr w') : Two2 w u v n ps rs w' := by
  have hg : wr.grownBy w' none := ⟨hb.os, hb.tape, hb.output, hb.size, fun k hk _ => hb.block k hk⟩
  have key : ∀ x : Value, x.ownBlock = none ∨ x.ownBlock ≠ none := fun x => by
    cases x.ownBlock <;> simp
  exact ⟨h.p.kept hg (key u), h.r.kept hg (key v), h.ne, h.b.trans (hb.mono h.b.size)⟩
theorem apart {v : Value} {row : Option Nat} (hne : ∀ k, row = some k → v.ownBlock = some k → False) : v.ownBlock = none ∨ v.ownBlock ≠ row := by
  cases hv : v.ownBlock with
  | none => exact .inl rfl
  | some k => exact .inr fun e => hne k e.symm hv
/-- The first row has grown. -/
theorem Two2.first (h : Two2 w u v n ps rs wr) {x : Int} {o : Obj} (h1 : w'.ownsRow w.heap.size 2 1 u' (n + 1) (ps.map (Value.int .i64) ++ [.int .i64 x])) (hg : (wr.alloc o).grownBy w' u.ownBlock) (hb : u'.ownBlock = u.ownBlock ∨ u'.ownBlock = some (wr.heap.size + 1)) :
    w'.ownsRow w.heap.size 2 1 u' (n + 1) ((ps ++ [x]).map (Value.int .i64)) ∧ w'.ownsRow w.heap.size 2 1 v n (rs.map (Value.int .i64)) ∧ (∀ k, u'.ownBlock = some k → v.ownBlock = some k → False) ∧ Below w.heap.size w w' := by
  refine ⟨by rw [List.map_append]; exact h1, (h.r.alloc o).kept hg (apart fun k a b => h.ne k a b), fun k a b => ?_, (h.b.alloc h.b.size o).grown hg (by rw [Deep.nblk_alloc]; have := h.b.size; omega) (fun k hk => (h.p.lt k hk).1)⟩
  rcases hb with e | e
  · exact h.ne k (e ▸ a) b
  · rw [e] at a
    injection a with a
    have := (h.r.lt k b).2
    omega
theorem Two2.second {y : Int} {o : Obj} {v' : Value} {w1 : World} (h : w1.ownsRow w.heap.size 2 1 u (n + 1) (ps.map (Value.int .i64)) ∧ w1.ownsRow w.heap.size 2 1 v n (rs.map (Value.int .i64)) ∧ (∀ k, u.ownBlock = some k → v.ownBlock = some k → False) ∧ Below w.heap.size w w1) (h1 : w'.ownsRow w.heap.size 2 1 v' (n + 1) (rs.map (Value.int .i64) ++ [.int .i64 y])) (hg : (w1.alloc o).grownBy w' v.ownBlock) (hb : v'.ownBlock = v.ownBlock ∨ v'.ownBlock = some (w1.heap.size + 1)) :
    Two2 w u v' (n + 1) ps (rs ++ [y]) w' := by
  obtain ⟨hp, hr, hne, hB⟩ := h
  refine ⟨(hp.alloc o).kept hg (apart fun k a b => hne k b a), by rw [List.map_append]; exact h1, fun k a b => ?_, (hB.alloc hB.size o).grown hg (by rw [Deep.nblk_alloc]; have := hB.size; omega) (fun k hk => (hr.lt k hk).1)⟩
  rcases hb with e | e
  · exact hne k a (e ▸ b)
  · rw [e] at b
    injection b with b
    have := (hp.lt k a).2
    omega
end
/-- The first places of a row. -/
theorem rowF_snoc (k : Nat) (f : Nat → Int) : rowF (k + 1) f = rowF k f ++ [f k] := by simp [rowF, List.range_succ]
theorem rquotaI_any (T S : Int) (W : Nat → Int) (i : Nat) (w : World) (hT0 : 0 ≤ T) (hT : T ≤ 9223372036854775807) (hw0 : 0 ≤ W i) (hw : W i ≤ S) (h0 : 0 < S) (hS : S ≤ 9223372036854775807) :
    Calls Try.prog 97 #[.int .i64 T, .int .i64 (W i), .int .i64 S] w fun e w' => e = .returned (.tuple #[.int .i64 (quo T S W i), .int .i64 (rst T S W i)]) ∧ Below w.heap.size w w' := by
  unfold quo rst
  generalize W i = u at *
  obtain ⟨Tn, rfl⟩ := Int.eq_ofNat_of_zero_le hT0
  obtain ⟨un, rfl⟩ := Int.eq_ofNat_of_zero_le hw0
  obtain ⟨Sn, rfl⟩ := Int.eq_ofNat_of_zero_le (show 0 ≤ S by omega)
  refine (rquota_any Tn un Sn w (by omega) (by omega) (by omega) (by omega)).mono ?_
  rintro e w' ⟨rfl, hb⟩
  refine ⟨?_, hb⟩
  rw [Int.natCast_ediv, Int.natCast_emod, Int.natCast_mul]
section
variable {T S : Int} {W : Nat → Int} {n : Nat}
/-- The rests, once t of what is left were given. -/
def restT (T S : Int) (W : Nat → Int) (n t : Nat) (i : Nat) : Int := if rk (rst T S W) n i < t then -1 else rst T S W i
theorem part_set {t j : Nat} (hj : j < n) (hr : rk (rst T S W) n j = t) : (rowF n (partT T S W n t)).set j (quo T S W j + 1) = rowF n (partT T S W n (t + 1)) := by
  rw [rowF_set]
  refine rowF_congr fun i hi => ?_
  by_cases c : i = j
  · rw [if_pos c, c]; unfold partT; rw [if_pos (by omega)]
  · rw [if_neg c]
    have hne : rk (rst T S W) n i ≠ t := fun e => c (rk_inj hi hj (e.trans hr.symm))
    unfold partT
    by_cases c2 : rk (rst T S W) n i < t
    · rw [if_pos c2, if_pos (by omega)]
    · rw [if_neg c2, if_neg (by omega)]
theorem rest_set {t j : Nat} (hj : j < n) (hr : rk (rst T S W) n j = t) : (rowF n (restT T S W n t)).set j (-1) = rowF n (restT T S W n (t + 1)) := by
  rw [rowF_set]
  refine rowF_congr fun i hi => ?_
  by_cases c : i = j
  · rw [if_pos c, c]; unfold restT; rw [if_pos (by omega)]
  · rw [if_neg c]
    have hne : rk (rst T S W) n i ≠ t := fun e => c (rk_inj hi hj (e.trans hr.symm))
    unfold restT
    by_cases c2 : rk (rst T S W) n i < t
    · rw [if_pos c2, if_pos (by omega)]
    · rw [if_neg c2, if_neg (by omega)]
/-- The first of the greatest, so far. -/
def Best (R : Nat → Int) (k b : Nat) : Prop := ∀ j, j < k → R j ≤ R b ∧ (j < b → R j < R b)
theorem Best.up {R : Nat → Int} {k b : Nat} (h : Best R k b) (hk : R b < R k) : Best R (k + 1) k := fun j hj => by
  by_cases e : j = k
  · subst e; exact ⟨Int.le_refl _, fun h => by omega⟩
  · have := (h j (by omega)).1; exact ⟨by omega, fun _ => by omega⟩
theorem Best.stay {R : Nat → Int} {k b : Nat} (h : Best R k b) (hk : ¬ R b < R k) (hb : b ≤ k) : Best R (k + 1) b := fun j hj => by
  by_cases e : j = k
  · subst e; exact ⟨by omega, fun h => by omega⟩
  · exact h j (by omega)
theorem Best.rank {t b : Nat} (hS : 0 < S) (h : Best (restT T S W n t) n b) (hb : b < n) (ht : t < n) : rk (rst T S W) n b = t := by
  obtain ⟨i, hi, e⟩ := rk_all (r := rst T S W) (n := n) ht
  obtain ⟨h1, h2⟩ := h i hi
  have hri : restT T S W n t i = rst T S W i := by unfold restT; rw [if_neg (by omega)]
  have h0 := (rst_bd (T := T) (W := W) hS i).1
  have hnb : ¬ rk (rst T S W) n b < t := fun c => by
    have : restT T S W n t b = -1 := by unfold restT; rw [if_pos c]
    omega
  have hrb : restT T S W n t b = rst T S W b := by unfold restT; rw [if_neg hnb]
  by_cases c : b = i
  · rw [c]; exact e
  · exfalso
    have hne : rk (rst T S W) n b ≠ t := fun e2 => c (rk_inj hb hi (e2.trans e.symm))
    have ha := ah_of_rk (r := rst T S W) (n := n) (i := i) (j := b) hb (by omega)
    rw [ah_iff] at ha
    rcases ha with g | ⟨g1, g2⟩
    · omega
    · have := h2 g2; omega
end
set_option maxHeartbeats 3200000 in
set_option maxRecDepth 100000 in
theorem rapp_main (T : Int) (l : List Int) (A : Option Addr) (c : Nat) (w : World) (hT0 : 0 < T) (hT : T ≤ 9223372036854775807) (hl : ∀ x ∈ l, 0 ≤ x) (h0 : 0 < sumI l) (hS : sumI l ≤ 9223372036854775807) (hn : l.length ≤ 1024) (hs : Seg w w.heap.size A (l.map (Value.int .i64)))
    (hw : Calls Try.prog 76 #[.int .i64 T, .slice A l.length c] w fun e w' => e = .returned (.tuple #[.int .i64 (sumI l), .int .i64 0]) ∧ w = w') :
    Calls Try.prog 77 #[.int .i64 T, .slice A l.length c] w (GotI w (rowF l.length (ShareLaw.part T (sumI l) (wf l) l.length)) 0) := by
  have inf : (Try.prog.info? 2).map (fun i => (i.zero, i.size, i.bytes)) = some (some (.int .i64 0), 1, 8) := by kernel_rfl
  obtain ⟨i0, hi0, hz0, hz1, hz2⟩ := info_parts inf
  have HWR := Lib.hid hw
  have HS := Lib.hid hs
  have HL := Lib.hid hl
  have HSUM := Lib.hid (sum_wf l)
  have HLE := Lib.hid (mem_le_sum hl)
  have hn0 : 0 < l.length := by
    cases l with
    | nil => simp [sumI] at h0
    | cons a l => simp
  clear hs hl hw
  generalize hZ : sumI l = S at *
  have HZ := Lib.hid hZ
  clear hZ
  obtain ⟨W, hW⟩ : ∃ W, W = wf l := ⟨_, rfl⟩
  have HW := Lib.hid hW
  rw [← hW] at HSUM ⊢
  clear hW
  have hT0' : 0 ≤ T := by omega
  have HW0 : Hid (∀ i, i < l.length → 0 ≤ W i ∧ W i ≤ S) := fun i hi => by
    rw [HW.out, wf_at hi]
    exact ⟨HL.out _ (List.getElem_mem hi), HLE.out _ (List.getElem_mem hi)⟩
  have HBQ : Hid (∀ k, k < l.length → 0 ≤ quo T S W k ∧ quo T S W k ≤ T) := fun k hk => ⟨quo_nonneg h0 hT0' (HW0.out k hk).1, quo_le h0 hT0' (HW0.out k hk).2⟩
  have HBD : Hid (∀ k, k ≤ l.length → 0 ≤ sumN (quo T S W) k ∧ sumN (quo T S W) k ≤ T) := fun k hk => by
    have h9 := (quo_sum_le h0 hT0' (fun i hi => (HW0.out i hi).1) HSUM.out).2
    exact ⟨sumN_nonneg fun i hi => (HBQ.out i (by omega)).1, Int.le_trans (sumN_upto (fun i hi => (HBQ.out i hi).1) k hk) h9⟩
  have HPL : Hid (∀ k, k < l.length → ShareLaw.part T S W l.length k ≤ T) := fun k hk => part_le h0 hT0' HSUM.out (HW0.out k hk).2
  have z1 : (S == 0) = false := by rw [beq_eq_false_iff_ne]; omega
  go_enter Try.func77, Try.ntmps77
  go_wp2_with fail
  refine HWR.out.mono ?_
  rintro e w' ⟨rfl, hw'⟩
  subst w'
  clear HWR
  go_wp2_with fail
  go_loopw [8, 9, 10, 11, 12, 13] (fun u v f i _ _ wr => ∃ k : Nat, k ≤ l.length ∧ i = .int .i64 k ∧ f = .int .i64 (T - sumN (quo T S W) k) ∧ Hid (Two2 w u v k (rowF k (quo T S W)) (rowF k (rst T S W)) wr)) (fun _ _ _ i _ _ _ => l.length - (intOf i).toNat)
  case atStart => exact ⟨0, Nat.zero_le _, rfl, by simp [sumN], Two2.start w⟩
  case round =>
    obtain ⟨k, hk, rfl, rfl, HT⟩ := hrel
    by_cases hlt : k < l.length
    · obtain ⟨b, o, rfl, hb, hc0⟩ := (HS.out.below HT.out.b).at (k := k) (by simpa using hlt)
      have ex : l[k] = W k := by rw [HW.out, wf_at hlt]
      rw [List.getElem_map, ex] at hc0
      have hwk := HW0.out k hlt
      have HQ := fun W' => Lib.hid (rquotaI_any T S W k W' hT0' hT hwk.1 hwk.2 h0 hS)
      have hb1 := HBD.out k hk
      have hb2 := HBQ.out k hlt
      have es : T - sumN (quo T S W) k - quo T S W k = T - sumN (quo T S W) (k + 1) := by rw [sumN]; omega
      have HES := Lib.hid es
      obtain ⟨g1, g2⟩ := hb1
      obtain ⟨g3, g4⟩ := hb2
      clear es ex hwk
      go_wp2_with fail
      refine (HQ _).out.mono ?_
      rintro e w1 ⟨rfl, hbq⟩
      have HT1 := Lib.hid (HT.out.below hbq)
      clear hbq HT hc0 HQ
      have hsz1 := HT1.out.b.size
      go_wp2_with (at_builtin; refine wpList_append_own_at _ rfl _ _ 35 rfl w.heap.size 2 i0 _ 1 8 Try.underlying35 hi0 hz0 hz1 hz2 rfl (by decide) _ k ((rowF k (quo T S W)).map (Value.int .i64)) rfl (HT1.out.p.alloc _) ⟨w1.heap.size, 0, none⟩ 1 1 [.int .i64 (quo T S W k)] rfl rfl (new_cells _ _ #[_] (by simp)) one_int (by simp only [maxLen]; omega) (by omega) (by simp; omega) ?_)
      intro v' w2 hown1 hgrow1 _ hat1
      have HF := Lib.hid (HT1.out.first hown1 hgrow1 hat1)
      rw [← rowF_snoc] at HF
      clear hown1 hgrow1 hat1 HT1
      have hsz2 := HF.out.2.2.2.size
      go_wp2_with (at_builtin; refine wpList_append_own_at _ rfl _ _ 35 rfl w.heap.size 2 i0 _ 1 8 Try.underlying35 hi0 hz0 hz1 hz2 rfl (by decide) _ k ((rowF k (rst T S W)).map (Value.int .i64)) rfl (HF.out.2.1.alloc _) ⟨w2.heap.size, 0, none⟩ 1 1 [.int .i64 (rst T S W k)] rfl rfl (new_cells _ _ #[_] (by simp)) one_int (by simp only [maxLen]; omega) (by omega) (by simp; omega) ?_)
      intro v'' w3 hown2 hgrow2 _ hat2
      have HT3 := Lib.hid (Two2.second HF.out hown2 hgrow2 hat2)
      rw [← rowF_snoc] at HT3
      clear hown2 hgrow2 hat2 HF
      go_wp2_with fail
      go_roundw
      case rel => exact ⟨k + 1, by omega, by go_num, by rw [← HES.out], HT3⟩
      case measure => simp [intOf]; omega
    · obtain rfl : k = l.length := by omega
      obtain ⟨gP, cP, rfl, hgP, hgP2⟩ := HT.out.p.form hn0
      obtain ⟨gR, cR, rfl, hgR, hgR2⟩ := HT.out.r.form hn0
      have hne : gP ≠ gR := fun e => HT.out.ne gP rfl (by rw [e]; rfl)
      obtain ⟨L, hL⟩ : ∃ L, L = left T S W l.length := ⟨_, rfl⟩
      have HLB := Lib.hid (left_bd (T := T) (S := S) (W := W) (n := l.length) h0 HSUM.out)
      have HLN := Lib.hid (left_le (T := T) (S := S) (W := W) (n := l.length) h0 HSUM.out)
      have eL : T - sumN (quo T S W) l.length = L := by rw [hL]; rfl
      have hL0 : 0 ≤ L := by rw [hL]; exact HLB.out.1
      have hLn : L ≤ (l.length : Int) := by rw [hL]; exact HLN.out
      have HEL := Lib.hid hL
      rw [eL]
      clear hL eL
      have HT0 : Hid (Two2 w (.slice (some ⟨gP, 0, none⟩) l.length cP) (.slice (some ⟨gR, 0, none⟩) l.length cR) l.length (rowF l.length (partT T S W l.length 0)) (rowF l.length (restT T S W l.length 0)) wr) := by
        have e1 : rowF l.length (quo T S W) = rowF l.length (partT T S W l.length 0) := rowF_congr fun i _ => by unfold partT; rw [if_neg (by omega)]; omega
        have e2 : rowF l.length (rst T S W) = rowF l.length (restT T S W l.length 0) := rowF_congr fun i _ => by unfold restT; rw [if_neg (by omega)]
        have := HT.out
        rw [e1, e2] at this
        exact this
      clear HT
      go_wp2_with fail
      go_loopw [10, 14, 15] (fun f _ _ wr => ∃ t : Nat, (t : Int) ≤ L ∧ f = .int .i64 (L - t) ∧ Hid (Two2 w (.slice (some ⟨gP, 0, none⟩) l.length cP) (.slice (some ⟨gR, 0, none⟩) l.length cR) l.length (rowF l.length (partT T S W l.length t)) (rowF l.length (restT T S W l.length t)) wr)) (fun f _ _ _ => (intOf f).toNat)
      case atStart => exact ⟨0, hL0, by simp, HT0⟩
      case round =>
        clear HT0
        obtain ⟨t, ht, rfl, HT⟩ := hrel
        by_cases hlt : (t : Int) < L
        · have hltz : 0 < L - (t : Int) := by omega
          have htn : t < l.length := by omega
          obtain ⟨wo, rfl⟩ : ∃ wo : World, wo = wr := ⟨_, rfl⟩
          go_wp2_with fail
          go_loopw [14, 15] (fun s14 s15 wr => ∃ k b : Nat, k ≤ l.length ∧ b ≤ k ∧ b < l.length ∧ s14 = .int .i64 b ∧ s15 = .int .i64 k ∧ Hid (Best (restT T S W l.length t) k b) ∧ Hid (Two2 w (.slice (some ⟨gP, 0, none⟩) l.length cP) (.slice (some ⟨gR, 0, none⟩) l.length cR) l.length (rowF l.length (partT T S W l.length t)) (rowF l.length (restT T S W l.length t)) wr)) (fun _ i _ => l.length - (intOf i).toNat)
          case atStart => exact ⟨0, 0, by omega, by omega, by omega, rfl, rfl, fun j h => by omega, HT⟩
          case round =>
            clear HT
            obtain ⟨k, b, hk, hbk, hbn, rfl, rfl, HBE, HT⟩ := hrel
            by_cases hlk : k < l.length
            · obtain ⟨x, hx⟩ : ∃ x, x = restT T S W l.length t k := ⟨_, rfl⟩
              obtain ⟨y, hy⟩ : ∃ y, y = restT T S W l.length t b := ⟨_, rfl⟩
              have c1 : wr.cell? ⟨gR, k, none⟩ = some (.int .i64 x) := by
                rw [HT.out.r.cellAt k (by omega), List.getElem?_map, List.getElem?_eq_getElem (by rw [rowF_len]; exact hlk), rowF_at, hx]; rfl
              have c2 : wr.cell? ⟨gR, b, none⟩ = some (.int .i64 y) := by
                rw [HT.out.r.cellAt b (by omega), List.getElem?_map, List.getElem?_eq_getElem (by rw [rowF_len]; exact hbn), rowF_at, hy]; rfl
              have i1 : (0 : Int) ≤ (k : Int) := by omega
              have i2 : (k : Int) < (l.length : Int) := by omega
              have i3 : (0 : Int) ≤ (b : Int) := by omega
              have i4 : (b : Int) < (l.length : Int) := by omega
              by_cases hxy : y < x
              · have HBE2 : Hid (Best (restT T S W l.length t) (k + 1) k) := HBE.out.up (by rw [← hx, ← hy]; exact hxy)
                have hd : decide (y < x) = true := decide_eq_true hxy
                clear hx hy HBE
                go_wp2_with fail
                go_quiet (fail)
                have HT2 := Lib.hid (HT.out.below (below_drewN (Below.refl _ _) nq))
                clear c1 c2 HT
                generalize wr.drewN nq = w2 at HT2 ⊢
                go_wp2_with fail
                go_roundw
                case rel => exact ⟨k + 1, k, by omega, by omega, hlk, rfl, by go_num, HBE2, HT2⟩
                case measure => simp [intOf]; omega
              · have HBE2 : Hid (Best (restT T S W l.length t) (k + 1) b) := HBE.out.stay (by rw [← hx, ← hy]; exact hxy) hbk
                have hd : decide (y < x) = false := decide_eq_false hxy
                clear hx hy HBE
                go_wp2_with fail
                go_quiet (fail)
                have HT2 := Lib.hid (HT.out.below (below_drewN (Below.refl _ _) nq))
                clear c1 c2 HT
                generalize wr.drewN nq = w2 at HT2 ⊢
                go_wp2_with fail
                go_roundw
                case rel => exact ⟨k + 1, b, by omega, by omega, hbn, rfl, by go_num, HBE2, HT2⟩
                case measure => simp [intOf]; omega
            · obtain rfl : k = l.length := by omega
              have hrk := HBE.out.rank h0 hbn htn
              have cp : wr.cell? ⟨gP, b, none⟩ = some (.int .i64 (quo T S W b)) := by
                rw [HT.out.p.cellAt b (by omega), List.getElem?_map, List.getElem?_eq_getElem (by rw [rowF_len]; exact hbn), rowF_at]
                unfold partT
                rw [if_neg (by omega)]
                simp
              have fp : wr.frozen? ⟨gP, b, none⟩ = false := HT.out.p.frozenAt b
              have cr : wr.cell? ⟨gR, b, none⟩ = some (.int .i64 (rst T S W b)) := by
                rw [HT.out.r.cellAt b (by omega), List.getElem?_map, List.getElem?_eq_getElem (by rw [rowF_len]; exact hbn), rowF_at]
                unfold restT
                rw [if_neg (by omega)]
                rfl
              have fr : wr.frozen? ⟨gR, b, none⟩ = false := HT.out.r.frozenAt b
              have hbd : 0 ≤ quo T S W b ∧ quo T S W b ≤ T - 1 := by
                refine ⟨(HBQ.out b hbn).1, ?_⟩
                have h7 := HPL.out b hbn
                unfold ShareLaw.part partT at h7
                rw [if_pos (by rw [hrk, ← HEL.out]; omega)] at h7
                omega
              obtain ⟨g1, g2⟩ := hbd
              have HT2 : Hid (Two2 w (.slice (some ⟨gP, 0, none⟩) l.length cP) (.slice (some ⟨gR, 0, none⟩) l.length cR) l.length (rowF l.length (partT T S W l.length (t + 1))) (rowF l.length (restT T S W l.length (t + 1))) ((wr.setCell ⟨gP, b, none⟩ (.int .i64 (quo T S W b + 1))).setCell ⟨gR, b, none⟩ (.int .i64 (-1)))) := by
                have hs1 := HT.out.p.stored b (.int .i64 (quo T S W b + 1))
                have hr1 := HT.out.r.kept hs1.2 (.inr (by simp [Value.ownBlock]; exact fun e => hne e.symm))
                have hs2 := hr1.stored b (.int .i64 (-1))
                have hp2 := hs1.1.kept hs2.2 (.inr (by simp [Value.ownBlock]; exact hne))
                refine ⟨?_, ?_, HT.out.ne, (HT.out.b.setCell (by dsimp only; omega) _).setCell (by dsimp only; omega) _⟩
                · rw [← part_set hbn hrk, List.map_set]; exact hp2
                · rw [← rest_set hbn hrk, List.map_set]; exact hs2.1
              have HRK := Lib.hid hrk
              have n1 : ¬ gP = gR := hne
              have n2 : ¬ gR = gP := fun e => hne e.symm
              clear hrk HT HBE
              go_wp2_with fail
              go_roundw
              case rel => exact ⟨t + 1, by omega, by first | rfl | (congr 1; omega) | (simp; omega), HT2⟩
              case measure => simp [intOf]; omega
        · have hltz : ¬ 0 < L - (t : Int) := by omega
          have e : (L.toNat : Nat) = t := by omega
          have HP3 : Hid (Seg wr wr.heap.size (some ⟨gP, 0, none⟩) ((rowF l.length (ShareLaw.part T S W l.length)).map (Value.int .i64))) := by
            have h7 := Seg.of_own HT.out.p
            rw [← e, HEL.out] at h7
            exact h7
          go_wp2_with fail
          go_ret2
          exact ⟨some ⟨gP, 0, none⟩, cP, by rw [rowF_len]; rfl, HP3.out, HT.out.b⟩
set_option maxHeartbeats 3200000 in
set_option maxRecDepth 100000 in
theorem rapp_zero (S : Int) (l : List Int) (A : Option Addr) (c : Nat) (w : World) (hn : l.length ≤ 1024)
    (hw : Calls Try.prog 76 #[.int .i64 0, .slice A l.length c] w fun e w' => e = .returned (.tuple #[.int .i64 S, .int .i64 0]) ∧ w = w') :
    Calls Try.prog 77 #[.int .i64 0, .slice A l.length c] w (GotI w (List.replicate l.length 0) 0) := by
  have inf : (Try.prog.info? 2).map (fun i => (i.zero, i.size, i.bytes)) = some (some (.int .i64 0), 1, 8) := by kernel_rfl
  obtain ⟨i0, hi0, hz0, hz1, hz2⟩ := info_parts inf
  have HWR := Lib.hid hw
  clear hw
  have HREP : Hid (rowF l.length (fun _ => 0) = List.replicate l.length 0) := by
    show _ = _
    apply List.ext_getElem
    · simp [rowF_len]
    · intro i h1 h2
      rw [rowF_at, List.getElem_replicate]
  obtain ⟨Z, hZ⟩ : ∃ Z : Nat → Int, Z = fun _ => 0 := ⟨_, rfl⟩
  have HZ : Hid (∀ k, rowF (k + 1) Z = rowF k Z ++ [0]) := fun k => by
    have := rowF_snoc k Z
    rw [hZ] at *
    exact this
  rw [← hZ] at HREP
  clear hZ
  cases z1 : (S == 0)
  all_goals
    go_enter Try.func77, Try.ntmps77
    go_wp2_with fail
    refine HWR.out.mono ?_
    rintro e w' ⟨rfl, hw'⟩
    subst w'
    clear HWR
    go_wp2_with fail
    go_loopw [8, 9, 10, 11, 12, 13] (fun u v f i _ _ wr => ∃ k : Nat, k ≤ l.length ∧ i = .int .i64 k ∧ f = .int .i64 0 ∧ Hid (Two2 w u v k (rowF k Z) (rowF k Z) wr)) (fun _ _ _ i _ _ _ => l.length - (intOf i).toNat)
    case atStart => exact ⟨0, Nat.zero_le _, rfl, rfl, Two2.start w⟩
    case round =>
      obtain ⟨k, hk, rfl, rfl, HT1⟩ := hrel
      by_cases hlt : k < l.length
      · have hsz1 := HT1.out.b.size
        go_wp2_with (at_builtin; refine wpList_append_own_at _ rfl _ _ 35 rfl w.heap.size 2 i0 _ 1 8 Try.underlying35 hi0 hz0 hz1 hz2 rfl (by decide) _ k ((rowF k Z).map (Value.int .i64)) rfl (HT1.out.p.alloc _) ⟨wr.heap.size, 0, none⟩ 1 1 [.int .i64 0] rfl rfl (new_cells _ _ #[_] (by simp)) one_int (by simp only [maxLen]; omega) (by omega) (by simp; omega) ?_)
        intro v' w2 hown1 hgrow1 _ hat1
        have HF := Lib.hid (HT1.out.first hown1 hgrow1 hat1)
        rw [← HZ.out] at HF
        clear hown1 hgrow1 hat1 HT1
        have hsz2 := HF.out.2.2.2.size
        go_wp2_with (at_builtin; refine wpList_append_own_at _ rfl _ _ 35 rfl w.heap.size 2 i0 _ 1 8 Try.underlying35 hi0 hz0 hz1 hz2 rfl (by decide) _ k ((rowF k Z).map (Value.int .i64)) rfl (HF.out.2.1.alloc _) ⟨w2.heap.size, 0, none⟩ 1 1 [.int .i64 0] rfl rfl (new_cells _ _ #[_] (by simp)) one_int (by simp only [maxLen]; omega) (by omega) (by simp; omega) ?_)
        intro v'' w3 hown2 hgrow2 _ hat2
        have HT3 := Lib.hid (Two2.second HF.out hown2 hgrow2 hat2)
        rw [← HZ.out] at HT3
        clear hown2 hgrow2 hat2 HF
        go_wp2_with fail
        go_roundw
        case rel => exact ⟨k + 1, by omega, by go_num, rfl, HT3⟩
        case measure => simp [intOf]; omega
      · obtain rfl : k = l.length := by omega
        obtain ⟨A1, c1, rfl⟩ := own_form HT1.out.p
        have HSG := Lib.hid (Seg.of_own HT1.out.p)
        rw [HREP.out] at HSG
        go_wp2_with fail
        refine wp_loop_rounds 1 ?_
        rw [rounds_succ]
        go_wp2_with fail
        go_ret2
        exact ⟨A1, c1, by rw [List.length_replicate]; rfl, HSG.out, HT1.out.b⟩
set_option maxHeartbeats 1600000 in
set_option maxRecDepth 100000 in
theorem rApportion_any (T : Int) (l : List Int) (A : Option Addr) (c : Nat) (w : World) (hT : I64 T) (hl : ∀ x ∈ l, I64 x) (hs : Seg w w.heap.size A (l.map (Value.int .i64))) (hn : l.length ≤ maxLen) :
    Calls Try.prog 77 #[.int .i64 T, .slice A l.length c] w (GotI w (appL T l) (appE T l)) := by
  have hC := wrong_any T l A c w hl hs hn
  by_cases h1 : chkE T l = 0
  · have F := fit_of h1
    rw [h1, F.val] at hC
    by_cases h2 : T = 0
    · have e1 : appE T l = 0 := by unfold appE; rw [if_neg (by omega), if_pos h2]
      have e2 : appL T l = List.replicate l.length 0 := by unfold appL; rw [if_neg (by omega), if_pos h2]
      rw [e1, e2]
      subst h2
      exact rapp_zero (sumI l) l A c w F.len hC
    · have hT0 := F.pos
      by_cases h3 : sumI l = 0
      · have e1 : appE T l = 17 := by unfold appE; rw [if_neg (by omega), if_neg h2, if_pos h3]
        have e2 : appL T l = [] := by unfold appL; rw [if_neg (by omega), if_neg h2, if_pos h3]
        rw [e1, e2]
        rw [h3] at hC
        have HC := Lib.hid hC
        have h4 : 0 < T := by omega
        clear F e1 e2 h1 h2 h3 hl hs hT hC
        go_enter Try.func77, Try.ntmps77
        go_wp2_with fail
        refine HC.out.mono ?_
        rintro e w1 ⟨rfl, rfl⟩
        go_wp2_with fail
        go_ret2
        exact GotI.nil _ _ _ (Below.refl _ _)
      · have e1 : appE T l = 0 := by unfold appE; rw [if_neg (by omega), if_neg h2, if_neg h3]
        have e2 : appL T l = rowF l.length (ShareLaw.part T (sumI l) (wf l) l.length) := by unfold appL; rw [if_neg (by omega), if_neg h2, if_neg h3]
        rw [e1, e2]
        have h0 := sum_nonneg F.all
        have hI := F.amt
        have hTT := hT
        unfold I64 at hI hTT
        exact rapp_main T l A c w (by omega) (by omega) F.all (by omega) (by omega) F.len hs hC
  · have e1 : appE T l = chkE T l := by unfold appE; rw [if_pos h1]
    have e2 : appL T l = [] := by unfold appL; rw [if_pos h1]
    rw [e1, e2]
    have HC := Lib.hid hC
    have h1' : (chkE T l == 0) = false := by simpa using h1
    have h1n : (chkE T l != 0) = true := by simpa using h1
    clear e1 e2 h1 hl hs hT hC
    generalize chkE T l = E at *
    generalize chkV T l = V at *
    go_enter Try.func77, Try.ntmps77
    go_wp2_with fail
    refine HC.out.mono ?_
    rintro e w1 ⟨rfl, rfl⟩
    go_wp2_with fail
    go_ret2
    exact GotI.nil _ _ _ (Below.refl _ _)
set_option maxHeartbeats 1600000 in
set_option maxRecDepth 100000 in
theorem rAllocate_any (T : Int) (l : List Int) (A : Option Addr) (c : Nat) (w : World) (hT : I64 T) (hl : ∀ x ∈ l, I64 x) (hs : Seg w w.heap.size A (l.map (Value.int .i64))) (hn : l.length ≤ maxLen) :
    Calls Try.prog 53 #[.int .i64 T, .slice A l.length c] w (GotI w (alL T l) (alE T l)) := by
  have hC := wrong_any T l A c w hl hs hn
  by_cases h1 : chkE T l = 0
  · have F := fit_of h1
    have hlen := F.len
    rw [h1, F.val] at hC
    have HC := Lib.hid hC
    by_cases h2 : sumI l ≤ T
    · have e1 : alE T l = 0 := by unfold alE; rw [if_neg (by omega), if_pos h2]
      have e2 : alL T l = l := by unfold alL; rw [if_neg (by omega), if_pos h2]
      rw [e1, e2]
      have inf : (Try.prog.info? 2).map (fun i => (i.zero, i.size, i.bytes)) = some (some (.int .i64 0), 1, 8) := by kernel_rfl
      obtain ⟨i0, hi0, hz0, hz1, hz2⟩ := info_parts inf
      have HS := Lib.hid hs
      clear F e1 e2 h1 hl hs hT hC
      generalize sumI l = S at *
      go_enter Try.func53, Try.ntmps53
      go_wp2_with fail
      refine HC.out.mono ?_
      rintro e w1 ⟨rfl, hw1⟩
      subst w1
      clear HC
      go_wp2_with fail
      go_loopw [8, 9] (fun u i wr => ∃ k : Nat, k ≤ l.length ∧ i = .int .i64 k ∧ Hid (wr.ownsRow w.heap.size 2 1 u (l.take k).length ((l.take k).map (Value.int .i64))) ∧ Hid (Below w.heap.size w wr)) (fun _ i _ => l.length - (intOf i).toNat)
      case atStart => exact ⟨0, Nat.zero_le _, rfl, ⟨by simp, Or.inl ⟨rfl, rfl⟩⟩, Below.refl _ _⟩
      case round =>
        obtain ⟨k, hk, rfl, HO, HB⟩ := hrel
        have hsz := HB.out.size
        by_cases hlt : k < l.length
        · obtain ⟨b, o, rfl, hb, hc⟩ := (HS.out.below HB.out).at (k := k) (by simpa using hlt)
          rw [List.getElem_map] at hc
          have HF := Lib.hid (List.take_succ_eq_append_getElem hlt)
          have hyl : (l.take k).length ≤ k := by rw [List.length_take]; omega
          generalize l.take k = ys at *
          generalize l[k] = x at *
          go_wp2_with (at_builtin; refine wpList_append_own _ rfl _ _ 35 rfl w.heap.size 2 i0 _ 1 8 Try.underlying35 hi0 hz0 hz1 hz2 rfl (by decide) _ ys.length (ys.map (Value.int .i64)) rfl (HO.out.alloc _) ⟨wr.heap.size, 0, none⟩ 1 1 [.int .i64 x] rfl rfl (new_cells _ _ #[_] (by simp)) one_int (by simp only [maxLen]; omega) (by omega) (by simp; omega) ?_)
          intro v' w4 hown1 hgrow1 _
          have HO4 : Hid (w4.ownsRow w.heap.size 2 1 v' (l.take (k + 1)).length ((l.take (k + 1)).map (Value.int .i64))) := by
            show World.ownsRow _ _ _ _ _ _ _
            rw [HF.out, List.map_append, List.length_append, List.length_singleton]
            exact hown1
          have HG4 : Hid (Below w.heap.size w w4) := (HB.out.alloc hsz _).grown hgrow1 (by simp; omega) (fun j hj => own_base HO.out j hj)
          clear hown1 hgrow1
          go_wp2_with fail
          go_roundw
          case rel => exact ⟨k + 1, by omega, by go_num, HO4, HG4⟩
          case measure => simp [intOf]; omega
        · obtain rfl : k = l.length := by omega
          have hO := HO.out
          rw [List.take_length] at hO
          obtain ⟨A1, c1, rfl⟩ := own_form hO
          have HSD := Lib.hid (Seg.of_own hO)
          clear hO
          go_wp2_with fail
          go_ret2
          exact ⟨A1, c1, rfl, HSD.out, HB.out⟩
    · have e1 : alE T l = appE T l := by unfold alE; rw [if_neg (by omega), if_neg h2]
      have e2 : alL T l = appL T l := by unfold alL; rw [if_neg (by omega), if_neg h2]
      rw [e1, e2]
      have HD := Lib.hid (rApportion_any T l A c w hT hl hs hn)
      clear F e1 e2 h1 hl hs hT hC
      generalize sumI l = S at *
      generalize appL T l = zs at *
      generalize appE T l = E at *
      go_enter Try.func53, Try.ntmps53
      go_wp2_with fail
      refine HC.out.mono ?_
      rintro e w1 ⟨rfl, rfl⟩
      go_wp2_with fail
      refine HD.out.mono ?_
      rintro e w2 ⟨A2, c2, rfl, hs2, hb2⟩
      have HS2 := Lib.hid hs2
      have HB2 := Lib.hid hb2
      clear hs2 hb2
      go_wp2_with fail
      go_ret2
      exact ⟨A2, c2, rfl, HS2.out, HB2.out⟩
  · have e1 : alE T l = chkE T l := by unfold alE; rw [if_pos h1]
    have e2 : alL T l = [] := by unfold alL; rw [if_pos h1]
    rw [e1, e2]
    have HC := Lib.hid hC
    have h1' : (chkE T l == 0) = false := by simpa using h1
    have h1n : (chkE T l != 0) = true := by simpa using h1
    clear e1 e2 h1 hl hs hT hC
    generalize chkE T l = E at *
    generalize chkV T l = V at *
    go_enter Try.func53, Try.ntmps53
    go_wp2_with fail
    refine HC.out.mono ?_
    rintro e w1 ⟨rfl, rfl⟩
    go_wp2_with fail
    go_ret2
    exact GotI.nil _ _ _ (Below.refl _ _)
end Go.Proofs.Ytglpnpjjjihghaa
