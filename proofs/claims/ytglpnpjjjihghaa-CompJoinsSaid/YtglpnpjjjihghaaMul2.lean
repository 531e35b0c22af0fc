/-
  What complineref01.Mul comes to, over this seat's translation: a contract for callers. (Printed by wip/gen_mul2.py out of XRf2b's text.)
-/
import Derived.Test.YtglpnpjjjihghaaMgE
import Derived.Test.YtglpnpjjjihghaaMul1
namespace Go.Proofs.Ytglpnpjjjihghaa
open Go.RowKit Go.Lib Go.Sort

/-- A block is a row of words. -/
def RowW (w : World) (b : Nat) (ns : List Nat) : Prop := w.heap[b]? = some (.cells (ns.map fun (n : Nat) => Value.int .u64 (n : Int)).toArray 119 (0, 0))
section
variable {w w' : World} {b B : Nat} {ns : List Nat}
theorem RowW.cell (h : RowW w b ns) {i : Nat} (hi : i < ns.length) : w.cell? ⟨b, i, none⟩ = some (.int .u64 (ns[i] : Int)) := by
  rw [cell_of_row w b i _ 119 (0, 0) h]
  simp [hi]
theorem RowW.free (h : RowW w b ns) (i : Nat) : w.frozen? ⟨b, i, none⟩ = false := frozen_of_row w b i _ 119 h
theorem RowW.of_block (h : RowW w b ns) (e : w'.heap[b]? = w.heap[b]?) : RowW w' b ns := e.trans h
theorem RowW.drew (h : RowW w b ns) : RowW w.drew b ns := h
theorem RowW.set (h : RowW w b ns) (i : Nat) (v : Nat) : RowW (w.setCell ⟨b, i, none⟩ (.int .u64 (v : Int))) b (ns.set i v) := by
  unfold RowW at *
  rw [setCell_eq, mapBlock, Array.getElem?_modify, if_pos rfl, h]
  simp [onCells, List.map_set]
theorem RowW.new (w : World) (ns : List Nat) : RowW (w.alloc (.cells (ns.map fun (n : Nat) => Value.int .u64 (n : Int)).toArray 119)) w.heap.size ns := heap_alloc_new w _
theorem RowW.other (h : RowW w b ns) {a : Addr} (v : Value) (hne : b ≠ a.block) : RowW (w.setCell a v) b ns := h.of_block (Deep.blk_setCell_other w a v b hne)
theorem RowW.alloc (h : RowW w b ns) (hb : b < w.heap.size) (o : Obj) : RowW (w.alloc o) b ns := h.of_block (Deep.blk_alloc_lt w o b hb)
theorem RowW.below (h : RowW w b ns) (hb : b < B) (k : Below B w w') : RowW w' b ns := h.of_block (k.block b hb)
end
/-- While the products are added. -/
structure MJ (bn Y M : Nat) (x y : Nat → Nat) (i k : Nat) (w3 : World) (ns : List Nat) (wr : World) : Prop where
  len : ns.length = 8
  row : RowW wr bn ns
  vl : val ns = upto x i * Y + x i * 65536 ^ i * upto y k
  bd : ∀ j (h : j < ns.length), ns[j] ≤ (4 * i + k) * M
  b : Below bn w3 wr
theorem MJ.next {bn i Y M : Nat} {x y : Nat → Nat} {w3 wr : World} {ns : List Nat} (hY : upto y 4 = Y) (h : MJ bn Y M x y i 4 w3 ns wr) : MJ bn Y M x y (i + 1) 0 w3 ns wr := by
  refine ⟨h.len, h.row, ?_, fun j hj => ?_, h.b⟩
  · rw [h.vl, hY, show upto x (i + 1) = upto x i + x i * 65536 ^ i from rfl, show upto y 0 = 0 from rfl, Nat.mul_zero, Nat.add_zero, Nat.add_mul]
  · have := h.bd j hj
    rw [show 4 * (i + 1) + 0 = 4 * i + 4 by omega]; exact this
theorem MJ.step {bn i k p j Y M : Nat} {x y : Nat → Nat} {w3 wr : World} {ns : List Nat} (h : MJ bn Y M x y i k w3 ns wr) (hj : j < ns.length) (hji : j = i + k) (hp : p = x i * y k) (hpl : p ≤ M) : MJ bn Y M x y i (k + 1) w3 (ns.set j (ns[j] + p)) (wr.setCell ⟨bn, j, none⟩ (.int .u64 ((ns[j] + p : Nat) : Int))).drew := by
  refine ⟨by rw [List.length_set]; exact h.len, (h.row.set j (ns[j] + p)).drew, ?_, fun q hq => ?_, (h.b.setCell (Nat.le_refl _) _).drew⟩
  · have hv := val_set ns j hj (ns[j] + p)
    have e : p * 65536 ^ j = x i * 65536 ^ i * (y k * 65536 ^ k) := by
      rw [hp, hji, Nat.pow_add]
      simp only [Nat.mul_assoc, Nat.mul_left_comm]
    rw [Nat.add_mul, h.vl, e] at hv
    rw [show upto y (k + 1) = upto y k + y k * 65536 ^ k from rfl, Nat.mul_add]
    generalize x i * 65536 ^ i * (y k * 65536 ^ k) = A at *
    generalize ns[j] * 65536 ^ j = B at *
    generalize x i * 65536 ^ i * upto y k = C at *
    generalize upto x i * Y = D at *
    omega
  · rw [List.length_set] at hq
    have h1 := h.bd q hq
    have e : (4 * i + (k + 1)) * M = (4 * i + k) * M + M := by rw [← Nat.add_assoc, Nat.add_mul, Nat.one_mul]
    rw [List.getElem_set, e]
    split
    · rename_i c; subst c; omega
    · omega
/-- While what is too great is carried on. -/
structure CJ (bn V i c : Nat) (w4 : World) (ns : List Nat) (wr : World) : Prop where
  len : ns.length = 8
  row : RowW wr bn ns
  lo : ∀ j (h : j < ns.length), j < i → ns[j] < 65536
  bd : ∀ j (h : j < ns.length), ns[j] ≤ 68717379600
  cb : c ≤ 68717379600
  vl : val ns + c * 65536 ^ i = V
  b : Below bn w4 wr
theorem CJ.step {bn V i c t : Nat} {w4 wr : World} {ns : List Nat} (h : CJ bn V i c w4 ns wr) (hi : i < ns.length) (ht : t = ns[i] + c) : CJ bn V (i + 1) (t / 65536) w4 (ns.set i (t % 65536)) ((wr.setCell ⟨bn, i, none⟩ (.int .u64 (t : Int))).setCell ⟨bn, i, none⟩ (.int .u64 ((t % 65536 : Nat) : Int))) := by
  have hb := h.bd i hi
  have hc := h.cb
  refine ⟨by rw [List.length_set]; exact h.len, ?_, fun j hj hji => ?_, fun j hj => ?_, by omega, ?_, (h.b.setCell (Nat.le_refl _) _).setCell (Nat.le_refl _) _⟩
  · have := (h.row.set i t).set i (t % 65536)
    rw [List.set_set] at this
    exact this
  · rw [List.length_set] at hj
    rw [List.getElem_set]
    split
    · omega
    · exact h.lo j hj (by omega)
  · rw [List.length_set] at hj
    rw [List.getElem_set]
    split
    · omega
    · exact h.bd j hj
  · have hv := val_set ns i hi (t % 65536)
    have h1 := h.vl
    rw [Nat.pow_succ, ← Nat.mul_assoc, Nat.mul_right_comm]
    have e : t / 65536 * 65536 * 65536 ^ i + t % 65536 * 65536 ^ i = ns[i] * 65536 ^ i + c * 65536 ^ i := by
      rw [← Nat.add_mul, ← Nat.add_mul]
      congr 1
      omega
    generalize t / 65536 * 65536 * 65536 ^ i = A at *
    generalize t % 65536 * 65536 ^ i = B at *
    generalize ns[i] * 65536 ^ i = C at *
    generalize c * 65536 ^ i = D at *
    omega
theorem CJ.ends {bn V c : Nat} {w4 wr : World} {ns : List Nat} (h : CJ bn V 8 c w4 ns wr) (hV : V < 340282366920938463463374607431768211456) : ns = digs 8 V := by
  have h1 := h.vl
  have hc : c = 0 := by
    rcases Nat.eq_zero_or_pos c with e | e
    · exact e
    · exfalso
      have : 1 * 65536 ^ 8 ≤ c * 65536 ^ 8 := Nat.mul_le_mul_right _ e
      have e8 : (65536 : Nat) ^ 8 = 340282366920938463463374607431768211456 := by decide
      rw [e8] at h1 this
      omega
  rw [hc, Nat.zero_mul, Nat.add_zero] at h1
  have hd := digs_of ns fun x hx => by
    obtain ⟨j, hj, rfl⟩ := List.mem_iff_getElem.1 hx
    exact h.lo j hj (by have := h.len; omega)
  rw [h.len, h1] at hd
  exact hd
/-- A digit of a word. -/
def dgt (a j : Nat) : Nat := a / 65536 ^ j % 65536
theorem upto_dgt (a : Nat) : ∀ k, upto (dgt a) k + a / 65536 ^ k * 65536 ^ k = a
  | 0 => by simp [upto]
  | k + 1 => by
    have ih := upto_dgt a k
    have h := Nat.div_add_mod (a / 65536 ^ k) 65536
    rw [Nat.div_div_eq_div_mul, ← Nat.pow_succ] at h
    show upto (dgt a) k + a / 65536 ^ k % 65536 * 65536 ^ k + a / 65536 ^ (k + 1) * 65536 ^ (k + 1) = a
    have e : a / 65536 ^ k * 65536 ^ k = a / 65536 ^ k % 65536 * 65536 ^ k + a / 65536 ^ (k + 1) * 65536 ^ (k + 1) := by
      rw [Nat.pow_succ 65536 k, ← Nat.mul_assoc, Nat.mul_right_comm, ← Nat.add_mul]
      congr 1
      rw [← Nat.pow_succ]
      omega
    omega
theorem upto4_dgt {a : Nat} (h : a < 18446744073709551616) : upto (dgt a) 4 = a := by
  have h1 := upto_dgt a 4
  have h2 : a / 65536 ^ 4 = 0 := Nat.div_eq_of_lt (Nat.lt_of_lt_of_eq h (by decide : (18446744073709551616 : Nat) = 65536 ^ 4))
  rw [h2, Nat.zero_mul, Nat.add_zero] at h1
  exact h1
theorem dgt_le (a j : Nat) : dgt a j ≤ 65535 := by
  unfold dgt
  omega
theorem dgt_and {a s i : Nat} (ha : a < 18446744073709551616) (hs : s = 16 * i) : bits .and .u64 ((a : Int) / 2 ^ s) 65535 = (dgt a i : Int) := by
  have e : (a : Int) / 2 ^ s = ((a / 2 ^ s : Nat) : Int) := by simp
  rw [e, mask16 _ (Nat.lt_of_le_of_lt (Nat.div_le_self _ _) ha), hs, show 2 ^ (16 * i) = 65536 ^ i by rw [Nat.pow_mul]]
  unfold dgt
  rfl
set_option maxHeartbeats 3200000 in
set_option maxRecDepth 100000 in
theorem rmul1_walk (a b : Int) (X Y : Nat) (w : World) (ha : I64 a) (hb : I64 b) (hX : X = szN a) (hY : Y = szN b) :
    Calls Try.prog 44 #[.int .i64 a, .int .i64 b] w fun e w' => e = .returned (.tuple #[.int .i64 (amtV (a * b)), .int .i64 (amtE (a * b))]) ∧ Below w.heap.size w w' := by
  have HA := Lib.hid ha
  have HB := Lib.hid hb
  have hXl : X ≤ 9223372036854775808 := by rw [hX]; exact szN_lt ha
  have hYl : Y ≤ 9223372036854775808 := by rw [hY]; exact szN_lt hb
  have HSX : ∀ W, Hid (Calls Try.prog 70 #[.int .i64 a] W fun e w' => e = .returned (.int .u64 (X : Int)) ∧ W = w') := fun W => Lib.hid (by rw [hX]; exact rsize_any a W ha)
  have HSY : ∀ W, Hid (Calls Try.prog 70 #[.int .i64 b] W fun e w' => e = .returned (.int .u64 (Y : Int)) ∧ W = w') := fun W => Lib.hid (by rw [hY]; exact rsize_any b W hb)
  have HXY := Lib.hid (And.intro hX hY)
  clear ha hb hX hY
  go_enter Try.func44, Try.ntmps44
  go_wp2_with fail
  refine (HSX _).out.mono ?_
  rintro e w' ⟨rfl, rfl⟩
  go_wp2_with fail
  refine (HSY _).out.mono ?_
  rintro e w' ⟨rfl, rfl⟩
  go_wp2_with fail
  obtain ⟨M, hM⟩ : ∃ M, M = 4294836225 := ⟨_, rfl⟩
  have hMle : M ≤ 4294836225 := by omega
  have hMle' : 4294836225 ≤ M := by omega
  clear hM
  have HW4 : Hid (∀ w4, w4 = w.alloc (.cells #[.int .u64 0, .int .u64 0, .int .u64 0, .int .u64 0, .int .u64 0, .int .u64 0, .int .u64 0, .int .u64 0] 119) → MJ w.heap.size Y M (dgt X) (dgt Y) 0 0 w4 [0, 0, 0, 0, 0, 0, 0, 0] w4 ∧ Below w.heap.size w w4) := by
    rintro w4 rfl
    refine ⟨⟨rfl, RowW.new w [0, 0, 0, 0, 0, 0, 0, 0], by simp [val, upto], fun j hj => ?_, Below.refl _ _⟩, (Below.refl _ _).alloc (Nat.le_refl _) _⟩
    have : ∀ x ∈ [0, 0, 0, 0, 0, 0, 0, (0 : Nat)], x = 0 := by simp
    rw [this _ (List.getElem_mem hj)]; omega
  have HY4 : Hid (upto (dgt Y) 4 = Y) := Lib.hid (upto4_dgt (by omega))
  have HX4 : Hid (upto (dgt X) 4 = X) := Lib.hid (upto4_dgt (by omega))
  have HXL : Hid (∀ j, dgt X j ≤ 65535) := Lib.hid (dgt_le X)
  have HYL : Hid (∀ j, dgt Y j ≤ 65535) := Lib.hid (dgt_le Y)
  have HXS : Hid (∀ s i, s = 16 * i → bits .and .u64 ((X : Int) / 2 ^ s) 65535 = (dgt X i : Int)) := Lib.hid fun s i h => dgt_and (by omega) h
  have HYS : Hid (∀ s i, s = 16 * i → bits .and .u64 ((Y : Int) / 2 ^ s) 65535 = (dgt Y i : Int)) := Lib.hid fun s i h => dgt_and (by omega) h
  have HW5 := HW4.out _ rfl
  clear HW4 HSX HSY
  generalize dgt X = x at *
  generalize dgt Y = y at *
  generalize w.alloc (.cells #[.int .u64 0, .int .u64 0, .int .u64 0, .int .u64 0, .int .u64 0, .int .u64 0, .int .u64 0, .int .u64 0] 119) = w4 at HW5 ⊢
  have HM0 := Lib.hid HW5.1
  have HBW := Lib.hid HW5.2
  clear HW5
  generalize hbn : w.heap.size = bn at *
  have HBN := Lib.hid hbn
  clear hbn
  go_loopw [9, 10] (fun u _ wr => ∃ i : Nat, i ≤ 4 ∧ u = .int .i64 i ∧ ∃ ns : List Nat, Hid (MJ bn Y M x y i 0 w4 ns wr)) (fun u _ _ => 4 - (intOf u).toNat)
  case atStart => exact ⟨0, by omega, rfl, _, HM0⟩
  case round =>
    clear HM0
    obtain ⟨i, hi, rfl, ns, HM⟩ := hrel
    by_cases hlt : i < 4
    · have hltz : (i : Int) < 4 := by omega
      obtain ⟨wo, rfl⟩ : ∃ wo : World, wo = wr := ⟨_, rfl⟩
      go_wp2_with fail
      go_loopw [10] (fun u wr => ∃ k : Nat, k ≤ 4 ∧ u = .int .i64 k ∧ ∃ ns : List Nat, Hid (MJ bn Y M x y i k w4 ns wr)) (fun u _ => 4 - (intOf u).toNat)
      case atStart => exact ⟨0, by omega, rfl, _, HM⟩
      case round =>
        clear HM
        obtain ⟨k, hk, rfl, ns, HM⟩ := hrel
        by_cases hlt2 : k < 4
        · have hltz2 : (k : Int) < 4 := by omega
          obtain ⟨j, hj⟩ : ∃ j, j = i + k := ⟨_, rfl⟩
          have hlen := HM.out.len
          have hjl : j < ns.length := by omega
          obtain ⟨q, hq⟩ : ∃ q, q = ns[j] := ⟨_, rfl⟩
          obtain ⟨p, hp⟩ : ∃ p, p = x i * y k := ⟨_, rfl⟩
          obtain ⟨t, ht⟩ : ∃ t, t = q + p := ⟨_, rfl⟩
          have hpl : p ≤ 4294836225 := by rw [hp]; exact Nat.mul_le_mul (HXL.out i) (HYL.out k)
          have hql : q ≤ 68717379600 := by
            have h1 := HM.out.bd j hjl
            rw [hq]
            refine Nat.le_trans h1 (Nat.le_trans (Nat.mul_le_mul (show 4 * i + k ≤ 16 by omega) hMle) (by omega))
          have cn := HM.out.row.cell hjl
          rw [← hq] at cn
          have fnn := HM.out.row.free j
          have HM2 : Hid (MJ bn Y M x y i (k + 1) w4 (ns.set j t) (wr.setCell ⟨bn, j, none⟩ (.int .u64 (t : Int))).drew) := by
            have := HM.out.step hjl hj hp (by omega)
            rw [← hq, ← ht] at this
            exact this
          obtain ⟨si, hsi⟩ : ∃ si, si = 16 * i := ⟨_, rfl⟩
          obtain ⟨sk, hsk⟩ : ∃ sk, sk = 16 * k := ⟨_, rfl⟩
          have ax := HXS.out si i hsi
          have ay := HYS.out sk k hsk
          have esi : (16 : Int) * (i : Int) = (si : Int) := by omega
          have esk : (16 : Int) * (k : Int) = (sk : Int) := by omega
          have lsi : si ≤ 48 := by omega
          have lsk : sk ≤ 48 := by omega
          have ep : (x i : Int) * (y k : Int) = (p : Int) := by rw [hp, Int.natCast_mul]
          have et : (q : Int) + (p : Int) = (t : Int) := by omega
          have htl : t ≤ 73012215825 := by omega
          have ea : ((i : Int) + (k : Int)).toNat = j := by omega
          have pa : (0 : Int) ≤ (i : Int) + (k : Int) := by omega
          have ba : (i : Int) + (k : Int) < 8 := by omega
          have ra : IntKind.i64.wrap ((i : Int) + (k : Int)) = (i : Int) + (k : Int) := by rw [IntKind.wrap_i64]; omega
          have rp : IntKind.u64.wrap (p : Int) = (p : Int) := by rw [IntKind.wrap_u64]; omega
          have rt : IntKind.u64.wrap (t : Int) = (t : Int) := by rw [IntKind.wrap_u64]; omega
          have rsi : IntKind.i64.wrap (si : Int) = (si : Int) := by rw [IntKind.wrap_i64]; omega
          have rsk : IntKind.i64.wrap (sk : Int) = (sk : Int) := by rw [IntKind.wrap_i64]; omega
          have hsx : Op.shift .shr .u64 (X : Int) .i64 (si : Int) = pure (.int .u64 ((X : Int) / 2 ^ si)) := shift_shr .u64 .i64 X si (by omega) (by simp [IntKind.bits]; omega)
          have hsy : Op.shift .shr .u64 (Y : Int) .i64 (sk : Int) = pure (.int .u64 ((Y : Int) / 2 ^ sk)) := shift_shr .u64 .i64 Y sk (by omega) (by simp [IntKind.bits]; omega)
          clear hj hq hp ht hlen hql hpl HM hjl hsi hsk
          go_wp2_with fail
          go_big_region
          clear cn fnn
          generalize (wr.setCell ⟨bn, j, none⟩ (.int .u64 (t : Int))).drew = w5 at HM2 ⊢
          clear ea pa ba ra rp rt ep et ax ay esi esk rsi rsk hsx hsy
          go_wp2
          go_roundw
          case rel => exact ⟨k + 1, by omega, by go_num, _, HM2⟩
          case measure => simp [intOf]; omega
        · have hltz2 : ¬ (k : Int) < 4 := by omega
          obtain rfl : k = 4 := by omega
          have HM2 := Lib.hid (HM.out.next HY4.out)
          clear HM
          go_wp2_with fail
          go_roundw
          case rel => exact ⟨i + 1, by omega, by go_num, _, HM2⟩
          case measure => simp [intOf]; omega
    · have hltz : ¬ (i : Int) < 4 := by omega
      obtain rfl : i = 4 := by omega
      have HC0 : Hid (CJ bn (X * Y) 0 0 w4 ns wr) := by
        refine ⟨HM.out.len, HM.out.row, fun j _ h => by omega, fun j h => Nat.le_trans (HM.out.bd j h) (Nat.le_trans (Nat.mul_le_mul (show 4 * 4 + 0 ≤ 16 by omega) hMle) (by omega)), by omega, ?_, HM.out.b⟩
        have := HM.out.vl
        rw [HX4.out, show upto y 0 = 0 from rfl, Nat.mul_zero, Nat.add_zero] at this
        rw [this, Nat.zero_mul, Nat.add_zero]
      have HAB : Hid (X * Y < 340282366920938463463374607431768211456) := by
        have : X * Y ≤ 9223372036854775808 * 9223372036854775808 := Nat.mul_le_mul hXl hYl
        show X * Y < _
        omega
      clear HM
      obtain ⟨V, hV⟩ : ∃ V, V = X * Y := ⟨_, rfl⟩
      rw [← hV] at HC0 HAB
      have HV := Lib.hid hV
      clear hV
      go_wp2_with fail
      go_loopw [11, 12] (fun u v wr => ∃ i c : Nat, i ≤ 8 ∧ u = .int .u64 c ∧ v = .int .i64 i ∧ ∃ ns : List Nat, Hid (CJ bn V i c w4 ns wr)) (fun _ v _ => 8 - (intOf v).toNat)
      case atStart => exact ⟨0, 0, by omega, rfl, rfl, _, HC0⟩
      case round =>
        clear HC0
        obtain ⟨i, c, hi, rfl, rfl, ns, HC⟩ := hrel
        by_cases hlt : i < 8
        · have hltz : (i : Int) < 8 := by omega
          have hil : i < ns.length := by have := HC.out.len; omega
          obtain ⟨q, hq⟩ : ∃ q, q = ns[i] := ⟨_, rfl⟩
          obtain ⟨t, ht⟩ : ∃ t, t = q + c := ⟨_, rfl⟩
          obtain ⟨m, hm⟩ : ∃ m, m = t % 65536 := ⟨_, rfl⟩
          obtain ⟨d, hd⟩ : ∃ d, d = t / 65536 := ⟨_, rfl⟩
          have hql : q ≤ 68717379600 := by rw [hq]; exact HC.out.bd i hil
          have hcl := HC.out.cb
          have cn := HC.out.row.cell hil
          rw [← hq] at cn
          have fnn := HC.out.row.free i
          have HC2 : Hid (CJ bn V (i + 1) d w4 (ns.set i m) ((wr.setCell ⟨bn, i, none⟩ (.int .u64 (t : Int))).setCell ⟨bn, i, none⟩ (.int .u64 (m : Int)))) := by
            have := HC.out.step hil (t := t) (by rw [← hq]; exact ht)
            rw [← hm, ← hd] at this
            exact this
          have et : (q : Int) + (c : Int) = (t : Int) := by omega
          have ed : (t : Int) / 65536 = (d : Int) := by omega
          have em : bits .and .u64 (t : Int) 65535 = (m : Int) := by rw [hm]; exact mask16 t (by omega)
          have htl : t ≤ 137434759200 := by omega
          have hrow2 := Lib.hid (HC.out.row.set i t)
          have cn2 : (wr.setCell ⟨bn, i, none⟩ (.int .u64 (t : Int))).cell? ⟨bn, i, none⟩ = some (.int .u64 (t : Int)) := by
            rw [hrow2.out.cell (by rw [List.length_set]; exact hil), List.getElem_set, if_pos rfl]
          have fn2 : (wr.setCell ⟨bn, i, none⟩ (.int .u64 (t : Int))).frozen? ⟨bn, i, none⟩ = false := hrow2.out.free i
          clear hq ht hm hd hql hcl HC hil
          go_wp2_with fail
          go_roundw
          case rel => exact ⟨i + 1, d, by omega, by first | rfl | go_num, by go_num, _, HC2⟩
          case measure => simp [intOf]; omega
        · have hltz : ¬ (i : Int) < 8 := by omega
          obtain rfl : i = 8 := by omega
          have hns := HC.out.ends HAB.out
          subst hns
          have HROW := HC.out.row
          have HBB : Hid (Below bn w wr) := HBW.out.trans HC.out.b
          clear HC
          have lit : digs 8 V = [V % 65536, V / 65536 % 65536, V / 4294967296 % 65536, V / 281474976710656 % 65536, V / 18446744073709551616 % 65536, V / 1208925819614629174706176 % 65536, V / 79228162514264337593543950336 % 65536, V / 5192296858534827628530496329220096 % 65536] := by
            simp only [digs, Nat.div_div_eq_div_mul]
          obtain ⟨n0, n1, n2, n3, n4, n5, n6, n7, hlit, hb8, hval⟩ : ∃ n0 n1 n2 n3 n4 n5 n6 n7 : Nat, digs 8 V = [n0, n1, n2, n3, n4, n5, n6, n7] ∧ (n0 ≤ 65535 ∧ n1 ≤ 65535 ∧ n2 ≤ 65535 ∧ n3 ≤ 65535 ∧ n4 ≤ 65535 ∧ n5 ≤ 65535 ∧ n6 ≤ 65535 ∧ n7 ≤ 65535) ∧ V = n0 + 65536 * n1 + 4294967296 * n2 + 281474976710656 * n3 + 18446744073709551616 * (n4 + 65536 * n5 + 4294967296 * n6 + 281474976710656 * n7) :=
            ⟨_, _, _, _, _, _, _, _, lit, ⟨by omega, by omega, by omega, by omega, by omega, by omega, by omega, by omega⟩, by have := HAB.out; omega⟩
          rw [hlit] at HROW
          clear hlit lit
          have a0 := HROW.cell (i := 0) (by simp)
          have a1 := HROW.cell (i := 1) (by simp)
          have a2 := HROW.cell (i := 2) (by simp)
          have a3 := HROW.cell (i := 3) (by simp)
          have a4 := HROW.cell (i := 4) (by simp)
          have a5 := HROW.cell (i := 5) (by simp)
          have a6 := HROW.cell (i := 6) (by simp)
          have a7 := HROW.cell (i := 7) (by simp)
          simp only [List.getElem_cons_zero, List.getElem_cons_succ] at a0 a1 a2 a3 a4 a5 a6 a7
          clear HROW
          obtain ⟨N, hN⟩ : ∃ N, N = n0 + 65536 * n1 + 4294967296 * n2 + 281474976710656 * n3 := ⟨_, rfl⟩
          obtain ⟨h, hh⟩ : ∃ h, h = n4 + n5 + n6 + n7 := ⟨_, rfl⟩
          obtain ⟨z, hz⟩ : ∃ z, z = a * b := ⟨_, rfl⟩
          obtain ⟨sg, hsg⟩ : ∃ sg : Bool, sg = !(decide (a < 0) == decide (b < 0)) := ⟨_, rfl⟩
          have HZ : Hid (V = z.natAbs ∧ (sg = true → z ≤ 0) ∧ (sg = false → 0 ≤ z)) := Lib.hid ⟨by rw [HV.out, HXY.out.1, HXY.out.2, hz, szN_mul], fun h => by rw [hz]; exact mul_neg (hsg.symm.trans h), fun h => by rw [hz]; exact mul_pos' (hsg.symm.trans h)⟩
          have HVN : Hid ((h = 0 → V = N) ∧ (h ≠ 0 → 18446744073709551616 ≤ V)) := Lib.hid ⟨fun e => by omega, fun e => by omega⟩
          obtain ⟨b0, b1, b2, b3, b4, b5, b6, b7⟩ := hb8
          have HZ' := Lib.hid hz
          have HN := Lib.hid hN
          have HSG := Lib.hid hsg
          have eN : (n0 : Int) + (n1 : Int) * 65536 + (n2 : Int) * 4294967296 + (n3 : Int) * 281474976710656 = (N : Int) := by omega
          have eh : (n4 : Int) + (n5 : Int) + (n6 : Int) + (n7 : Int) = (h : Int) := by omega
          have bh : h ≤ 262140 := by omega
          have bN : N ≤ 18446744073709551615 := by omega
          clear hval hN hh hz hsg
          have HBF : Hid (Below w.heap.size w wr) := Lib.hid (by rw [HBN.out]; exact HBB.out)
          by_cases hh0 : h = 0
          · have eh0 : (n4 : Int) + (n5 : Int) + (n6 : Int) + (n7 : Int) = 0 := by omega
            have HV0 : Hid (V = N) := Lib.hid (HVN.out.1 hh0)
            clear eh hh0 bh
            by_cases hN1 : N > 9223372036854775808
            · have hN1' : (N : Int) > 9223372036854775808 := by omega
              have hno : ¬ I64 (a * b) := by
                have := HZ.out.1; have := HV0.out; have := HZ'.out
                rw [← HZ'.out]; unfold I64; omega
              go_wp2_with fail
              go_ret2
              exact ⟨ret2_int (amt_out hno).1.symm (amt_out hno).2.symm, HBF.out⟩
            · cases sg
              · have hS : (decide (a < 0) == decide (b < 0)) = true := by have := HSG.out; revert this; cases (decide (a < 0) == decide (b < 0)) <;> simp
                by_cases hN2 : N = 9223372036854775808
                · have hN2' : (N : Int) = 9223372036854775808 := by omega
                  have hno : ¬ I64 (a * b) := by
                    have := HZ.out.1; have := HZ.out.2.2 rfl; have := HV0.out
                    rw [← HZ'.out]; unfold I64; omega
                  clear hN1
                  go_wp2_with fail
                  go_ret2
                  exact ⟨ret2_int (amt_out hno).1.symm (amt_out hno).2.symm, HBF.out⟩
                · have hN1' : ¬ (N : Int) > 9223372036854775808 := by omega
                  have hN2' : ¬ (N : Int) = 9223372036854775808 := by omega
                  have hN3 : (N : Int) < 9223372036854775808 := by omega
                  have hyes : I64 (a * b) ∧ a * b = (N : Int) := by
                    have := HZ.out.1; have := HZ.out.2.2 rfl; have := HV0.out
                    rw [← HZ'.out]; unfold I64; omega
                  clear hN1 hN2
                  have HY := Lib.hid hyes
                  clear hyes
                  go_wp2_with fail
                  go_ret2
                  exact ⟨ret2_int (by rw [(amt_in HY.out.1).1, HY.out.2]) (amt_in HY.out.1).2.symm, HBF.out⟩
              · have hS : (decide (a < 0) == decide (b < 0)) = false := by have := HSG.out; revert this; cases (decide (a < 0) == decide (b < 0)) <;> simp
                have hN1' : ¬ (N : Int) > 9223372036854775808 := by omega
                have HY : Hid (I64 (a * b) ∧ a * b = -(N : Int)) := Lib.hid (by
                  have := HZ.out.1; have := HZ.out.2.1 rfl; have := HV0.out
                  rw [← HZ'.out]; unfold I64; omega)
                clear hN1
                by_cases hN2 : N = 9223372036854775808
                · have hN2' : (N : Int) = 9223372036854775808 := by omega
                  go_wp2_with fail
                  go_ret2
                  exact ⟨ret2_int (by rw [(amt_in HY.out.1).1, HY.out.2]; omega) (amt_in HY.out.1).2.symm, HBF.out⟩
                · have hN2' : ¬ (N : Int) = 9223372036854775808 := by omega
                  have hN3 : (N : Int) < 9223372036854775808 := by omega
                  clear hN2
                  by_cases hN0 : N = 0
                  · have hN4 : ¬ (N : Int) > 0 := by omega
                    go_wp2_with fail
                    go_ret2
                    exact ⟨ret2_int (by rw [(amt_in HY.out.1).1, HY.out.2]; omega) (amt_in HY.out.1).2.symm, HBF.out⟩
                  · have hN4 : (N : Int) > 0 := by omega
                    obtain ⟨m, hm⟩ : ∃ m, m = N - 1 := ⟨_, rfl⟩
                    have em : (N : Int) - 1 = (m : Int) := by omega
                    have bm : m ≤ 9223372036854775806 := by omega
                    have HMM : Hid (-(N : Int) = -(m : Int) - 1) := Lib.hid (by omega)
                    clear hN0 hm hN3 bN
                    go_wp2_with fail
                    go_ret2
                    exact ⟨ret2_int (by rw [(amt_in HY.out.1).1, HY.out.2, HMM.out]) (amt_in HY.out.1).2.symm, HBF.out⟩
          · have hhp : (h : Int) > 0 := by omega
            have hno : ¬ I64 (a * b) := by
              have := HZ.out.1; have := HVN.out.2 hh0
              rw [← HZ'.out]; unfold I64; omega
            go_wp2_with fail
            go_ret2
            exact ⟨ret2_int (amt_out hno).1.symm (amt_out hno).2.symm, HBF.out⟩
theorem rmul1_any (a b : Int) (w : World) (ha : I64 a) (hb : I64 b) : Calls Try.prog 44 #[.int .i64 a, .int .i64 b] w fun e w' => e = .returned (.tuple #[.int .i64 (amtV (a * b)), .int .i64 (amtE (a * b))]) ∧ Below w.heap.size w w' :=
  rmul1_walk a b _ _ w ha hb rfl rfl
end Go.Proofs.Ytglpnpjjjihghaa
