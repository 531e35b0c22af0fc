/-
  What complineref02.Cmp and Plus come to, over this seat's translation: contracts for callers.
-/
import Derived.Test.YtblplkajgbbkdaaRf2c
import Derived.Test.YtblplkajgbbkdaaShr6
namespace Go.Proofs.Ytblplkajgbbkdaa
open Go.RowKit Go.Lib Go.Sort

theorem digs_val : ∀ (n v : Nat), v < 65536 ^ n → val (digs n v) = v
  | 0, v, h => by simp at h; simp [digs, val, h]
  | n + 1, v, h => by
    have ih := digs_val n (v / 65536) (by rw [Nat.pow_succ] at h; exact (Nat.div_lt_iff_lt_mul (by omega)).2 h)
    simp only [digs, val, ih]
    omega
/-- From the highest digit down to the one at k they are alike. -/
def Alike (a b k : Nat) : Prop := a / 65536 ^ k = b / 65536 ^ k
theorem Alike.next {a b k : Nat} (h : Alike a b (k + 1)) (he : a / 65536 ^ k % 65536 = b / 65536 ^ k % 65536) : Alike a b k := by
  unfold Alike at *
  rw [Nat.pow_succ, ← Nat.div_div_eq_div_mul, ← Nat.div_div_eq_div_mul] at h
  omega
theorem Alike.lt {a b k : Nat} (h : Alike a b (k + 1)) (he : a / 65536 ^ k % 65536 < b / 65536 ^ k % 65536) : a < b := by
  unfold Alike at *
  rw [Nat.pow_succ, ← Nat.div_div_eq_div_mul, ← Nat.div_div_eq_div_mul] at h
  have h2 : a / 65536 ^ k < b / 65536 ^ k := by omega
  rcases Nat.lt_or_ge a b with h3 | h3
  · exact h3
  · have := Nat.div_le_div_right (c := 65536 ^ k) h3
    omega
/-- What Cmp says. -/
def cmpN (a b : Nat) : Int := if a < b then -1 else if b < a then 1 else 0
set_option maxHeartbeats 3200000 in
set_option maxRecDepth 100000 in
theorem rcmp_walk (a b n0 n1 n2 n3 n4 n5 n6 n7 m0 m1 m2 m3 m4 m5 m6 m7 : Nat) (w : World) (hn : digs 8 a = [n0, n1, n2, n3, n4, n5, n6, n7]) (hm : digs 8 b = [m0, m1, m2, m3, m4, m5, m6, m7]) (ha : a < 340282366920938463463374607431768211456) (hb : b < 340282366920938463463374607431768211456) :
    Calls Try.prog 53 #[.agg #[.int .u64 (n0 : Int), .int .u64 (n1 : Int), .int .u64 (n2 : Int), .int .u64 (n3 : Int), .int .u64 (n4 : Int), .int .u64 (n5 : Int), .int .u64 (n6 : Int), .int .u64 (n7 : Int)], .agg #[.int .u64 (m0 : Int), .int .u64 (m1 : Int), .int .u64 (m2 : Int), .int .u64 (m3 : Int), .int .u64 (m4 : Int), .int .u64 (m5 : Int), .int .u64 (m6 : Int), .int .u64 (m7 : Int)]] w fun e w' => e = .returned (.int .i64 (cmpN a b)) ∧ Below w.heap.size w w' := by
  have HN := Lib.hid hn
  have HM := Lib.hid hm
  have HA := Lib.hid ha
  have HB := Lib.hid hb
  clear hn hm ha hb
  go_enter Try.func53, Try.ntmps53
  go_wp2_with fail
  have HX : Hid (∀ w4, w4 = ((w.alloc (.cells #[.int .u64 (n0 : Int), .int .u64 (n1 : Int), .int .u64 (n2 : Int), .int .u64 (n3 : Int), .int .u64 (n4 : Int), .int .u64 (n5 : Int), .int .u64 (n6 : Int), .int .u64 (n7 : Int)] 78)).alloc (.cells #[.int .u64 (m0 : Int), .int .u64 (m1 : Int), .int .u64 (m2 : Int), .int .u64 (m3 : Int), .int .u64 (m4 : Int), .int .u64 (m5 : Int), .int .u64 (m6 : Int), .int .u64 (m7 : Int)] 78)) → RowU w4 w.heap.size (digs 8 a) ∧ RowU w4 (w.heap.size + 1) (digs 8 b) ∧ Below w.heap.size w w4 ∧ w.heap.size + 2 ≤ w4.heap.size) := by
    rintro w4 rfl
    have k1 := Deep.nblk_alloc
    rw [HN.out, HM.out]
    refine ⟨(RowU.new w [n0, n1, n2, n3, n4, n5, n6, n7]).alloc (by rw [k1]; omega) _, ?_, ((Below.refl _ _).alloc (Nat.le_refl _) _).alloc (by rw [k1]; omega) _, by rw [k1, k1]; omega⟩
    have := RowU.new (w.alloc (.cells #[.int .u64 (n0 : Int), .int .u64 (n1 : Int), .int .u64 (n2 : Int), .int .u64 (n3 : Int), .int .u64 (n4 : Int), .int .u64 (n5 : Int), .int .u64 (n6 : Int), .int .u64 (n7 : Int)] 78)) [m0, m1, m2, m3, m4, m5, m6, m7]
    rw [k1] at this
    exact this
  have HX2 := HX.out _ rfl
  clear HX HN HM
  generalize ((w.alloc (.cells #[.int .u64 (n0 : Int), .int .u64 (n1 : Int), .int .u64 (n2 : Int), .int .u64 (n3 : Int), .int .u64 (n4 : Int), .int .u64 (n5 : Int), .int .u64 (n6 : Int), .int .u64 (n7 : Int)] 78)).alloc (.cells #[.int .u64 (m0 : Int), .int .u64 (m1 : Int), .int .u64 (m2 : Int), .int .u64 (m3 : Int), .int .u64 (m4 : Int), .int .u64 (m5 : Int), .int .u64 (m6 : Int), .int .u64 (m7 : Int)] 78)) = w4 at HX2 ⊢
  generalize hb1 : w.heap.size + 1 = bb at HX2 ⊢
  obtain ⟨hra, hrb, hbw, hsz⟩ := HX2
  have HRA := Lib.hid hra
  have HRB := Lib.hid hrb
  have HBW := Lib.hid hbw
  have hbb : bb < w4.heap.size := by omega
  have hwb : w.heap.size < w4.heap.size := by omega
  clear hra hrb hbw hb1 hsz
  go_loopw [5] (fun s5 wr => ∃ m : Nat, m ≤ 8 ∧ s5 = .int .i64 ((m : Int) - 1) ∧ Hid (Alike a b m) ∧ Hid (Below w4.heap.size w4 wr)) (fun i _ => (intOf i + 1).toNat)
  case atStart =>
    refine ⟨8, by omega, rfl, ?_, Below.refl _ _⟩
    show _ / _ = _ / _
    rw [Nat.div_eq_of_lt HA.out, Nat.div_eq_of_lt HB.out]
  case round =>
    obtain ⟨m, hm, rfl, HS, HBB⟩ := hrel
    have HBx : Hid (Below w.heap.size w wr) := HBW.out.trans (HBB.out.mono (by omega))
    by_cases h0 : m = 0
    · subst h0
      have e : cmpN a b = 0 := by
        have := HS.out
        unfold Alike at this
        simp at this
        unfold cmpN
        rw [if_neg (by omega), if_neg (by omega)]
      have HE := Lib.hid e
      clear e
      go_wp2_with fail
      go_ret
      exact ⟨by rw [HE.out]; rfl, HBx.out⟩
    · obtain ⟨j, rfl⟩ : ∃ im, m = im + 1 := ⟨m - 1, by omega⟩
      rw [show (((j + 1 : Nat) : Int) - 1) = (j : Int) by omega]
      have hja : j < (digs 8 a).length := by rw [digs_len]; omega
      have hjb : j < (digs 8 b).length := by rw [digs_len]; omega
      have HCA : Hid (∀ W, Below w4.heap.size w4 W → W.cell? ⟨w.heap.size, j, none⟩ = some (.int .u64 ((a / 65536 ^ j % 65536 : Nat) : Int))) := fun W hW => by rw [(HRA.out.below hwb hW).cell hja, digs_at]
      have HCB : Hid (∀ W, Below w4.heap.size w4 W → W.cell? ⟨bb, j, none⟩ = some (.int .u64 ((b / 65536 ^ j % 65536 : Nat) : Int))) := fun W hW => by rw [(HRB.out.below hbb hW).cell hjb, digs_at]
      clear hja hjb
      have HN9 := Lib.hid (fun he => HS.out.next (k := j) he)
      have HL9 := Lib.hid (fun he => HS.out.lt (k := j) he)
      have HG9 : Hid (b / 65536 ^ j % 65536 < a / 65536 ^ j % 65536 → b < a) := fun he => Alike.lt (k := j) HS.out.symm he
      generalize a / 65536 ^ j % 65536 = x at *
      generalize b / 65536 ^ j % 65536 = y at *
      have ca := HCA.out _ HBB.out
      have cb := HCB.out _ HBB.out
      have i1 : (0 : Int) ≤ (j : Int) := by omega
      have i2 : (j : Int) < 8 := by omega
      by_cases c1 : x < y
      · have d1 : decide (x < y) = true := decide_eq_true c1
        have d2 : decide ((x : Int) < (y : Int)) = true := decide_eq_true (by omega)
        have HE : Hid (cmpN a b = -1) := by show _ = _; unfold cmpN; rw [if_pos (HL9.out c1)]
        go_wp2_with fail
        go_quiet (fail)
        have HBn := Lib.hid (below_drewN HBx.out nq)
        clear ca cb
        generalize wr.drewN nq = w5 at HBn ⊢
        go_wp2_with fail
        go_ret
        exact ⟨by rw [HE.out]; rfl, HBn.out⟩
      · have d1 : decide (x < y) = false := decide_eq_false c1
        have d2 : decide ((x : Int) < (y : Int)) = false := decide_eq_false (by omega)
        go_wp2_with fail
        go_quiet (fail)
        have HBn := Lib.hid (below_drewN HBB.out nq)
        have HBy := Lib.hid (below_drewN HBx.out nq)
        clear ca cb d1 d2 HBB HBx
        generalize wr.drewN nq = w5 at HBn HBy ⊢
        clear nq
        have ca := HCA.out _ HBn.out
        have cb := HCB.out _ HBn.out
        by_cases c2 : y < x
        · have d1 : decide (y < x) = true := decide_eq_true c2
          have d2 : decide ((y : Int) < (x : Int)) = true := decide_eq_true (by omega)
          have HE : Hid (cmpN a b = 1) := by show _ = _; unfold cmpN; have := HG9.out c2; rw [if_neg (by omega), if_pos this]
          go_wp2_with fail
          go_quiet (fail)
          have HBz := Lib.hid (below_drewN HBy.out nq)
          clear ca cb
          generalize w5.drewN nq = w6 at HBz ⊢
          go_wp2_with fail
          go_ret
          exact ⟨by rw [HE.out]; rfl, HBz.out⟩
        · have d1 : decide (y < x) = false := decide_eq_false c2
          have d2 : decide ((y : Int) < (x : Int)) = false := decide_eq_false (by omega)
          have HS2 := Lib.hid (HN9.out (by omega))
          go_wp2_with fail
          go_quiet (fail)
          have HBz := Lib.hid (below_drewN HBn.out nq)
          clear ca cb
          generalize w5.drewN nq = w6 at HBz ⊢
          go_wp2_with fail
          go_roundw
          case rel => exact ⟨j, by omega, by first | rfl | go_num, HS2, HBz⟩
          case measure => simp [intOf]
theorem rcmp_any (a b : Nat) (w : World) (ha : a < 340282366920938463463374607431768211456) (hb : b < 340282366920938463463374607431768211456) :
    Calls Try.prog 53 #[numV a, numV b] w fun e w' => e = .returned (.int .i64 (cmpN a b)) ∧ Below w.heap.size w w' := by
  obtain ⟨n0, n1, n2, n3, n4, n5, n6, n7, h1, h2⟩ := numV_digs a
  obtain ⟨m0, m1, m2, m3, m4, m5, m6, m7, g1, g2⟩ := numV_digs b
  rw [h2, g2]
  exact rcmp_walk a b n0 n1 n2 n3 n4 n5 n6 n7 m0 m1 m2 m3 m4 m5 m6 m7 w h1 g1 ha hb
/-- While two numbers are added, digit by digit. -/
structure PI (b0 b1 b2 b3 a b i c : Nat) (w4 : World) (ns : List Nat) (wr : World) : Prop where
  ra : RowU wr b0 (digs 8 a)
  rb : RowU wr b1 (digs 8 b)
  rr : RowU wr b2 [0, 0, 0, 0, 0, 0, 0, 0]
  rn : RowU wr b3 ns
  len : ns.length = 8
  lo : ∀ j (h : j < ns.length), ns[j] < 65536
  hi : ∀ j (h : j < ns.length), i ≤ j → ns[j] = 0
  vl : val ns + c * 65536 ^ i = a % 65536 ^ i + b % 65536 ^ i
  cb : c ≤ 1
  bw : Below b0 w4 wr
  d1 : b0 < b1
  d2 : b1 < b2
  d3 : b2 < b3
theorem PI.step {b0 b1 b2 b3 a b i c t x y : Nat} {w4 wr : World} {ns : List Nat} (h : PI b0 b1 b2 b3 a b i c w4 ns wr) (hi : i < ns.length) (hx : x = a / 65536 ^ i % 65536) (hy : y = b / 65536 ^ i % 65536) (ht : t = x + y + c) :
    PI b0 b1 b2 b3 a b (i + 1) (t / 65536) w4 (ns.set i (t % 65536)) ((wr.setCell ⟨b3, i, none⟩ (.int .u64 (t : Int))).drew.setCell ⟨b3, i, none⟩ (.int .u64 ((t % 65536 : Nat) : Int))) := by
  have d1 := h.d1; have d2 := h.d2; have d3 := h.d3; have hc := h.cb
  refine ⟨?_, ?_, ?_, ?_, by rw [List.length_set]; exact h.len, fun j hj => ?_, fun j hj hij => ?_, ?_, by omega, ((h.bw.setCell (by dsimp only; omega) _).drew).setCell (by dsimp only; omega) _, d1, d2, d3⟩
  · exact ((h.ra.other _ (by dsimp only; omega)).drew).other _ (by dsimp only; omega)
  · exact ((h.rb.other _ (by dsimp only; omega)).drew).other _ (by dsimp only; omega)
  · exact ((h.rr.other _ (by dsimp only; omega)).drew).other _ (by dsimp only; omega)
  · have := ((h.rn.set i t).drew).set i (t % 65536)
    rw [List.set_set] at this
    exact this
  · rw [List.length_set] at hj
    rw [List.getElem_set]
    split
    · omega
    · exact h.lo j hj
  · rw [List.length_set] at hj
    rw [List.getElem_set, if_neg (by omega)]
    exact h.hi j hj (by omega)
  · have hv := val_set ns i hi (t % 65536)
    rw [h.hi i hi (Nat.le_refl _), Nat.zero_mul, Nat.add_zero] at hv
    have h1 := h.vl
    rw [hv, Nat.mod_pow_succ, Nat.mod_pow_succ, ← hx, ← hy, Nat.pow_succ, ← Nat.mul_assoc, Nat.mul_right_comm]
    have e : t / 65536 * 65536 * 65536 ^ i + t % 65536 * 65536 ^ i = 65536 ^ i * x + 65536 ^ i * y + c * 65536 ^ i := by
      rw [← Nat.add_mul, Nat.mul_comm (65536 ^ i) x, Nat.mul_comm (65536 ^ i) y, ← Nat.add_mul, ← Nat.add_mul]
      congr 1
      omega
    generalize t / 65536 * 65536 * 65536 ^ i = A at *
    generalize t % 65536 * 65536 ^ i = B at *
    generalize 65536 ^ i * x = C at *
    generalize 65536 ^ i * y = D at *
    generalize c * 65536 ^ i = E at *
    omega
theorem PI.ends {b0 b1 b2 b3 a b c : Nat} {w4 wr : World} {ns : List Nat} (h : PI b0 b1 b2 b3 a b 8 c w4 ns wr) (hs : a + b < 340282366920938463463374607431768211456) : c = 0 ∧ ns = digs 8 (a + b) := by
  have h1 := h.vl
  have e8 : (65536 : Nat) ^ 8 = 340282366920938463463374607431768211456 := by decide
  rw [e8, Nat.mod_eq_of_lt (by omega), Nat.mod_eq_of_lt (by omega)] at h1
  have hc : c = 0 := by omega
  subst hc
  refine ⟨rfl, ?_⟩
  have hd := digs_of ns fun x hx => by
    obtain ⟨j, hj, rfl⟩ := List.mem_iff_getElem.1 hx
    exact h.lo j hj
  rw [h.len, show val ns = a + b by omega] at hd
  exact hd
set_option maxHeartbeats 3200000 in
set_option maxRecDepth 100000 in
theorem rplus_walk (a b n0 n1 n2 n3 n4 n5 n6 n7 m0 m1 m2 m3 m4 m5 m6 m7 : Nat) (w : World) (hn : digs 8 a = [n0, n1, n2, n3, n4, n5, n6, n7]) (hm : digs 8 b = [m0, m1, m2, m3, m4, m5, m6, m7]) (hab : a + b < 340282366920938463463374607431768211456) :
    Calls Try.prog 54 #[.agg #[.int .u64 (n0 : Int), .int .u64 (n1 : Int), .int .u64 (n2 : Int), .int .u64 (n3 : Int), .int .u64 (n4 : Int), .int .u64 (n5 : Int), .int .u64 (n6 : Int), .int .u64 (n7 : Int)], .agg #[.int .u64 (m0 : Int), .int .u64 (m1 : Int), .int .u64 (m2 : Int), .int .u64 (m3 : Int), .int .u64 (m4 : Int), .int .u64 (m5 : Int), .int .u64 (m6 : Int), .int .u64 (m7 : Int)]] w fun e w' => e = .returned (.tuple #[numV (a + b), .bool true]) ∧ Below w.heap.size w w' := by
  have HN := Lib.hid hn
  have HM := Lib.hid hm
  have HAB := Lib.hid hab
  clear hn hm hab
  go_enter Try.func54, Try.ntmps54
  go_wp2_with fail
  have HX : Hid (∀ w4, w4 = ((((w.alloc (.cells #[.int .u64 (n0 : Int), .int .u64 (n1 : Int), .int .u64 (n2 : Int), .int .u64 (n3 : Int), .int .u64 (n4 : Int), .int .u64 (n5 : Int), .int .u64 (n6 : Int), .int .u64 (n7 : Int)] 78)).alloc (.cells #[.int .u64 (m0 : Int), .int .u64 (m1 : Int), .int .u64 (m2 : Int), .int .u64 (m3 : Int), .int .u64 (m4 : Int), .int .u64 (m5 : Int), .int .u64 (m6 : Int), .int .u64 (m7 : Int)] 78)).alloc (.cells #[.int .u64 0, .int .u64 0, .int .u64 0, .int .u64 0, .int .u64 0, .int .u64 0, .int .u64 0, .int .u64 0] 78)).alloc (.cells #[.int .u64 0, .int .u64 0, .int .u64 0, .int .u64 0, .int .u64 0, .int .u64 0, .int .u64 0, .int .u64 0] 78)) → PI w.heap.size (w.heap.size + 1) (w.heap.size + 1 + 1) (w.heap.size + 1 + 1 + 1) a b 0 0 w [0, 0, 0, 0, 0, 0, 0, 0] w4) := by
    rintro w4 rfl
    have k1 := Deep.nblk_alloc
    have zs : ∀ x ∈ [0, 0, 0, 0, 0, 0, 0, (0 : Nat)], x = 0 := by simp
    refine ⟨?_, ?_, ?_, ?_, rfl, fun j hj => by rw [zs _ (List.getElem_mem hj)]; omega, fun j hj _ => zs _ (List.getElem_mem hj), by simp [val, Nat.mod_one], by omega, (((((Below.refl _ _).alloc (Nat.le_refl _) _).alloc (by rw [k1]; omega) _).alloc (by rw [k1, k1]; omega) _).alloc (by rw [k1, k1, k1]; omega) _), by omega, by omega, by omega⟩
    · rw [HN.out]
      exact (((RowU.new w [n0, n1, n2, n3, n4, n5, n6, n7]).alloc (by rw [k1]; omega) _).alloc (by rw [k1, k1]; omega) _).alloc (by rw [k1, k1, k1]; omega) _
    · rw [HM.out]
      have := RowU.new (w.alloc (.cells #[.int .u64 (n0 : Int), .int .u64 (n1 : Int), .int .u64 (n2 : Int), .int .u64 (n3 : Int), .int .u64 (n4 : Int), .int .u64 (n5 : Int), .int .u64 (n6 : Int), .int .u64 (n7 : Int)] 78)) [m0, m1, m2, m3, m4, m5, m6, m7]
      rw [k1] at this
      exact (this.alloc (by rw [k1, k1]; omega) _).alloc (by rw [k1, k1, k1]; omega) _
    · have := RowU.new ((w.alloc (.cells #[.int .u64 (n0 : Int), .int .u64 (n1 : Int), .int .u64 (n2 : Int), .int .u64 (n3 : Int), .int .u64 (n4 : Int), .int .u64 (n5 : Int), .int .u64 (n6 : Int), .int .u64 (n7 : Int)] 78)).alloc (.cells #[.int .u64 (m0 : Int), .int .u64 (m1 : Int), .int .u64 (m2 : Int), .int .u64 (m3 : Int), .int .u64 (m4 : Int), .int .u64 (m5 : Int), .int .u64 (m6 : Int), .int .u64 (m7 : Int)] 78)) [0, 0, 0, 0, 0, 0, 0, 0]
      rw [k1, k1] at this
      exact this.alloc (by rw [k1, k1, k1]; omega) _
    · have := RowU.new (((w.alloc (.cells #[.int .u64 (n0 : Int), .int .u64 (n1 : Int), .int .u64 (n2 : Int), .int .u64 (n3 : Int), .int .u64 (n4 : Int), .int .u64 (n5 : Int), .int .u64 (n6 : Int), .int .u64 (n7 : Int)] 78)).alloc (.cells #[.int .u64 (m0 : Int), .int .u64 (m1 : Int), .int .u64 (m2 : Int), .int .u64 (m3 : Int), .int .u64 (m4 : Int), .int .u64 (m5 : Int), .int .u64 (m6 : Int), .int .u64 (m7 : Int)] 78)).alloc (.cells #[.int .u64 0, .int .u64 0, .int .u64 0, .int .u64 0, .int .u64 0, .int .u64 0, .int .u64 0, .int .u64 0] 78)) [0, 0, 0, 0, 0, 0, 0, 0]
      rw [k1, k1, k1] at this
      exact this
  have HP0 := Lib.hid (HX.out _ rfl)
  clear HX HN HM
  generalize ((((w.alloc (.cells #[.int .u64 (n0 : Int), .int .u64 (n1 : Int), .int .u64 (n2 : Int), .int .u64 (n3 : Int), .int .u64 (n4 : Int), .int .u64 (n5 : Int), .int .u64 (n6 : Int), .int .u64 (n7 : Int)] 78)).alloc (.cells #[.int .u64 (m0 : Int), .int .u64 (m1 : Int), .int .u64 (m2 : Int), .int .u64 (m3 : Int), .int .u64 (m4 : Int), .int .u64 (m5 : Int), .int .u64 (m6 : Int), .int .u64 (m7 : Int)] 78)).alloc (.cells #[.int .u64 0, .int .u64 0, .int .u64 0, .int .u64 0, .int .u64 0, .int .u64 0, .int .u64 0, .int .u64 0] 78)).alloc (.cells #[.int .u64 0, .int .u64 0, .int .u64 0, .int .u64 0, .int .u64 0, .int .u64 0, .int .u64 0, .int .u64 0] 78)) = w4 at HP0 ⊢
  generalize w.heap.size + 1 + 1 + 1 = b3 at HP0 ⊢
  generalize w.heap.size + 1 + 1 = b2 at HP0 ⊢
  generalize w.heap.size + 1 = b1 at HP0 ⊢
  go_loopw [7, 8] (fun u v wr => ∃ i c : Nat, i ≤ 8 ∧ u = .int .u64 c ∧ v = .int .i64 i ∧ ∃ ns : List Nat, Hid (PI w.heap.size b1 b2 b3 a b i c w ns wr)) (fun _ v _ => 8 - (intOf v).toNat)
  case atStart => exact ⟨0, 0, by omega, rfl, rfl, _, HP0⟩
  case round =>
    clear HP0
    obtain ⟨i, c, hi, rfl, rfl, ns, HP⟩ := hrel
    by_cases hlt : i < 8
    · have hltz : (i : Int) < 8 := by omega
      have hil : i < ns.length := by have := HP.out.len; omega
      have ha8 : i < (digs 8 a).length := by rw [digs_len]; exact hlt
      have hb8 : i < (digs 8 b).length := by rw [digs_len]; exact hlt
      obtain ⟨x, hx⟩ : ∃ x, x = a / 65536 ^ i % 65536 := ⟨_, rfl⟩
      obtain ⟨y, hy⟩ : ∃ y, y = b / 65536 ^ i % 65536 := ⟨_, rfl⟩
      obtain ⟨t, ht⟩ : ∃ t, t = x + y + c := ⟨_, rfl⟩
      obtain ⟨m, hm⟩ : ∃ m, m = t % 65536 := ⟨_, rfl⟩
      obtain ⟨d, hd⟩ : ∃ d, d = t / 65536 := ⟨_, rfl⟩
      have hxl : x < 65536 := by rw [hx]; exact Nat.mod_lt _ (by omega)
      have hyl : y < 65536 := by rw [hy]; exact Nat.mod_lt _ (by omega)
      have hcl := HP.out.cb
      have ca := HP.out.ra.cell ha8
      have cb := HP.out.rb.cell hb8
      rw [digs_at, ← hx] at ca
      rw [digs_at, ← hy] at cb
      have cn := HP.out.rn.cell hil
      rw [HP.out.hi i hil (Nat.le_refl _)] at cn
      have fnn := HP.out.rn.free i
      have HRT : Hid (RowU (wr.setCell ⟨b3, i, none⟩ (.int .u64 (t : Int))).drew b3 (ns.set i t)) := (HP.out.rn.set i t).drew
      have HP2 : Hid (PI w.heap.size b1 b2 b3 a b (i + 1) d w (ns.set i m) ((wr.setCell ⟨b3, i, none⟩ (.int .u64 (t : Int))).drew.setCell ⟨b3, i, none⟩ (.int .u64 (m : Int)))) := by
        have := HP.out.step hil hx hy ht
        rw [← hm, ← hd] at this
        exact this
      have et : (x : Int) + (y : Int) + (c : Int) = (t : Int) := by omega
      have ed : (t : Int) / 65536 = (d : Int) := by omega
      have em : bits .and .u64 (t : Int) 65535 = (m : Int) := by rw [hm]; exact mask16 t (by omega)
      have htl : t ≤ 131071 := by omega
      have r1 : IntKind.u64.wrap ((x : Int) + (y : Int)) = (x : Int) + (y : Int) := by rw [IntKind.wrap_u64]; omega
      have r2 : IntKind.u64.wrap (t : Int) = (t : Int) := by rw [IntKind.wrap_u64]; omega
      have i1 : (0 : Int) ≤ (i : Int) := by omega
      have HIL := Lib.hid hil
      clear hx hy ht hm hd ha8 hb8 HP hil
      go_wp2_with fail
      go_big_region
      clear ca cb cn fnn r1
      generalize (wr.setCell ⟨b3, i, none⟩ (.int .u64 (t : Int))).drew = w5 at HP2 HRT ⊢
      have cn : w5.cell? ⟨b3, i, none⟩ = some (.int .u64 (t : Int)) := by rw [HRT.out.cell (by rw [List.length_set]; exact HIL.out), List.getElem_set, if_pos rfl]
      have fnn := HRT.out.free i
      clear et r2
      go_wp2_with fail
      go_roundw
      case rel => exact ⟨i + 1, d, by omega, by first | rfl | go_num, by go_num, _, HP2⟩
      case measure => simp [intOf]; omega
    · have hltz : ¬ (i : Int) < 8 := by omega
      obtain rfl : i = 8 := by omega
      obtain ⟨hc, hns⟩ := HP.out.ends HAB.out
      subst hc hns
      have HROW := HP.out.rn
      have HRES := HP.out.rr
      have hd9 := HP.out.d1
      have hd8 := HP.out.d2
      have HBB := Lib.hid HP.out.bw
      obtain ⟨k0, k1, k2, k3, k4, k5, k6, k7, hlit, hnv⟩ := numV_digs (a + b)
      have HNV := Lib.hid hnv
      rw [hlit] at HROW
      clear hlit hnv HP
      have a0 := HROW.cell (i := 0) (by simp)
      have a1 := HROW.cell (i := 1) (by simp)
      have a2 := HROW.cell (i := 2) (by simp)
      have a3 := HROW.cell (i := 3) (by simp)
      have a4 := HROW.cell (i := 4) (by simp)
      have a5 := HROW.cell (i := 5) (by simp)
      have a6 := HROW.cell (i := 6) (by simp)
      have a7 := HROW.cell (i := 7) (by simp)
      simp only [List.getElem_cons_zero, List.getElem_cons_succ] at a0 a1 a2 a3 a4 a5 a6 a7
      have r0 := HRES.cell (i := 0) (by simp)
      have r1 := HRES.cell (i := 1) (by simp)
      have r2 := HRES.cell (i := 2) (by simp)
      have r3 := HRES.cell (i := 3) (by simp)
      have r4 := HRES.cell (i := 4) (by simp)
      have r5 := HRES.cell (i := 5) (by simp)
      have r6 := HRES.cell (i := 6) (by simp)
      have r7 := HRES.cell (i := 7) (by simp)
      have g0 := HRES.free 0
      have g1 := HRES.free 1
      have g2 := HRES.free 2
      have g3 := HRES.free 3
      have g4 := HRES.free 4
      have g5 := HRES.free 5
      have g6 := HRES.free 6
      have g7 := HRES.free 7
      have HRESH := Lib.hid HRES
      clear HROW HRES
      go_wp2_with fail
      refine bodyPost_ret (v := .tuple #[.agg #[.int .u64 (k0 : Int), .int .u64 (k1 : Int), .int .u64 (k2 : Int), .int .u64 (k3 : Int), .int .u64 (k4 : Int), .int .u64 (k5 : Int), .int .u64 (k6 : Int), .int .u64 (k7 : Int)], .bool true]) (by simp [results, Try.results54, go_sem, r0, r1, r2, r3, r4, r5, r6, r7]) rfl ⟨by rw [HNV.out], ?_⟩
      have q : w.heap.size ≤ b2 := by omega
      exact (((((((HBB.out.setCell q _).setCell q _).setCell q _).setCell q _).setCell q _).setCell q _).setCell q _).setCell q _
theorem rplus_any (a b : Nat) (w : World) (hab : a + b < 340282366920938463463374607431768211456) :
    Calls Try.prog 54 #[numV a, numV b] w fun e w' => e = .returned (.tuple #[numV (a + b), .bool true]) ∧ Below w.heap.size w w' := by
  obtain ⟨n0, n1, n2, n3, n4, n5, n6, n7, h1, h2⟩ := numV_digs a
  obtain ⟨m0, m1, m2, m3, m4, m5, m6, m7, g1, g2⟩ := numV_digs b
  have := rplus_walk a b n0 n1 n2 n3 n4 n5 n6 n7 m0 m1 m2 m3 m4 m5 m6 m7 w h1 g1 hab
  rw [← h2, ← g2] at this
  exact this
end Go.Proofs.Ytblplkajgbbkdaa
