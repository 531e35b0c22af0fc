/-
  Several texts in one: Shr1, Shr2, Shr3, Shr4, Shr5, Shr6.
-/
import Derived.Test.YtglpnpjjjihghaaMgC
import Derived.Test.YtglpnpjjjihghaaMem
import Derived.Below
import Derived.Test.YtglpnpjjjihghaaMoneySumD
import Derived.Test.YtglpnpjjjihghaaMgB
import Derived.Test.YtglpnpjjjihghaaMgA
import Derived.Deep.Heap
import Derived.Laws.OwnMore
import Derived.Sort.OwnSortedInts
import Derived.Deep.QuietTactic
import Derived.BigQuiet
import Derived.Deep.RegionHeld3
/-
  What wide.Mul, wide.Div, wide.MulDiv, share.Quota and cmp.Compare come to, over this seat's translation: contracts for callers.
-/
namespace Go.Proofs.Ytglpnpjjjihghaa
open Go.RowKit Go.Lib Go.Proofs.Ytglpnpjjjihghaa.DivLaw

set_option maxHeartbeats 800000 in
theorem wmul_any (a b : Nat) (w : World) (ha : a < 18446744073709551616) (hb : b < 18446744073709551616) :
    Calls Try.prog 134 #[.int .u64 a, .int .u64 b] w fun e w' => e = .returned (.agg #[.int .u64 ((a * b / 18446744073709551616 : Nat) : Int), .int .u64 ((a * b % 18446744073709551616 : Nat) : Int)]) ∧ Below w.heap.size w w' := by
  have HC := fun W => Lib.hid (Try.bits_Mul64 a b ha hb W)
  clear ha hb
  generalize a * b / 18446744073709551616 = H at *
  generalize a * b % 18446744073709551616 = L at *
  go_enter Try.func134, Try.ntmps134
  go_wp2_with fail
  refine (HC _).out.mono ?_
  rintro e w' ⟨rfl, rfl⟩
  go_wp2_with fail
  exact bodyPost_ret (v := .agg #[.int .u64 (H : Int), .int .u64 (L : Int)]) (by simp [results, Try.results134, go_sem]) rfl ⟨rfl, (Below.refl _ _).alloc (Nat.le_refl _) _⟩

set_option maxHeartbeats 800000 in
theorem wdiv_any (hi lo c D M : Nat) (w : World) (h2 : hi < c) (h3 : c < 18446744073709551616) (hlo : lo < 18446744073709551616) (hD : (hi * 18446744073709551616 + lo) / c = D) (hM : (hi * 18446744073709551616 + lo) % c = M) :
    Calls Try.prog 133 #[.agg #[.int .u64 hi, .int .u64 lo], .int .u64 c] w fun e w' => e = .returned (.tuple #[.int .u64 (D : Int), .int .u64 (M : Int), .int .i64 0]) ∧ Below w.heap.size w w' := by
  have HC := fun W => Lib.hid (div64_any hi lo c W h2 h3 hlo)
  rw [hD, hM] at HC
  clear h3 hlo hD hM
  have z1 : ((c : Int) == 0) = false := by rw [beq_eq_false_iff_ne]; omega
  have z3 : ¬ (c : Int) ≤ (hi : Int) := by omega
  go_enter Try.func133, Try.ntmps133
  go_wp2_with fail
  refine (HC _).out.mono ?_
  rintro e w' ⟨rfl, n, rfl⟩
  go_wp2_with fail
  go_ret3
  exact ⟨rfl, below_drewN ((Below.refl _ _).alloc (Nat.le_refl _) _) n⟩

set_option maxHeartbeats 800000 in
theorem muldiv_any (a b c : Nat) (w : World) (ha : a < 18446744073709551616) (hb : b < 18446744073709551616) (h2 : a * b / 18446744073709551616 < c) (h3 : c < 18446744073709551616) :
    Calls Try.prog 129 #[.int .u64 a, .int .u64 b, .int .u64 c] w fun e w' => e = .returned (.tuple #[.int .u64 ((a * b / c : Nat) : Int), .int .u64 ((a * b % c : Nat) : Int), .int .i64 0]) ∧ Below w.heap.size w w' := by
  have HC := fun W => Lib.hid (wmul_any a b W ha hb)
  have e : a * b / 18446744073709551616 * 18446744073709551616 + a * b % 18446744073709551616 = a * b := by omega
  have HD := fun W => Lib.hid (wdiv_any (a * b / 18446744073709551616) (a * b % 18446744073709551616) c (a * b / c) (a * b % c) W h2 h3 (by omega) (by rw [e]) (by rw [e]))
  clear e ha hb h2 h3
  generalize a * b / 18446744073709551616 = H at *
  generalize a * b % 18446744073709551616 = L at *
  generalize a * b / c = D at *
  generalize a * b % c = M at *
  go_enter Try.func129, Try.ntmps129
  go_wp2_with fail
  refine (HC _).out.mono ?_
  rintro e w1 ⟨rfl, hb1⟩
  have HB := Lib.hid hb1
  clear hb1
  go_wp2_with fail
  refine (HD _).out.mono ?_
  rintro e w2 ⟨rfl, hb2⟩
  have HB2 := Lib.hid (HB.out.trans (hb2.mono HB.out.size))
  clear hb2
  go_wp2_with fail
  go_ret3
  exact ⟨rfl, HB2.out⟩

set_option maxHeartbeats 800000 in
theorem quota_any (T wt S : Nat) (w : World) (hT : T < 9223372036854775808) (hw : wt ≤ S) (h0 : 0 < S) (hS : S < 9223372036854775808) :
    Calls Try.prog 118 #[.int .i64 T, .int .i64 wt, .int .i64 S] w fun e w' => e = .returned (.tuple #[.int .i64 ((T * wt / S : Nat) : Int), .int .i64 ((T * wt % S : Nat) : Int), .int .i64 0]) ∧ Below w.heap.size w w' := by
  have hm : T * wt ≤ 9223372036854775807 * S := Nat.mul_le_mul (by omega) hw
  have hd1 : T * wt / 18446744073709551616 < S := (Nat.div_lt_iff_lt_mul (by omega)).2 (by omega)
  have hq : T * wt / S ≤ T := by
    have := Nat.div_le_div_right (c := S) (Nat.mul_le_mul_left T hw)
    rw [Nat.mul_div_cancel _ h0] at this
    exact this
  have hr : T * wt % S < S := Nat.mod_lt _ h0
  have HC := fun W => Lib.hid (muldiv_any T wt S W (by omega) (by omega) hd1 (by omega))
  clear hm hd1
  generalize T * wt / S = D at *
  generalize T * wt % S = M at *
  have z1 : ((S : Int) == 0) = false := by rw [beq_eq_false_iff_ne]; omega
  have z2 : ¬ (S : Int) < (wt : Int) := by omega
  have z3 : ¬ (T : Int) < 0 := by omega
  have z4 : ¬ (wt : Int) < 0 := by omega
  go_enter Try.func118, Try.ntmps118
  go_wp2_with fail
  refine (HC _).out.mono ?_
  rintro e w1 ⟨rfl, hb1⟩
  have HB := Lib.hid hb1
  clear hb1
  go_wp2_with fail
  go_ret3
  exact ⟨rfl, HB.out⟩
/-- May a part be asked? -/
def askB (T wt S : Int) : Bool := !(decide (T < 0) || decide (wt < 0) || decide (S < wt) || (S == 0))
set_option maxHeartbeats 800000 in
theorem quota_bad (T wt S : Int) (w : World) (h : askB T wt S = false) :
    Calls Try.prog 118 #[.int .i64 T, .int .i64 wt, .int .i64 S] w fun e w' => e = .returned (.tuple #[.int .i64 0, .int .i64 0, .int .i64 1]) ∧ w = w' := by
  unfold askB at h
  by_cases h1 : T < 0
  · clear h
    go_enter Try.func118, Try.ntmps118
    go_wp2_with fail
    go_ret3
    exact ⟨rfl, rfl⟩
  · by_cases h2 : wt < 0
    · clear h
      go_enter Try.func118, Try.ntmps118
      go_wp2_with fail
      go_ret3
      exact ⟨rfl, rfl⟩
    · by_cases h3 : S < wt
      · clear h
        go_enter Try.func118, Try.ntmps118
        go_wp2_with fail
        go_ret3
        exact ⟨rfl, rfl⟩
      · have h4 : (S == 0) = true := by simpa [h1, h2, h3] using h
        clear h
        go_enter Try.func118, Try.ntmps118
        go_wp2_with fail
        go_ret3
        exact ⟨rfl, rfl⟩

theorem nan_any (x : Int) (w : World) : Calls Try.prog 131 #[.int .i64 x] w fun e w' => e = .returned (.bool false) ∧ w = w' := by
  go_enter Try.func131, Try.ntmps131
  go_wp2
  go_ret
  simp
/-- What Compare says. -/
def cmpI (x y : Int) : Int := if x < y then -1 else if y < x then 1 else 0
theorem cmpI_neg (x y : Int) : cmpI x y < 0 ↔ x < y := by unfold cmpI; split <;> (try split) <;> omega
set_option maxHeartbeats 800000 in
theorem compare_any (x y : Int) (w : World) : Calls Try.prog 121 #[.int .i64 x, .int .i64 y] w fun e w' => e = .returned (.int .i64 (cmpI x y)) ∧ w = w' := by
  go_enter Try.func121, Try.ntmps121
  go_wp2_with (go_at_call 131; refine (nan_any _ _).mono ?_; rintro e w' ⟨rfl, rfl⟩)
  · have h : x < y := by assumption
    go_ret
    exact ⟨by rw [cmpI, if_pos h]; rfl, rfl⟩
  · have h : ¬ x < y := by omega
    have h2 : y < x := by assumption
    go_ret
    exact ⟨by rw [cmpI, if_neg h, if_pos h2]; rfl, rfl⟩
  · have h : ¬ x < y := by omega
    have h2 : ¬ y < x := by omega
    go_ret
    exact ⟨by rw [cmpI, if_neg h, if_neg h2]; rfl, rfl⟩
end Go.Proofs.Ytglpnpjjjihghaa

/-
  What share.check comes to, over this seat's translation: a contract for callers.
-/
namespace Go.Proofs.Ytglpnpjjjihghaa
open Go.RowKit Go.Lib

theorem isneg_any (x : Int) (w : World) : Calls Try.prog 102 #[.int .i64 x] w fun e w' => e = .returned (.bool (decide (x < 0))) ∧ w = w' := by
  go_enter Try.func102, Try.ntmps102
  go_wp2
  go_ret
  exact ⟨rfl, rfl⟩
/-- Is any below 0? -/
def negB (l : List Int) : Bool := l.any fun x => decide (x < 0)
theorem negB_false {l : List Int} (h : negB l = false) : ∀ x ∈ l, 0 ≤ x := by
  intro x hx
  unfold negB at h
  rw [List.any_eq_false] at h
  have := h x hx
  simp at this
  exact this
theorem negB_of {l : List Int} (h : ∀ k (hk : k < l.length), ¬ l[k] < 0) : negB l = false := by
  unfold negB
  rw [List.any_eq_false]
  intro x hx
  obtain ⟨k, hk, rfl⟩ := List.mem_iff_getElem.1 hx
  simpa using h k hk
theorem negB_true {l : List Int} {k : Nat} (hk : k < l.length) (h : l[k] < 0) : negB l = true := by
  unfold negB
  rw [List.any_eq_true]
  exact ⟨l[k], List.getElem_mem hk, by simpa using h⟩
/-- Where the first one is. -/
def IdxPost (l : List Int) (w : World) : Ending → World → Prop := fun e w' => ∃ n : Int, e = .returned (.int .i64 n) ∧ decide (0 ≤ n) = negB l ∧ w = w'
set_option maxHeartbeats 1600000 in
theorem indexNeg_any (l : List Int) (A : Option Addr) (c : Nat) (w : World) (hs : Seg w w.heap.size A (l.map (Value.int .i64))) (hn : l.length ≤ 4611686018427387904) :
    Calls Try.prog 117 #[.slice A l.length c, .func (.func 102) #[] #[]] w (IdxPost l w) := by
  have HS := Lib.hid hs
  clear hs
  go_enter Try.func117, Try.ntmps117
  go_wp2_with fail
  go_loopw [5, 8] (fun _ i wr => ∃ k : Nat, k ≤ l.length ∧ i = .int .i64 k ∧ Hid (∀ j (hj : j < l.length), j < k → 0 ≤ l[j]) ∧ wr = w) (fun _ i _ => l.length - (intOf i).toNat)
  case atStart => exact ⟨0, Nat.zero_le _, rfl, fun j _ h => by omega, rfl⟩
  case round =>
    obtain ⟨k, hk, rfl, HP, rfl⟩ := hrel
    by_cases hlt : k < l.length
    · obtain ⟨b, o, rfl, hb, hc⟩ := HS.out.at (k := k) (by simpa using hlt)
      rw [List.getElem_map] at hc
      by_cases hx : l[k] < 0
      · have HT := Lib.hid (negB_true hlt hx)
        go_wp2_with (go_at_call 102; refine (isneg_any _ _).mono ?_; rintro e w' ⟨rfl, rfl⟩)
        go_ret
        exact ⟨_, rfl, by rw [HT.out]; simp, rfl⟩
      · have HP2 : Hid (∀ j (hj : j < l.length), j < k + 1 → 0 ≤ l[j]) := by
          intro j hj hjk
          by_cases e : j = k
          · subst e; omega
          · exact HP.out j hj (by omega)
        go_wp2_with (go_at_call 102; refine (isneg_any _ _).mono ?_; rintro e w' ⟨rfl, rfl⟩)
        go_roundw
        case rel => exact ⟨k + 1, by omega, by go_num, HP2, by first | rfl | trivial⟩
        case measure => simp [intOf]; omega
    · go_wp2_with fail
      go_ret
      exact ⟨_, rfl, by rw [negB_of fun j hj => by have := HP.out j hj (by omega); omega]; rfl, rfl⟩
theorem anyNeg_any (l : List Int) (A : Option Addr) (c : Nat) (w : World) (hs : Seg w w.heap.size A (l.map (Value.int .i64))) (hn : l.length ≤ 4611686018427387904) :
    Calls Try.prog 101 #[.slice A l.length c, .func (.func 102) #[] #[]] w fun e w' => e = .returned (.bool (negB l)) ∧ w = w' := by
  have HC := Lib.hid (indexNeg_any l A c w hs hn)
  clear hs
  go_enter Try.func101, Try.ntmps101
  go_wp2_with fail
  refine HC.out.mono ?_
  rintro e w' ⟨n, rfl, hn, rfl⟩
  have HN := Lib.hid hn
  clear hn
  go_wp2_with fail
  go_ret
  exact ⟨by rw [← HN.out]; rfl, rfl⟩
/-- What is wrong with weights, and their sum. -/
def chkE (T : Int) (l : List Int) : Int := if 1024 < l.length then 6 else if T < 0 ∨ negB l = true then 1 else amtE (sumI l)
def chkV (T : Int) (l : List Int) : Int := if 1024 < l.length then 0 else if T < 0 ∨ negB l = true then 0 else amtV (sumI l)
set_option maxHeartbeats 1600000 in
theorem check_any (T : Int) (l : List Int) (A : Option Addr) (c : Nat) (w : World) (hl : ∀ x ∈ l, I64 x) (hs : Seg w w.heap.size A (l.map (Value.int .i64))) (hn : l.length ≤ maxLen) :
    Calls Try.prog 94 #[.int .i64 T, .slice A l.length c] w fun e w' => e = .returned (.tuple #[.int .i64 (chkV T l), .int .i64 (chkE T l)]) ∧ Below w.heap.size w w' := by
  unfold maxLen at hn
  by_cases h1 : 1024 < l.length
  · have e1 : chkV T l = 0 := by unfold chkV; rw [if_pos h1]
    have e2 : chkE T l = 6 := by unfold chkE; rw [if_pos h1]
    rw [e1, e2]
    clear hl hs e1 e2
    go_enter Try.func94, Try.ntmps94
    go_wp2_with fail
    go_ret2
    exact ⟨rfl, Below.refl _ _⟩
  · have h1' : l.length ≤ 1024 := by omega
    by_cases h2 : T < 0
    · have e1 : chkV T l = 0 := by unfold chkV; rw [if_neg h1, if_pos (.inl h2)]
      have e2 : chkE T l = 1 := by unfold chkE; rw [if_neg h1, if_pos (.inl h2)]
      rw [e1, e2]
      clear hl hs e1 e2
      go_enter Try.func94, Try.ntmps94
      go_wp2_with fail
      go_ret2
      exact ⟨rfl, Below.refl _ _⟩
    · have HC := Lib.hid (anyNeg_any l A c w hs (by omega))
      have h2d : decide (T < 0) = false := decide_eq_false h2
      cases h3 : negB l
      · have e1 : chkV T l = amtV (sumI l) := by unfold chkV; rw [if_neg h1, if_neg (by simp [h2, h3])]
        have e2 : chkE T l = amtE (sumI l) := by unfold chkE; rw [if_neg h1, if_neg (by simp [h2, h3])]
        rw [e1, e2]
        have HD := Lib.hid (sum_any l A c w hl hs (by omega))
        rw [h3] at HC
        clear hl hs e1 e2 h3
        go_enter Try.func94, Try.ntmps94
        go_wp2_with fail
        refine HC.out.mono ?_
        rintro e w' ⟨rfl, rfl⟩
        go_wp2_with fail
        refine HD.out.mono ?_
        rintro e w1 ⟨rfl, hb⟩
        have HB := Lib.hid hb
        clear hb
        go_wp2_with fail
        go_ret2
        exact ⟨rfl, HB.out⟩
      · have e1 : chkV T l = 0 := by unfold chkV; rw [if_neg h1, if_pos (.inr h3)]
        have e2 : chkE T l = 1 := by unfold chkE; rw [if_neg h1, if_pos (.inr h3)]
        rw [e1, e2]
        rw [h3] at HC
        clear hl hs e1 e2 h3
        go_enter Try.func94, Try.ntmps94
        go_wp2_with fail
        refine HC.out.mono ?_
        rintro e w' ⟨rfl, rfl⟩
        go_wp2_with fail
        go_ret2
        exact ⟨rfl, Below.refl _ _⟩
end Go.Proofs.Ytglpnpjjjihghaa

/-
  Rows of numbers that are known whole; what share.apportion's order of rests tells; how a row is sorted: contracts for callers.
-/
namespace Go.Proofs.Ytglpnpjjjihghaa
open Go.RowKit Go.Lib Go.Sort Go.Shelf Go.Proofs.Ytglpnpjjjihghaa.StableLaw Go.Proofs.Ytglpnpjjjihghaa.ShareLaw

/-- A block is a row of numbers. -/
def Rowb (w : World) (b : Nat) (t : TypeId) (xs : List Int) : Prop := w.heap[b]? = some (.cells (xs.map (Value.int .i64)).toArray t (0, 0))
section
variable {w w' : World} {b B : Nat} {t : TypeId} {xs : List Int}
theorem Rowb.cell (h : Rowb w b t xs) {i : Nat} (hi : i < xs.length) : w.cell? ⟨b, i, none⟩ = some (.int .i64 xs[i]) := by
  rw [cell_of_row w b i _ t (0, 0) h]
  simp [hi]
theorem Rowb.free (h : Rowb w b t xs) (i : Nat) : w.frozen? ⟨b, i, none⟩ = false := frozen_of_row w b i _ t h
theorem Rowb.of_block (h : Rowb w b t xs) (e : w'.heap[b]? = w.heap[b]?) : Rowb w' b t xs := e.trans h
theorem Rowb.below (h : Rowb w b t xs) (hb : b < B) (k : Below B w w') : Rowb w' b t xs := h.of_block (k.block b hb)
theorem Rowb.drew (h : Rowb w b t xs) : Rowb w.drew b t xs := h
theorem Rowb.other (h : Rowb w b t xs) {a : Addr} (v : Value) (hne : b ≠ a.block) : Rowb (w.setCell a v) b t xs := h.of_block (Deep.blk_setCell_other w a v b hne)
theorem Rowb.set (h : Rowb w b t xs) (i : Nat) (v : Int) : Rowb (w.setCell ⟨b, i, none⟩ (.int .i64 v)) b t (xs.set i v) := by
  unfold Rowb at *
  rw [setCell_eq, mapBlock, Array.getElem?_modify, if_pos rfl, h]
  simp [onCells, List.map_set]
theorem Rowb.new (w : World) (t : TypeId) (xs : List Int) : Rowb (w.alloc (.cells (xs.map (Value.int .i64)).toArray t)) w.heap.size t xs := heap_alloc_new w _
theorem Rowb.alloc (h : Rowb w b t xs) (hb : b < w.heap.size) (o : Obj) : Rowb (w.alloc o) b t xs := h.of_block (Deep.blk_alloc_lt w o b hb)
theorem Rowb.seg (h : Rowb w b t xs) (hb : b < B) : Seg w B (some ⟨b, 0, none⟩) (xs.map (Value.int .i64)) := by
  intro j u hu
  refine ⟨b, 0, rfl, hb, ?_⟩
  rw [cell_of_row w b (0 + j) _ t (0, 0) h, Nat.zero_add]
  simpa using hu
end
/-- A row by a function of places. -/
def rowF (n : Nat) (f : Nat → Int) : List Int := (List.range n).map f
theorem rowF_len (n : Nat) (f : Nat → Int) : (rowF n f).length = n := by simp [rowF]
theorem rowF_at {n : Nat} {f : Nat → Int} {i : Nat} (h : i < (rowF n f).length) : (rowF n f)[i] = f i := by simp [rowF]
theorem rowF_congr {n : Nat} {f g : Nat → Int} (h : ∀ i, i < n → f i = g i) : rowF n f = rowF n g := by
  unfold rowF
  exact List.map_congr_left fun i hi => h i (List.mem_range.1 hi)
theorem rowF_set {n : Nat} {f : Nat → Int} (k : Nat) (v : Int) : (rowF n f).set k v = rowF n (fun i => if i = k then v else f i) := by
  apply List.ext_getElem
  · simp [rowF_len]
  · intro i h1 h2
    rw [List.getElem_set, rowF_at, rowF_at]
    by_cases c : k = i
    · rw [if_pos c, if_pos c.symm]
    · rw [if_neg c, if_neg fun e => c e.symm]
theorem rowF_step {n k : Nat} {g : Nat → Int} : (rowF n (fun i => if i < k then g i else 0)).set k (g k) = rowF n (fun i => if i < k + 1 then g i else 0) := by
  rw [rowF_set]
  refine rowF_congr fun i _ => ?_
  by_cases c : i = k
  · rw [if_pos c, if_pos (by omega), c]
  · rw [if_neg c]
    by_cases c2 : i < k
    · rw [if_pos c2, if_pos (by omega)]
    · rw [if_neg c2, if_neg (by omega)]
theorem rowF_all {n : Nat} {g : Nat → Int} : rowF n (fun i => if i < n then g i else 0) = rowF n g := rowF_congr fun i h => by rw [if_pos h]
theorem rowF_zero {n : Nat} {g : Nat → Int} : rowF n (fun i => if i < 0 then g i else 0) = List.replicate n 0 := by
  apply List.ext_getElem
  · simp [rowF_len]
  · intro i h1 h2
    rw [rowF_at, if_neg (by omega), List.getElem_replicate]
theorem made_zero (n : Nat) : madeCells (Value.int IntKind.i64 0).cells n = Array.replicate n (Value.int .i64 0) := by
  apply Array.toList_inj.1
  have e : (Value.int IntKind.i64 0).cells = #[Value.int .i64 0] := rfl
  rw [e, toList_madeCells_one]
  simp
/-- make, of numbers. -/
theorem make64 (n : Nat) (hn : n ≤ 1000000) (W : World) : (Instr.makeSlice 35 (.int .i64 (n : Int)) (.int .i64 (n : Int))).run Try.prog W = .ok (.slice (some ⟨W.heap.size, 0, none⟩) n n) (W.alloc (.cells (Array.replicate n (Value.int .i64 0)) 2)) := by
  have inf : (Try.prog.info? 2).map (fun i => (i.zero, i.size, i.bytes)) = some (some (.int .i64 0), 1, 8) := by kernel_rfl
  obtain ⟨i0, hi, hz0, hz1, hz2⟩ := info_parts inf
  have h := run_makeSlice (P := Try.prog) W 35 2 i0 _ Try.underlying35 hi hz0 .i64 .i64 n n (by omega) (Int.le_refl _) (by rw [hz1]; simp; omega) (by rw [hz2]; simp; omega) (by omega)
  rw [hz1] at h
  simp only [Int.toNat_natCast, Nat.mul_one] at h
  rw [made_zero] at h
  exact h
theorem makeInt (n : Nat) (hn : n ≤ 1000000) (W : World) : (Instr.makeSlice 38 (.int .i64 (n : Int)) (.int .i64 (n : Int))).run Try.prog W = .ok (.slice (some ⟨W.heap.size, 0, none⟩) n n) (W.alloc (.cells (Array.replicate n (Value.int .i64 0)) 3)) := by
  have inf : (Try.prog.info? 3).map (fun i => (i.zero, i.size, i.bytes)) = some (some (.int .i64 0), 1, 8) := by kernel_rfl
  obtain ⟨i0, hi, hz0, hz1, hz2⟩ := info_parts inf
  have h := run_makeSlice (P := Try.prog) W 38 3 i0 _ Try.underlying38 hi hz0 .i64 .i64 n n (by omega) (Int.le_refl _) (by rw [hz1]; simp; omega) (by rw [hz2]; simp; omega) (by omega)
  rw [hz1] at h
  simp only [Int.toNat_natCast, Nat.mul_one] at h
  rw [made_zero] at h
  exact h

theorem compare_same (x y : Int) (w : World) : Calls Try.prog 121 #[.int .i64 x, .int .i64 y] w fun e w' => e = .returned (.int .i64 (cmpI x y)) ∧ w' = w := (compare_any x y w).mono fun _ _ ⟨a, b⟩ => ⟨a, b.symm⟩
/-- The order of rests. -/
theorem ord_any (bc br n : Nat) (r : Nat → Int) (x y : Nat) (hx : x < n) (hy : y < n) (w : World) (hc : w.cell? ⟨bc, 0, none⟩ = some (.slice (some ⟨br, 0, none⟩) n n)) (hr : ∀ i, i < n → w.cell? ⟨br, i, none⟩ = some (.int .i64 (r i))) :
    Calls Try.prog 120 #[.int .i64 x, .int .i64 y, .pointer (some ⟨bc, 0, none⟩)] w fun e w' => e = .returned (.int .i64 (cmpI (r y) (r x))) ∧ ∃ q, w' = w.drewN q := by
  have c1 := hr x hx
  have c2 := hr y hy
  clear hr
  have i1 : (0 : Int) ≤ (x : Int) := by omega
  have i2 : (x : Int) < (n : Int) := by omega
  have i3 : (0 : Int) ≤ (y : Int) := by omega
  have i4 : (y : Int) < (n : Int) := by omega
  go_enter Try.func120, Try.ntmps120
  go_wp2_with fail
  go_quiet ((go_at_call 121; exact Calls.quiet_of_same (compare_same _ _ _)))
  go_wp2_with fail
  go_ret
  exact ⟨rfl, _, rfl⟩
end Go.Proofs.Ytglpnpjjjihghaa

/-
  How share.apportion's places are sorted: a contract for callers.
-/
namespace Go.Proofs.Ytglpnpjjjihghaa
open Go.RowKit Go.Lib Go.Sort Go.Shelf Go.Proofs.Ytglpnpjjjihghaa.StableLaw Go.Proofs.Ytglpnpjjjihghaa.ShareLaw

/-- The places, in the order of their rests. -/
def Ordered (r : Nat → Int) (n : Nat) (who : Nat → Nat) : Prop := ∀ t, t < n → who t < n ∧ rk r n (who t) = t
def WhoPost (r : Nat → Int) (n bw : Nat) (w : World) : Ending → World → Prop := fun e w' => e = .returned (.tuple #[]) ∧ ∃ who : Nat → Nat, Ordered r n who ∧ (∀ t, t < n → w'.cell? ⟨bw, t, none⟩ = some (.int .i64 (who t : Int))) ∧ w.grownBy w' (some bw)
theorem L_ah {r : Nat → Int} {x y : Nat} (h : L (fun z => -(r z.toNat)) (x : Int) (y : Int)) : ah r x y = true := by
  unfold L at h
  simp only [Int.toNat_natCast] at h
  rw [ah_iff]
  omega
theorem ordered_of {r : Nat → Int} {n : Nat} {g : Nat → Int} (hm : Moved (fun p => (p : Int)) g 0 n) (hs : Srt (fun z => -(r z.toNat)) g 0 n) : ∃ who : Nat → Nat, Ordered r n who ∧ ∀ t, t < n → g t = (who t : Int) := by
  have hex : ∀ t, ∃ m : Nat, t < n → m < n ∧ g t = (m : Int) := by
    intro t
    by_cases ht : t < n
    · obtain ⟨j, _, hj, e⟩ := hm.to t (Nat.zero_le _) ht
      exact ⟨j, fun _ => ⟨hj, e⟩⟩
    · exact ⟨0, fun h => absurd h ht⟩
  obtain ⟨who, hw⟩ := Classical.skolem.1 hex
  refine ⟨who, ?_, fun t ht => (hw t ht).2⟩
  have key := grows_id (n := n) (f := fun t => rk r n (who t)) (fun t ht => rk_lt (hw t ht).1) (fun i j hij hj => by
    have h1 := hs i j (Nat.zero_le _) hij hj
    rw [(hw i (by omega)).2, (hw j hj).2] at h1
    exact rk_lt_of (hw i (by omega)).1 (L_ah h1))
  exact fun t ht => ⟨(hw t ht).1, key t ht⟩
theorem fn_rowF (n : Nat) (f : Nat → Int) {p : Nat} (hp : p < n) : fn (rowF n f).toArray p = f p := by
  unfold fn
  rw [getElem!_pos _ p (by simpa [rowF_len] using hp)]
  simp [rowF]
theorem moved_id {n : Nat} {f g : Nat → Int} (h : Moved f g 0 n) (hf : ∀ p, p < n → f p = p) : ∃ g', Moved (fun p => (p : Int)) g' 0 n ∧ ∀ t, t < n → g' t = g t := by
  refine ⟨fun p => if p < n then g p else p, ⟨fun i _ hi => ?_, fun j _ hj => ?_, fun i hi => ?_⟩, fun t ht => by simp [ht]⟩
  · obtain ⟨j, _, hj, e⟩ := h.to i (Nat.zero_le _) hi
    exact ⟨j, Nat.zero_le _, hj, by simp only [hi, if_true]; rw [e, hf j hj]⟩
  · obtain ⟨i, _, hi, e⟩ := h.of j (Nat.zero_le _) hj
    exact ⟨i, Nat.zero_le _, hi, by simp only [hi, if_true]; rw [← e, hf j hj]⟩
  · have : ¬ i < n := by omega
    simp [this]
set_option maxHeartbeats 1600000 in
theorem sortWho_any (bc br bw n : Nat) (r : Nat → Int) (w : World) (hn : n ≤ 1000000) (hc : w.heap[bc]? = some (.cells #[.slice (some ⟨br, 0, none⟩) n n] 35 (0, 0))) (hr : Rowb w br 2 (rowF n r)) (hw : Rowb w bw 3 (rowF n fun i => (i : Int))) (h1 : bc ≠ bw) (h2 : br ≠ bw) (h3 : bc < w.heap.size) (h4 : br < w.heap.size) (h5 : bw < w.heap.size) :
    Calls Try.prog 119 #[.slice (some ⟨bw, 0, none⟩) n n, .func (.func 120) #[] #[.pointer (some ⟨bc, 0, none⟩)]] w (WhoPost r n bw w) := by
  have hlen : (rowF n fun i => (i : Int)).toArray.size = n := by simp [rowF_len]
  have hH : Holds (Value.int .i64) w bw 0 (rowF n fun i => (i : Int)).toArray := by
    intro j hj
    rw [hlen] at hj
    refine ⟨?_, hw.free _⟩
    have hl : 0 + j < (rowF n fun i => (i : Int)).length := by rw [rowF_len]; omega
    rw [hw.cell hl]
    have e := fn_rowF n (fun i => (i : Int)) hj
    unfold fn at e
    rw [e, rowF_at]
    simp
  have R : Row1 (Value.int .i64) w bw 0 (rowF n fun i => (i : Int)).toArray := ⟨enc_one, hH, h5⟩
  have T : Sett w bw 0 n 120 #[.pointer (some ⟨bc, 0, none⟩)] (fun x y => cmpI (r y.toNat) (r x.toNat)) (fun z => -(r z.toNat)) (fun x => ∃ m : Nat, x = m ∧ m < n) (rowF n fun i => (i : Int)).toArray := by
    refine ⟨R, hlen, by omega, enters_of Try.func120 (by kernel_rfl) rfl, ?_, ?_⟩
    · rintro m os dk hdk x y ⟨xn, rfl, hx⟩ ⟨yn, rfl, hy⟩
      have hg : w.grownBy (sortWorld (Value.int .i64) w bw 0 m dk os) (some bw) := grownBy_sortedI dk
      have e1 : (sortWorld (Value.int .i64) w bw 0 m dk os).heap[bc]? = _ := (hg.block bc h3 (fun e => h1 (by injection e))).trans hc
      have e2 : Rowb (sortWorld (Value.int .i64) w bw 0 m dk os) br 2 (rowF n r) := hr.of_block (hg.block br h4 (fun e => h2 (by injection e)))
      refine (ord_any bc br n r xn yn hx hy _ ?_ ?_).mono ?_
      · rw [cell_of_row _ bc 0 _ 35 (0, 0) e1]; rfl
      · intro i hi
        rw [e2.cell (by rw [rowF_len]; exact hi), rowF_at]
      · rintro e w' ⟨rfl, q, rfl⟩
        refine ⟨by simp only [Int.toNat_natCast], q, #[], ?_⟩
        rw [grow_empty]
    · rintro x y ⟨xn, rfl, hx⟩ ⟨yn, rfl, hy⟩
      simp only [Int.toNat_natCast]
      rw [cmpI_neg]
      omega
  have RW : Rw w bw 0 n (fun x => ∃ m : Nat, x = m ∧ m < n) (rowF n fun i => (i : Int)).toArray w := ⟨hlen, SW.start hH, fun p hp => ⟨p, fn_rowF n _ hp, hp⟩⟩
  refine (sortStable_any T n _ w RW hn (fun p hp => fn_rowF n _ hp)).mono ?_
  rintro e w' ⟨rfl, d', mv, hs, hR⟩
  obtain ⟨g', mg, hg'⟩ := moved_id mv (fun p hp => fn_rowF n _ hp)
  have sg : Srt (fun z => -(r z.toNat)) g' 0 n := fun i j a b c => by rw [hg' i (by omega), hg' j c]; exact hs i j a b c
  obtain ⟨who, ho, hwho⟩ := ordered_of mg sg
  refine ⟨rfl, who, ho, fun t ht => ?_, ?_⟩
  · have := hR.c T t ht
    rw [Nat.zero_add] at this
    rw [this, ← hwho t ht, hg' t ht]
  · obtain ⟨m, os, e⟩ := hR.sw
    rw [e]
    exact grownBy_sortedI d'
end Go.Proofs.Ytglpnpjjjihghaa

/-
  What share.apportion comes to, over this seat's translation: a contract for callers.
-/
namespace Go.Proofs.Ytglpnpjjjihghaa
open Go.RowKit Go.Lib Go.Sort Go.Shelf Go.Proofs.Ytglpnpjjjihghaa.StableLaw Go.Proofs.Ytglpnpjjjihghaa.ShareLaw

/-- The weights, by places. -/
def wf (l : List Int) : Nat → Int := fun i => l.getD i 0
theorem wf_at {l : List Int} {i : Nat} (h : i < l.length) : wf l i = l[i] := by unfold wf; simp [h]
theorem sumN_wf (l : List Int) : ∀ k, k ≤ l.length → sumN (wf l) k = sumI (l.take k)
  | 0, _ => by simp [sumN, sumI]
  | k + 1, h => by rw [sumN, sumN_wf l k (by omega), sumI_snoc (by omega), wf_at (by omega)]
theorem sum_wf (l : List Int) : sumN (wf l) l.length = sumI l := by rw [sumN_wf l _ (Nat.le_refl _), List.take_length]
theorem mem_le_sum {l : List Int} (h : ∀ x ∈ l, 0 ≤ x) : ∀ x ∈ l, x ≤ sumI l := by
  induction l with
  | nil => intro x hx; cases hx
  | cons a l ih =>
    have hs : 0 ≤ sumI l := by
      have : ∀ m : List Int, (∀ x ∈ m, 0 ≤ x) → 0 ≤ sumI m := by
        intro m
        induction m with
        | nil => intro _; simp [sumI]
        | cons b m ih2 =>
          intro hm
          have h1 := hm b (by simp)
          have h2 := ih2 fun x hx => hm x (by simp [hx])
          simp only [sumI]; omega
      exact this l fun x hx => h x (by simp [hx])
    have ha := h a (by simp)
    intro x hx
    simp only [sumI]
    rcases List.mem_cons.1 hx with rfl | hx
    · omega
    · have := ih (fun y hy => h y (by simp [hy])) x hx; omega
theorem quotaI_any (T S : Int) (W : Nat → Int) (i : Nat) (w : World) (hT0 : 0 ≤ T) (hT : T ≤ 9223372036854775807) (hw0 : 0 ≤ W i) (hw : W i ≤ S) (h0 : 0 < S) (hS : S ≤ 9223372036854775807) :
    Calls Try.prog 118 #[.int .i64 T, .int .i64 (W i), .int .i64 S] w fun e w' => e = .returned (.tuple #[.int .i64 (quo T S W i), .int .i64 (rst T S W i), .int .i64 0]) ∧ Below w.heap.size w w' := by
  unfold quo rst
  generalize W i = u at *
  obtain ⟨Tn, rfl⟩ := Int.eq_ofNat_of_zero_le hT0
  obtain ⟨un, rfl⟩ := Int.eq_ofNat_of_zero_le hw0
  obtain ⟨Sn, rfl⟩ := Int.eq_ofNat_of_zero_le (show 0 ≤ S by omega)
  refine (quota_any Tn un Sn w (by omega) (by omega) (by omega) (by omega)).mono ?_
  rintro e w' ⟨rfl, hb⟩
  refine ⟨?_, hb⟩
  rw [Int.natCast_ediv, Int.natCast_emod, Int.natCast_mul]

/-- What the call has made, round by round. -/
structure Ap (w : World) (bp br bc bo n : Nat) (ps rs os : List Int) (wr : World) : Prop where
  p : Rowb wr bp 2 ps
  r : Rowb wr br 2 rs
  c : wr.heap[bc]? = some (.cells #[.slice (some ⟨br, 0, none⟩) n n] 35 (0, 0))
  o : Rowb wr bo 3 os
  b : Below w.heap.size w wr
  sz : bo < wr.heap.size
  d0 : w.heap.size ≤ bp
  d1 : bp < br
  d2 : br < bc
  d3 : bc < bo
section
variable {w wr w' : World} {bp br bc bo n : Nat} {ps rs os : List Int}
theorem Ap.cc (h : Ap w bp br bc bo n ps rs os wr) : wr.cell? ⟨bc, 0, none⟩ = some (.slice (some ⟨br, 0, none⟩) n n) := by rw [cell_of_row _ _ 0 _ 35 (0, 0) h.c]; rfl
theorem Ap.below (h : Ap w bp br bc bo n ps rs os wr) (hb : Below wr.heap.size wr w') : Ap w bp br bc bo n ps rs os w' := by
  have s := h.sz
  have d0 := h.d0; have d1 := h.d1; have d2 := h.d2; have d3 := h.d3
  exact ⟨h.p.below (by omega) hb, h.r.below (by omega) hb, (hb.block _ (by omega)).trans h.c, h.o.below (by omega) hb, h.b.trans (hb.mono (by omega)), by have := hb.size; omega, d0, d1, d2, d3⟩
theorem Ap.drew (h : Ap w bp br bc bo n ps rs os wr) : Ap w bp br bc bo n ps rs os wr.drew := ⟨h.p, h.r, h.c, h.o, h.b.drew, h.sz, h.d0, h.d1, h.d2, h.d3⟩
theorem Ap.setP (h : Ap w bp br bc bo n ps rs os wr) (i : Nat) (v : Int) : Ap w bp br bc bo n (ps.set i v) rs os (wr.setCell ⟨bp, i, none⟩ (.int .i64 v)) := by
  have d0 := h.d0; have d1 := h.d1; have d2 := h.d2; have d3 := h.d3
  exact ⟨h.p.set i v, h.r.other _ (by dsimp only; omega), (Deep.blk_setCell_other _ _ _ _ (by dsimp only; omega)).trans h.c, h.o.other _ (by dsimp only; omega), h.b.setCell (by dsimp only; omega) _, by rw [Deep.nblk_setCell]; exact h.sz, d0, d1, d2, d3⟩
theorem Ap.setR (h : Ap w bp br bc bo n ps rs os wr) (i : Nat) (v : Int) : Ap w bp br bc bo n ps (rs.set i v) os (wr.setCell ⟨br, i, none⟩ (.int .i64 v)) := by
  have d0 := h.d0; have d1 := h.d1; have d2 := h.d2; have d3 := h.d3
  exact ⟨h.p.other _ (by dsimp only; omega), h.r.set i v, (Deep.blk_setCell_other _ _ _ _ (by dsimp only; omega)).trans h.c, h.o.other _ (by dsimp only; omega), h.b.setCell (by dsimp only; omega) _, by rw [Deep.nblk_setCell]; exact h.sz, d0, d1, d2, d3⟩
theorem Ap.setO (h : Ap w bp br bc bo n ps rs os wr) (i : Nat) (v : Int) : Ap w bp br bc bo n ps rs (os.set i v) (wr.setCell ⟨bo, i, none⟩ (.int .i64 v)) := by
  have d0 := h.d0; have d1 := h.d1; have d2 := h.d2; have d3 := h.d3
  exact ⟨h.p.other _ (by dsimp only; omega), h.r.other _ (by dsimp only; omega), (Deep.blk_setCell_other _ _ _ _ (by dsimp only; omega)).trans h.c, h.o.set i v, h.b.setCell (by dsimp only; omega) _, by rw [Deep.nblk_setCell]; exact h.sz, d0, d1, d2, d3⟩
theorem rep_arr (n : Nat) : ((List.replicate n (0 : Int)).map (Value.int .i64)).toArray = Array.replicate n (Value.int .i64 0) := by simp
theorem Ap.start (w : World) (n : Nat) : Ap w w.heap.size (w.heap.size + 1) (w.heap.size + 1 + 1) (w.heap.size + 1 + 1 + 1) n (List.replicate n 0) (List.replicate n 0) (List.replicate n 0) ((((w.alloc (.cells (Array.replicate n (Value.int .i64 0)) 2)).alloc (.cells (Array.replicate n (Value.int .i64 0)) 2)).alloc (.cells #[.slice (some ⟨w.heap.size + 1, 0, none⟩) n n] 35)).alloc (.cells (Array.replicate n (Value.int .i64 0)) 3)) := by
  have n1 := Deep.nblk_alloc
  rw [← rep_arr]
  generalize List.replicate n (0 : Int) = zs
  refine ⟨?_, ?_, ?_, ?_, ?_, by rw [n1, n1, n1, n1]; omega, by omega, by omega, by omega, by omega⟩
  · exact (((Rowb.new w 2 zs).alloc (by rw [n1]; omega) _).alloc (by rw [n1, n1]; omega) _).alloc (by rw [n1, n1, n1]; omega) _
  · have h := Rowb.new (w.alloc (.cells (zs.map (Value.int .i64)).toArray 2)) 2 zs
    rw [n1] at h
    exact (h.alloc (by rw [n1, n1]; omega) _).alloc (by rw [n1, n1, n1]; omega) _
  · rw [Deep.blk_alloc_lt _ _ _ (by rw [n1, n1, n1]; omega)]
    have := Deep.blk_alloc_new ((w.alloc (.cells (zs.map (Value.int .i64)).toArray 2)).alloc (.cells (zs.map (Value.int .i64)).toArray 2)) (.cells #[.slice (some ⟨w.heap.size + 1, 0, none⟩) n n] 35)
    rw [n1, n1] at this
    exact this
  · have := Rowb.new (((w.alloc (.cells (zs.map (Value.int .i64)).toArray 2)).alloc (.cells (zs.map (Value.int .i64)).toArray 2)).alloc (.cells #[.slice (some ⟨w.heap.size + 1, 0, none⟩) n n] 35)) 3 zs
    rw [n1, n1, n1] at this
    exact this
  · exact ((((Below.refl _ _).alloc (Nat.le_refl _) _).alloc (by simp) _).alloc (by simp; omega) _).alloc (by simp; omega) _
/-- What the region of the parts and rests asks. -/
structure RC (bp br bc n k b o : Nat) (x : Int) (w : World) : Prop where
  c : w.cell? ⟨bc, 0, none⟩ = some (.slice (some ⟨br, 0, none⟩) n n)
  l : w.cell? ⟨b, o + k, none⟩ = some (.int .i64 x)
  p : ∃ u, w.cell? ⟨bp, k, none⟩ = some u
  pf : w.frozen? ⟨bp, k, none⟩ = false
  r : ∃ u, w.cell? ⟨br, k, none⟩ = some u
  rf : w.frozen? ⟨br, k, none⟩ = false
end
theorem sumN_upto {f : Nat → Int} {n : Nat} (h : ∀ i, i < n → 0 ≤ f i) : ∀ k, k ≤ n → sumN f k ≤ sumN f n := by
  induction n with
  | zero => intro k hk; obtain rfl : k = 0 := by omega
            exact Int.le_refl _
  | succ n ih =>
    intro k hk
    by_cases c : k = n + 1
    · rw [c]; exact Int.le_refl _
    · have h1 := ih (fun i hi => h i (by omega)) k (by omega)
      have h2 := h n (by omega)
      rw [sumN]; omega
theorem mk0 (n k : Nat) (g : Nat → Int) (hk : k < n) : k < (rowF n (fun i => if i < k then g i else 0)).length := by rw [rowF_len]; exact hk
set_option maxHeartbeats 3200000 in
set_option maxRecDepth 1000000 in
theorem apportion_any (T : Int) (l : List Int) (A : Option Addr) (c : Nat) (w : World) (hT0 : 0 ≤ T) (hT : T ≤ 9223372036854775807) (hl : ∀ x ∈ l, 0 ≤ x) (h0 : 0 < sumI l) (hS : sumI l ≤ 9223372036854775807) (hn : l.length ≤ 1024) (hs : Seg w w.heap.size A (l.map (Value.int .i64))) :
    Calls Try.prog 103 #[.int .i64 T, .slice A l.length c, .int .i64 (sumI l)] w fun e w' => e = .returned (.slice (some ⟨w.heap.size, 0, none⟩) l.length l.length) ∧ Rowb w' w.heap.size 2 (rowF l.length (ShareLaw.part T (sumI l) (wf l) l.length)) ∧ Below w.heap.size w w' ∧ w.heap.size < w'.heap.size := by
  have HS := Lib.hid hs
  have HL := Lib.hid hl
  have HSUM := Lib.hid (sum_wf l)
  have HLE := Lib.hid (mem_le_sum hl)
  clear hs hl
  have mk1 := make64 l.length (by omega)
  have mk2 := makeInt l.length (by omega)
  have HA0 := Lib.hid (Ap.start w l.length)
  generalize hZ : sumI l = S at *
  have HZ := Lib.hid hZ
  clear hZ
  obtain ⟨W, hW⟩ : ∃ W, W = wf l := ⟨_, rfl⟩
  have HW := Lib.hid hW
  rw [← hW] at HSUM ⊢
  clear hW
  have HW0 : Hid (∀ i, i < l.length → 0 ≤ W i ∧ W i ≤ S) := fun i hi => by
    rw [HW.out, wf_at hi]
    exact ⟨HL.out _ (List.getElem_mem hi), HLE.out _ (List.getElem_mem hi)⟩
  have HBQ : Hid (∀ k, k < l.length → 0 ≤ quo T S W k ∧ quo T S W k ≤ T) := fun k hk => ⟨quo_nonneg h0 hT0 (HW0.out k hk).1, quo_le h0 hT0 (HW0.out k hk).2⟩
  have HBD : Hid (∀ k, k ≤ l.length → 0 ≤ sumN (quo T S W) k ∧ sumN (quo T S W) k ≤ T) := fun k hk => by
    have h9 := (quo_sum_le h0 hT0 (fun i hi => (HW0.out i hi).1) HSUM.out).2
    exact ⟨sumN_nonneg fun i hi => (HBQ.out i (by omega)).1, Int.le_trans (sumN_upto (fun i hi => (HBQ.out i hi).1) k hk) h9⟩
  have HPL : Hid (∀ k, k < l.length → ShareLaw.part T S W l.length k ≤ T) := fun k hk => part_le h0 hT0 HSUM.out (HW0.out k hk).2
  go_enter Try.func103, Try.ntmps103
  go_wp2_with fail
  clear mk1 mk2
  rw [← rowF_zero (g := quo T S W)] at HA0
  obtain ⟨bp, hbp⟩ : ∃ z, z = w.heap.size := ⟨_, rfl⟩
  generalize w.heap.size + 1 + 1 + 1 = bo at HA0 ⊢
  generalize w.heap.size + 1 + 1 = bc at HA0 ⊢
  generalize w.heap.size + 1 = br at HA0 ⊢
  go_loopw [10, 11, 25] (fun u _ i wr => ∃ k : Nat, k ≤ l.length ∧ i = .int .i64 k ∧ u = .int .i64 (T - sumN (quo T S W) k) ∧ Hid (Ap w w.heap.size br bc bo l.length (rowF l.length (fun i => if i < k then quo T S W i else 0)) (rowF l.length (fun i => if i < k then rst T S W i else 0)) (rowF l.length (fun i => if i < k then (i : Int) else 0)) wr)) (fun _ _ i _ => l.length - (intOf i).toNat)
  case atStart => exact ⟨0, Nat.zero_le _, rfl, by simp [sumN], HA0⟩
  case round =>
    clear HA0
    obtain ⟨k, hk, rfl, rfl, HA⟩ := hrel
    by_cases hlt : k < l.length
    · obtain ⟨b, o, rfl, hb, hc0⟩ := HS.out.at (k := k) (by simpa using hlt)
      have ex : l[k] = W k := by rw [HW.out, wf_at hlt]
      have hwk0 : 0 ≤ W k := by rw [← ex]; exact HL.out _ (List.getElem_mem hlt)
      have hwkS : W k ≤ S := by rw [← ex]; exact HLE.out _ (List.getElem_mem hlt)
      rw [List.getElem_map, ex] at hc0
      have HQ := fun W' => Lib.hid (quotaI_any T S W k W' hT0 hT hwk0 hwkS h0 hS)
      have HC0 := Lib.hid hc0
      clear ex hwk0 hwkS hc0
      have HK : Hid (∀ W', Below wr.heap.size wr W' → RC w.heap.size br bc l.length k b o (W k) W') := by
        intro W' hB
        have h2 := HA.out.below hB
        exact ⟨h2.cc, (h2.b.cell (p := ⟨b, o + k, none⟩) hb).trans HC0.out, ⟨_, h2.p.cell (by rw [rowF_len]; exact hlt)⟩, h2.p.free k, ⟨_, h2.r.cell (by rw [rowF_len]; exact hlt)⟩, h2.r.free k⟩
      have HR0 := Lib.hid (HK.out _ ((Below.refl _ _).drew))
      have d1 := HA.out.d1
      have d2 := HA.out.d2
      have i1 : (0 : Int) ≤ (k : Int) := by omega
      have i2 : (k : Int) < (l.length : Int) := by omega
      have n1 : ¬ bc = w.heap.size := by omega
      have n2 : ¬ b = w.heap.size := by omega
      have n3 : ¬ bc = br := by omega
      have n4 : ¬ b = br := by omega
      have n5 : ¬ br = w.heap.size := by omega
      have n6 : ¬ w.heap.size = br := by omega
      have n7 : ¬ w.heap.size = bc := by omega
      have n8 : ¬ w.heap.size = b := by omega
      have n9 : ¬ br = bc := by omega
      have n10 : ¬ br = b := by omega
      go_wp2_with fail
      go_region_held3 (fun w' => w'.cell? ⟨bc, 0, none⟩ = some (.slice (some ⟨br, 0, none⟩) l.length l.length) ∧ w'.cell? ⟨b, o + k, none⟩ = some (.int .i64 (W k))) (first | exact ⟨HR0.out.c, HR0.out.l⟩ | exact ⟨HR1.out.c, HR1.out.l⟩ | go_keep) ((go_at_call 118; refine (HQ _).out.mono ?_; rintro e w1 ⟨rfl, hb1⟩; have HB1 := Lib.hid (((Below.refl wr.heap.size wr).drew).trans hb1); have HR1 := Lib.hid (HK.out w1 HB1.out); obtain ⟨u1, c1⟩ := HR1.out.p; have f1 := HR1.out.pf; obtain ⟨u2, c2⟩ := HR1.out.r; have f2 := HR1.out.rf; clear hb1))
      have HA2 := Lib.hid (((HA.out.below HB1.out).setP k (quo T S W k)).setR k (rst T S W k))
      rw [rowF_step, rowF_step] at HA2
      generalize (w1.setCell ⟨w.heap.size, k, none⟩ (.int .i64 (quo T S W k))).setCell ⟨br, k, none⟩ (.int .i64 (rst T S W k)) = w2 at HA2 ⊢
      clear c1 c2 f1 f2 HR1 HB1 HK HR0 HQ HA n1 n2 n3 n4 n5 n6 n7 n8 n9 n10 u1 u2 i1 i2
      have c3 : w2.cell? ⟨w.heap.size, k, none⟩ = some (.int .i64 (quo T S W k)) := by
        rw [HA2.out.p.cell (by rw [rowF_len]; exact hlt), rowF_at, if_pos (by omega)]
      have c4 : w2.cell? ⟨bo, k, none⟩ = some (.int .i64 0) := by
        rw [HA2.out.o.cell (by rw [rowF_len]; exact hlt), rowF_at, if_neg (by omega)]
      have f4 := HA2.out.o.free k
      have d3 := HA2.out.d3
      have n1 : ¬ bo = w.heap.size := by omega
      have n2 : ¬ w.heap.size = bo := by omega
      have HA3 := Lib.hid (HA2.out.setO k (k : Int))
      rw [rowF_step (g := fun i => (i : Int))] at HA3
      have hb1 := HBD.out k hk
      have hb2 := HBQ.out k hlt
      have es : T - sumN (quo T S W) k - quo T S W k = T - sumN (quo T S W) (k + 1) := by rw [sumN]; omega
      have HES := Lib.hid es
      clear es
      obtain ⟨g1, g2⟩ := hb1
      obtain ⟨g3, g4⟩ := hb2
      go_wp2_with fail
      go_roundw
      case rel => exact ⟨k + 1, by omega, by go_num, by rw [← HES.out], HA3⟩
      case measure => simp [intOf]; omega
    · obtain rfl : k = l.length := by omega
      rw [rowF_all, rowF_all, rowF_all] at HA
      have d0 := HA.out.d0
      have d1 := HA.out.d1
      have d2 := HA.out.d2
      have d3 := HA.out.d3
      have sz := HA.out.sz
      have HC := Lib.hid (sortWho_any bc br bo l.length (rst T S W) wr (by omega) HA.out.c HA.out.r HA.out.o (by omega) (by omega) (by omega) (by omega) (by omega))
      go_wp2_with fail
      refine HC.out.mono ?_
      rintro e w2 ⟨rfl, who, ho, hcell, hg⟩
      have HO := Lib.hid ho
      have HCELL := Lib.hid hcell
      have HP : Hid (Rowb w2 w.heap.size 2 (rowF l.length (partT T S W l.length 0)) ∧ Below w.heap.size w w2) := by
        refine ⟨?_, HA.out.b.grown hg (by omega) (fun k hk => by injection hk; omega)⟩
        have h1 := HA.out.p.of_block (hg.block _ (by omega) (fun e => by injection e; omega))
        have e1 : rowF l.length (quo T S W) = rowF l.length (partT T S W l.length 0) := rowF_congr fun i _ => by unfold partT; rw [if_neg (by omega)]; omega
        rw [e1] at h1
        exact h1
      have hsz2 : bo < w2.heap.size := by have := hg.size; omega
      clear ho hcell hg HC HA
      obtain ⟨L, hL⟩ : ∃ L, L = left T S W l.length := ⟨_, rfl⟩
      have HLB := Lib.hid (left_bd (T := T) (S := S) (W := W) (n := l.length) h0 HSUM.out)
      have HLN := Lib.hid (left_le (T := T) (S := S) (W := W) (n := l.length) h0 HSUM.out)
      have eL : T - sumN (quo T S W) l.length = L := by rw [hL]; rfl
      have hL0 : 0 ≤ L := by rw [hL]; exact HLB.out.1
      have hLn : L ≤ (l.length : Int) := by rw [hL]; exact HLN.out
      have HEL := Lib.hid hL
      rw [eL]
      clear hL eL
      go_wp2_with fail
      go_loopw [12, 60] (fun _ i wr => ∃ t : Nat, (t : Int) ≤ L ∧ i = .int .i64 t ∧ bo < wr.heap.size ∧ Hid (∀ t, t < l.length → wr.cell? ⟨bo, t, none⟩ = some (.int .i64 (who t : Int))) ∧ Hid (Rowb wr w.heap.size 2 (rowF l.length (partT T S W l.length t)) ∧ Below w.heap.size w wr)) (fun _ i _ => l.length - (intOf i).toNat)
      case atStart => exact ⟨0, hL0, rfl, hsz2, HCELL, HP⟩
      case round =>
        clear HCELL HP hsz2
        obtain ⟨t, ht, rfl, hsz2, HCELL, HP⟩ := hrel
        by_cases hlt : (t : Int) < L
        · have htn : t < l.length := by omega
          obtain ⟨j, hj⟩ : ∃ j, j = who t := ⟨_, rfl⟩
          have hjn : j < l.length := by rw [hj]; exact (HO.out t htn).1
          have hjr : rk (rst T S W) l.length j = t := by rw [hj]; exact (HO.out t htn).2
          have cw := HCELL.out t htn
          rw [← hj] at cw
          have cp := HP.out.1.cell (i := j) (by rw [rowF_len]; exact hjn)
          have fp := HP.out.1.free j
          have e0 : partT T S W l.length t j = quo T S W j := by unfold partT; rw [if_neg (by omega)]; omega
          rw [rowF_at, e0] at cp
          have hbd : 0 ≤ quo T S W j ∧ quo T S W j ≤ T - 1 := by
            refine ⟨(HBQ.out j hjn).1, ?_⟩
            have h7 := HPL.out j hjn
            unfold ShareLaw.part partT at h7
            rw [if_pos (by rw [hjr, ← HEL.out]; omega)] at h7
            omega
          obtain ⟨g1, g2⟩ := hbd
          have HP2 : Hid (Rowb (wr.setCell ⟨w.heap.size, j, none⟩ (.int .i64 (quo T S W j + 1))) w.heap.size 2 (rowF l.length (partT T S W l.length (t + 1))) ∧ Below w.heap.size w (wr.setCell ⟨w.heap.size, j, none⟩ (.int .i64 (quo T S W j + 1)))) := by
            refine ⟨?_, HP.out.2.setCell (by simp) _⟩
            have h7 := HP.out.1.set j (quo T S W j + 1)
            have e1 : (rowF l.length (partT T S W l.length t)).set j (quo T S W j + 1) = rowF l.length (partT T S W l.length (t + 1)) := by
              rw [rowF_set]
              refine rowF_congr fun i hi => ?_
              by_cases c : i = j
              · rw [if_pos c, c]; unfold partT; rw [if_pos (by omega)]
              · rw [if_neg c]
                have hne : rk (rst T S W) l.length i ≠ t := fun e => c (rk_inj hi hjn (e.trans hjr.symm))
                unfold partT
                by_cases c2 : rk (rst T S W) l.length i < t
                · rw [if_pos c2, if_pos (by omega)]
                · rw [if_neg c2, if_neg (by omega)]
            rw [e1] at h7
            exact h7
          have HC2 : Hid (∀ t, t < l.length → (wr.setCell ⟨w.heap.size, j, none⟩ (.int .i64 (quo T S W j + 1))).cell? ⟨bo, t, none⟩ = some (.int .i64 (who t : Int))) := by
            intro t' ht'
            rw [World.cell?_of_block (w := wr) (Deep.blk_setCell_other wr _ _ bo (by dsimp only; omega))]
            exact HCELL.out t' ht'
          have HJ := Lib.hid hj
          have HJR := Lib.hid hjr
          clear hj hjr e0 HCELL HP
          go_wp2_with fail
          go_roundw
          case rel => exact ⟨t + 1, by omega, by go_num, by simpa using hsz2, HC2, HP2⟩
          case measure => simp [intOf]; omega
        · have e : (L.toNat : Nat) = t := by omega
          have HP3 : Hid (Rowb wr w.heap.size 2 (rowF l.length (ShareLaw.part T S W l.length)) ∧ Below w.heap.size w wr) := by
            refine ⟨?_, HP.out.2⟩
            have h7 := HP.out.1
            rw [← e, HEL.out] at h7
            exact h7
          go_wp2_with fail
          go_ret
          exact ⟨rfl, HP3.out.1, HP3.out.2, by omega⟩
end Go.Proofs.Ytglpnpjjjihghaa

/-
  What share.Apportion, share.Allocate and share.Lost come to, over this seat's translation: contracts for callers.
-/
namespace Go.Proofs.Ytglpnpjjjihghaa
open Go.RowKit Go.Lib Go.Sort Go.Shelf Go.Proofs.Ytglpnpjjjihghaa.StableLaw Go.Proofs.Ytglpnpjjjihghaa.ShareLaw

/-- A list of numbers came back, and an error. -/
def GotI (w : World) (xs : List Int) (err : Int) : Ending → World → Prop := fun e w' => ∃ A c, e = .returned (.tuple #[.slice A xs.length c, .int .i64 err]) ∧ Seg w' w'.heap.size A (xs.map (Value.int .i64)) ∧ Below w.heap.size w w'
theorem GotI.nil (w : World) (err : Int) (w' : World) (h : Below w.heap.size w w') : GotI w [] err (.returned (.tuple #[.slice none 0 0, .int .i64 err])) w' := ⟨none, 0, rfl, Seg.nil, h⟩
/-- What an amount comes to by weights, and the error. -/
def appE (T : Int) (l : List Int) : Int := if chkE T l ≠ 0 then chkE T l else if T = 0 then 0 else if sumI l = 0 then 17 else 0
def appL (T : Int) (l : List Int) : List Int := if chkE T l ≠ 0 then [] else if T = 0 then List.replicate l.length 0 else if sumI l = 0 then [] else rowF l.length (ShareLaw.part T (sumI l) (wf l) l.length)
/-- What is right, once nothing is wrong. -/
structure Fit (T : Int) (l : List Int) : Prop where
  len : l.length ≤ 1024
  pos : 0 ≤ T
  all : ∀ x ∈ l, 0 ≤ x
  amt : I64 (sumI l)
  val : chkV T l = sumI l
theorem amtE_zero {x : Int} (h : amtE x = 0) : I64 x := by
  unfold amtE at h
  split at h
  · assumption
  · omega
theorem fit_of {T : Int} {l : List Int} (h : chkE T l = 0) : Fit T l := by
  unfold chkE at h
  by_cases h1 : 1024 < l.length
  · rw [if_pos h1] at h; omega
  · rw [if_neg h1] at h
    by_cases h2 : T < 0 ∨ negB l = true
    · rw [if_pos h2] at h; omega
    · rw [if_neg h2] at h
      have hI := amtE_zero h
      refine ⟨by omega, by omega, negB_false (by
        cases hn : negB l
        · rfl
        · exact absurd (.inr hn) h2), hI, ?_⟩
      unfold chkV
      rw [if_neg h1, if_neg h2, (amt_in hI).1]
theorem sum_nonneg {l : List Int} (h : ∀ x ∈ l, 0 ≤ x) : 0 ≤ sumI l := by
  rw [← sum_wf]
  refine sumN_nonneg fun i hi => ?_
  rw [wf_at hi]
  exact h _ (List.getElem_mem hi)
theorem seg_zero (w : World) (n : Nat) : Seg (w.alloc (.cells (Array.replicate n (Value.int .i64 0)) 2)) (w.alloc (.cells (Array.replicate n (Value.int .i64 0)) 2)).heap.size (some ⟨w.heap.size, 0, none⟩) ((List.replicate n (0 : Int)).map (Value.int .i64)) := by
  have h := Rowb.new w 2 (List.replicate n 0)
  rw [rep_arr] at h
  exact h.seg (by simp)
set_option maxHeartbeats 1600000 in
theorem Apportion_any (T : Int) (l : List Int) (A : Option Addr) (c : Nat) (w : World) (hT : I64 T) (hl : ∀ x ∈ l, I64 x) (hs : Seg w w.heap.size A (l.map (Value.int .i64))) (hn : l.length ≤ maxLen) :
    Calls Try.prog 95 #[.int .i64 T, .slice A l.length c] w (GotI w (appL T l) (appE T l)) := by
  have HC := Lib.hid (check_any T l A c w hl hs hn)
  by_cases h1 : chkE T l = 0
  · have F := fit_of h1
    by_cases h2 : T = 0
    · have e1 : appE T l = 0 := by unfold appE; rw [if_neg (by omega), if_pos h2]
      have e2 : appL T l = List.replicate l.length 0 := by unfold appL; rw [if_neg (by omega), if_pos h2]
      rw [e1, e2]
      rw [h1, F.val] at HC
      have mk := make64 l.length (by have := F.len; omega)
      have h2' : (T == 0) = true := by simpa using h2
      have h2n : T = 0 := h2
      subst h2
      clear F e1 e2 h1 h2' h2n hl hs hT
      generalize sumI l = S at *
      go_enter Try.func95, Try.ntmps95
      go_wp2_with fail
      refine HC.out.mono ?_
      rintro e w1 ⟨rfl, hb1⟩
      have HB := Lib.hid hb1
      clear hb1
      go_wp2_with fail
      go_ret2
      refine ⟨some ⟨w1.heap.size, 0, none⟩, l.length, by rw [List.length_replicate]; rfl, seg_zero w1 l.length, HB.out.alloc HB.out.size _⟩
    · by_cases h3 : sumI l = 0
      · have e1 : appE T l = 17 := by unfold appE; rw [if_neg (by omega), if_neg h2, if_pos h3]
        have e2 : appL T l = [] := by unfold appL; rw [if_neg (by omega), if_neg h2, if_pos h3]
        rw [e1, e2]
        rw [h1, F.val, h3] at HC
        have h2' : (T == 0) = false := by simpa using h2
        clear F e1 e2 h1 h2 h3 hl hs hT
        go_enter Try.func95, Try.ntmps95
        go_wp2_with fail
        refine HC.out.mono ?_
        rintro e w1 ⟨rfl, hb1⟩
        have HB := Lib.hid hb1
        clear hb1
        go_wp2_with fail
        go_ret2
        exact GotI.nil _ _ _ HB.out
      · have e1 : appE T l = 0 := by unfold appE; rw [if_neg (by omega), if_neg h2, if_neg h3]
        have e2 : appL T l = rowF l.length (ShareLaw.part T (sumI l) (wf l) l.length) := by unfold appL; rw [if_neg (by omega), if_neg h2, if_neg h3]
        rw [e1, e2]
        rw [h1, F.val] at HC
        have h0 := sum_nonneg F.all
        have hI := F.amt
        have hTT := hT
        unfold I64 at hI hTT
        have HD : Hid (∀ W, Below w.heap.size w W → Calls Try.prog 103 #[.int .i64 T, .slice A l.length c, .int .i64 (sumI l)] W fun e w' => e = .returned (.slice (some ⟨W.heap.size, 0, none⟩) l.length l.length) ∧ Rowb w' W.heap.size 2 (rowF l.length (ShareLaw.part T (sumI l) (wf l) l.length)) ∧ Below W.heap.size W w' ∧ W.heap.size < w'.heap.size) := fun W hW =>
          apportion_any T l A c W F.pos (by omega) F.all (by omega) (by omega) F.len ((hs.below hW).mono hW.size)
        have h2' : (T == 0) = false := by simpa using h2
        have h3' : (sumI l == 0) = false := by simpa using h3
        clear F e1 e2 h1 h2 h3 hl hs hT h0 hI hTT
        generalize sumI l = S at *
        go_enter Try.func95, Try.ntmps95
        go_wp2_with fail
        refine HC.out.mono ?_
        rintro e w1 ⟨rfl, hb1⟩
        have HB := Lib.hid hb1
        clear hb1
        go_wp2_with fail
        refine (HD.out _ HB.out).mono ?_
        rintro e w2 ⟨rfl, hr, hb2, hlt⟩
        have HR := Lib.hid hr
        have HB2 := Lib.hid (HB.out.trans (hb2.mono HB.out.size))
        clear hr hb2
        go_wp2_with fail
        go_ret2
        exact ⟨some ⟨w1.heap.size, 0, none⟩, l.length, by rw [rowF_len]; rfl, HR.out.seg hlt, HB2.out⟩
  · have e1 : appE T l = chkE T l := by unfold appE; rw [if_pos h1]
    have e2 : appL T l = [] := by unfold appL; rw [if_pos h1]
    rw [e1, e2]
    have h1' : (chkE T l == 0) = false := by simpa using h1
    have h1n : (chkE T l != 0) = true := by simpa using h1
    clear e1 e2 h1 hl hs hT
    generalize chkE T l = E at *
    generalize chkV T l = V at *
    go_enter Try.func95, Try.ntmps95
    go_wp2_with fail
    refine HC.out.mono ?_
    rintro e w1 ⟨rfl, hb1⟩
    have HB := Lib.hid hb1
    clear hb1
    go_wp2_with fail
    go_ret2
    exact GotI.nil _ _ _ HB.out
def alE (T : Int) (l : List Int) : Int := if chkE T l ≠ 0 then chkE T l else if sumI l ≤ T then 0 else appE T l
def alL (T : Int) (l : List Int) : List Int := if chkE T l ≠ 0 then [] else if sumI l ≤ T then l else appL T l
/-- A list's copy. -/
def CloneP (l : List Int) (w : World) : Ending → World → Prop := fun e w' => ∃ A c, e = .returned (.slice A l.length c) ∧ Seg w' w'.heap.size A (l.map (Value.int .i64)) ∧ Below w.heap.size w w'
set_option maxHeartbeats 1600000 in
set_option maxRecDepth 100000 in
theorem clone_any (l : List Int) (A : Option Addr) (c : Nat) (w : World) (hn : l.length ≤ 1000000) (hs : Seg w w.heap.size A (l.map (Value.int .i64))) :
    Calls Try.prog 54 #[.slice A l.length c] w (CloneP l w) := by
  have inf : (Try.prog.info? 2).map (fun i => (i.zero, i.size, i.bytes)) = some (some (.int .i64 0), 1, 8) := by kernel_rfl
  obtain ⟨i0, hi, hz0, hz1, hz2⟩ := info_parts inf
  cases A with
  | none =>
    have e : l = [] := by
      cases l with
      | nil => rfl
      | cons a l =>
        obtain ⟨b, o, h, _⟩ := hs 0 (.int .i64 a) (by simp)
        cases h
    subst e
    refine (by first | exact Try.slices_Clone_int_nil 0 c w | exact Try.slices_Clone_nil_f54 0 c w | exact Try.slices_Clone_nil 0 c w : Calls Try.prog 54 #[.slice none 0 c] w _).mono ?_
    rintro e w' ⟨rfl, rfl⟩
    exact ⟨none, 0, rfl, Seg.nil, Below.refl _ _⟩
  | some a =>
    have hnews : ∀ (o : Obj) j u, (l.map (Value.int .i64))[j]? = some u → (w.alloc o).cell? (a.add j) = some u := fun ob j u hu => by
      obtain ⟨b, o, e, hb, hc⟩ := hs j u hu
      injection e with e
      subst e
      have ea : (⟨b, o, none⟩ : Addr).add j = ⟨b, o + j, none⟩ := by unfold Addr.add; split <;> simp_all
      rw [ea, cell_old _ _ _ hb]
      exact hc
    have hone : ∀ u ∈ l.map (Value.int .i64), u.oneCell' = true := fun u hu => by
      obtain ⟨y, _, rfl⟩ := List.mem_map.1 hu
      rfl
    have HN := Lib.hid hnews
    have H1 := Lib.hid hone
    clear hnews hone hs
    have q22 : ∀ (w : World) (a : Option Addr) (n c n' c' : Nat), (binOp .eql 35 (.slice a n c) (.slice none n' c')).run Try.prog w = .ok (.bool a.isNone) w := fun w a n c n' c' => Lib.run_eql_slice_nil w _ _ a n c n' c' Try.underlying35
    go_enter Try.func54, Try.ntmps54
    go_wp2_with (at_builtin; refine wpList_append_own _ rfl _ _ 35 rfl w.heap.size 2 i0 (.int .i64 0) 1 8 Try.underlying35 hi hz0 hz1 hz2 rfl (by decide) _ _ _ rfl (World.ownsRow_made w #[] 0 (Nat.le_refl _) (Nat.zero_le _) rfl) a l.length c (l.map (Value.int .i64)) rfl (by simp) (HN.out _) H1.out (by simp only [maxLen]; omega) (by omega) (by simp) ?_)
    intro v' w1 hown hgrow _
    have HO := Lib.hid hown
    have HG := Lib.hid hgrow
    clear hown hgrow
    go_wp2
    go_ret
    have hO : w1.ownsRow w.heap.size 2 1 v' l.length (l.map (Value.int .i64)) := by simpa using HO.out
    obtain ⟨A1, c1, rfl⟩ := own_form hO
    exact ⟨A1, c1, rfl, Seg.of_own hO, ((Below.refl _ w).alloc (Nat.le_refl _) _).grown HG.out (by simp) (by intro k hk; simp [Value.ownBlock] at hk; omega)⟩
set_option maxHeartbeats 1600000 in
theorem Allocate_any (T : Int) (l : List Int) (A : Option Addr) (c : Nat) (w : World) (hT : I64 T) (hl : ∀ x ∈ l, I64 x) (hs : Seg w w.heap.size A (l.map (Value.int .i64))) (hn : l.length ≤ maxLen) :
    Calls Try.prog 71 #[.int .i64 T, .slice A l.length c] w (GotI w (alL T l) (alE T l)) := by
  have HC := Lib.hid (check_any T l A c w hl hs hn)
  by_cases h1 : chkE T l = 0
  · have F := fit_of h1
    have hlen := F.len
    by_cases h2 : sumI l ≤ T
    · have e1 : alE T l = 0 := by unfold alE; rw [if_neg (by omega), if_pos h2]
      have e2 : alL T l = l := by unfold alL; rw [if_neg (by omega), if_pos h2]
      rw [e1, e2]
      rw [h1, F.val] at HC
      have HD : Hid (∀ W, Below w.heap.size w W → Calls Try.prog 54 #[.slice A l.length c] W (CloneP l W)) := fun W hW => clone_any l A c W (by omega) ((hs.below hW).mono hW.size)
      clear F e1 e2 h1 hl hs hT
      generalize sumI l = S at *
      go_enter Try.func71, Try.ntmps71
      go_wp2_with fail
      refine HC.out.mono ?_
      rintro e w1 ⟨rfl, hb1⟩
      have HB := Lib.hid hb1
      clear hb1
      go_wp2_with fail
      refine (HD.out _ HB.out).mono ?_
      rintro e w2 ⟨A2, c2, rfl, hs2, hb2⟩
      have HS2 := Lib.hid hs2
      have HB2 := Lib.hid (HB.out.trans (hb2.mono HB.out.size))
      clear hs2 hb2
      go_wp2_with fail
      go_ret2
      exact ⟨A2, c2, rfl, HS2.out, HB2.out⟩
    · have e1 : alE T l = appE T l := by unfold alE; rw [if_neg (by omega), if_neg h2]
      have e2 : alL T l = appL T l := by unfold alL; rw [if_neg (by omega), if_neg h2]
      rw [e1, e2]
      rw [h1, F.val] at HC
      have HD : Hid (∀ W, Below w.heap.size w W → Calls Try.prog 95 #[.int .i64 T, .slice A l.length c] W (GotI W (appL T l) (appE T l))) := fun W hW => Apportion_any T l A c W hT hl ((hs.below hW).mono hW.size) hn
      clear F e1 e2 h1 hl hs hT
      generalize sumI l = S at *
      generalize appL T l = zs at *
      generalize appE T l = E at *
      go_enter Try.func71, Try.ntmps71
      go_wp2_with fail
      refine HC.out.mono ?_
      rintro e w1 ⟨rfl, hb1⟩
      have HB := Lib.hid hb1
      clear hb1
      go_wp2_with fail
      refine (HD.out _ HB.out).mono ?_
      rintro e w2 ⟨A2, c2, rfl, hs2, hb2⟩
      have HS2 := Lib.hid hs2
      have HB2 := Lib.hid (HB.out.trans (hb2.mono HB.out.size))
      clear hs2 hb2
      go_wp2_with fail
      go_ret2
      exact ⟨A2, c2, rfl, HS2.out, HB2.out⟩
  · have e1 : alE T l = chkE T l := by unfold alE; rw [if_pos h1]
    have e2 : alL T l = [] := by unfold alL; rw [if_pos h1]
    rw [e1, e2]
    have h1' : (chkE T l == 0) = false := by simpa using h1
    have h1n : (chkE T l != 0) = true := by simpa using h1
    clear e1 e2 h1 hl hs hT
    generalize chkE T l = E at *
    generalize chkV T l = V at *
    go_enter Try.func71, Try.ntmps71
    go_wp2_with fail
    refine HC.out.mono ?_
    rintro e w1 ⟨rfl, hb1⟩
    have HB := Lib.hid hb1
    clear hb1
    go_wp2_with fail
    go_ret2
    exact GotI.nil _ _ _ HB.out
/-- Do parts fit claims? -/
def fitB : List Int → List Int → Bool
  | [], [] => true
  | c :: cs, p :: ps => decide (0 ≤ p) && decide (p ≤ c) && fitB cs ps
  | _, _ => false
def lostL (cs ps : List Int) : List Int := if fitB cs ps then List.zipWith (· - ·) cs ps else []
def lostE (cs ps : List Int) : Int := if fitB cs ps then 0 else 1
theorem fitB_len : ∀ {cs ps : List Int}, fitB cs ps = true → cs.length = ps.length
  | [], [], _ => rfl
  | c :: cs, p :: ps, h => by
    simp only [fitB, Bool.and_eq_true] at h
    simp [fitB_len h.2]
  | [], _ :: _, h => by simp [fitB] at h
  | _ :: _, [], h => by simp [fitB] at h
theorem fitB_iff : ∀ {cs ps : List Int}, cs.length = ps.length → (fitB cs ps = true ↔ ∀ i (h : i < cs.length) (h' : i < ps.length), 0 ≤ ps[i] ∧ ps[i] ≤ cs[i])
  | [], [], _ => by simp [fitB]
  | c :: cs, p :: ps, e => by
    have ih := fitB_iff (cs := cs) (ps := ps) (by simpa using e)
    simp only [fitB, Bool.and_eq_true, decide_eq_true_eq, ih]
    constructor
    · rintro ⟨h1, h2⟩ i h h'
      cases i with
      | zero => exact h1
      | succ i => exact h2 i (by simpa using h) (by simpa using h')
    · intro h
      exact ⟨h 0 (by simp) (by simp), fun i h1 h2 => h (i + 1) (by simpa using h1) (by simpa using h2)⟩
  | [], _ :: _, e => by simp at e
  | _ :: _, [], e => by simp at e
theorem fitB_no {cs ps : List Int} {i : Nat} (e : cs.length = ps.length) (h : i < cs.length) (h' : i < ps.length) (hn : ¬ (0 ≤ ps[i] ∧ ps[i] ≤ cs[i])) : fitB cs ps = false := by
  cases hf : fitB cs ps
  · rfl
  · exact absurd ((fitB_iff e).1 hf i h h') hn
theorem zip_snoc {cs ps : List Int} {k : Nat} (h : k < cs.length) (h' : k < ps.length) : List.zipWith (· - ·) (cs.take (k + 1)) (ps.take (k + 1)) = List.zipWith (· - ·) (cs.take k) (ps.take k) ++ [cs[k] - ps[k]] := by
  rw [List.take_succ_eq_append_getElem h, List.take_succ_eq_append_getElem h', List.zipWith_append (by simp; omega)]
  rfl
set_option maxHeartbeats 1600000 in
theorem Lost_any (cs ps : List Int) (A A' : Option Addr) (c c' : Nat) (w : World) (hcs : ∀ x ∈ cs, I64 x) (hs : Seg w w.heap.size A (cs.map (Value.int .i64))) (hs' : Seg w w.heap.size A' (ps.map (Value.int .i64))) (hn : cs.length ≤ 1000000) :
    Calls Try.prog 84 #[.slice A cs.length c, .slice A' ps.length c'] w (GotI w (lostL cs ps) (lostE cs ps)) := by
  by_cases hlen : cs.length = ps.length
  · have inf : (Try.prog.info? 2).map (fun i => (i.zero, i.size, i.bytes)) = some (some (.int .i64 0), 1, 8) := by kernel_rfl
    obtain ⟨i0, hi0, hz0, hz1, hz2⟩ := info_parts inf
    have HS := Lib.hid hs
    have HS' := Lib.hid hs'
    have HI := Lib.hid hcs
    have HLEN := Lib.hid hlen
    rw [← hlen]
    clear hs hs' hcs hlen
    go_enter Try.func84, Try.ntmps84
    go_wp2_with fail
    go_loopw [6, 7, 8, 16] (fun u _ _ i wr => ∃ k : Nat, k ≤ cs.length ∧ i = .int .i64 k ∧ Hid (∀ i (h : i < cs.length) (h' : i < ps.length), i < k → 0 ≤ ps[i] ∧ ps[i] ≤ cs[i]) ∧ Hid (wr.ownsRow w.heap.size 2 1 u (List.zipWith (· - ·) (cs.take k) (ps.take k)).length ((List.zipWith (· - ·) (cs.take k) (ps.take k)).map (Value.int .i64))) ∧ Hid (Below w.heap.size w wr)) (fun _ _ _ i _ => cs.length - (intOf i).toNat)
    case atStart => exact ⟨0, Nat.zero_le _, rfl, fun i _ _ h => by omega, ⟨by simp, Or.inl ⟨rfl, rfl⟩⟩, Below.refl _ _⟩
    case round =>
      obtain ⟨k, hk, rfl, HP, HO, HB⟩ := hrel
      have hsz := HB.out.size
      by_cases hlt : k < cs.length
      · have hlt' : k < ps.length := by have := HLEN.out; omega
        obtain ⟨b, o, rfl, hb, hc⟩ := (HS.out.below HB.out).at (k := k) (by simpa using hlt)
        obtain ⟨b', o', rfl, hb', hc'⟩ := (HS'.out.below HB.out).at (k := k) (by simpa using hlt')
        rw [List.getElem_map] at hc hc'
        have hI := HI.out cs[k] (List.getElem_mem hlt)
        unfold I64 at hI
        obtain ⟨hI1, hI2⟩ := hI
        by_cases hx : ps[k] < 0
        · have HF := Lib.hid (fitB_no HLEN.out hlt hlt' (by omega))
          go_wp2_with fail
          go_ret2
          have e1 : lostL cs ps = [] := by unfold lostL; rw [HF.out]; rfl
          have e2 : lostE cs ps = 1 := by unfold lostE; rw [HF.out]; rfl
          rw [e1, e2]
          exact GotI.nil _ _ _ HB.out
        · by_cases hy : cs[k] < ps[k]
          · have HF := Lib.hid (fitB_no HLEN.out hlt hlt' (by omega))
            go_wp2_with fail
            go_ret2
            have e1 : lostL cs ps = [] := by unfold lostL; rw [HF.out]; rfl
            have e2 : lostE cs ps = 1 := by unfold lostE; rw [HF.out]; rfl
            rw [e1, e2]
            exact GotI.nil _ _ _ HB.out
          · have HP2 : Hid (∀ i (h : i < cs.length) (h' : i < ps.length), i < k + 1 → 0 ≤ ps[i] ∧ ps[i] ≤ cs[i]) := by
              intro i h h' hik
              by_cases e : i = k
              · subst e; omega
              · exact HP.out i h h' (by omega)
            have HF := Lib.hid (zip_snoc hlt hlt')
            have hzl : (List.zipWith (· - ·) (cs.take k) (ps.take k)).length ≤ k := by rw [List.length_zipWith, List.length_take]; omega
            generalize List.zipWith (· - ·) (cs.take k) (ps.take k) = ys at *
            go_wp2_with (at_builtin; refine wpList_append_own _ rfl _ _ 35 rfl w.heap.size 2 i0 _ 1 8 Try.underlying35 hi0 hz0 hz1 hz2 rfl (by decide) _ ys.length (ys.map (Value.int .i64)) rfl (HO.out.alloc _) ⟨wr.heap.size, 0, none⟩ 1 1 [.int .i64 (cs[k] - ps[k])] rfl rfl (new_cells _ _ #[_] (by simp)) one_int (by simp only [maxLen]; omega) (by omega) (by simp; omega) ?_)
            intro v' w4 hown1 hgrow1 _
            have HO4 : Hid (w4.ownsRow w.heap.size 2 1 v' (List.zipWith (· - ·) (cs.take (k + 1)) (ps.take (k + 1))).length ((List.zipWith (· - ·) (cs.take (k + 1)) (ps.take (k + 1))).map (Value.int .i64))) := by
              show World.ownsRow _ _ _ _ _ _ _
              rw [HF.out, List.map_append, List.length_append, List.length_singleton]
              exact hown1
            have HG4 : Hid (Below w.heap.size w w4) := (HB.out.alloc hsz _).grown hgrow1 (by simp; omega) (fun j hj => own_base HO.out j hj)
            clear hown1 hgrow1
            go_wp2_with fail
            go_roundw
            case rel => exact ⟨k + 1, by omega, by go_num, HP2, HO4, HG4⟩
            case measure => simp [intOf]; omega
      · obtain rfl : k = cs.length := by omega
        have HF := Lib.hid ((fitB_iff HLEN.out).2 fun i h h' => HP.out i h h' h)
        have hO := HO.out
        have e9 : ps.take cs.length = ps := by rw [HLEN.out, List.take_length]
        rw [List.take_length, e9] at hO
        have e1 : lostL cs ps = List.zipWith (· - ·) cs ps := by unfold lostL; rw [HF.out]; rfl
        have e2 : lostE cs ps = 0 := by unfold lostE; rw [HF.out]; rfl
        generalize List.zipWith (· - ·) cs ps = zs at hO e1
        obtain ⟨A1, c1, rfl⟩ := own_form hO
        have HSD := Lib.hid (Seg.of_own hO)
        have HE1 := Lib.hid e1
        have HE2 := Lib.hid e2
        clear hO e1 e2 e9
        go_wp2_with fail
        go_ret2
        rw [HE1.out, HE2.out]
        exact ⟨A1, c1, rfl, HSD.out, HB.out⟩
  · have e0 : fitB cs ps = false := by
      cases hf : fitB cs ps
      · rfl
      · exact absurd (fitB_len hf) hlen
    have e1 : lostL cs ps = [] := by unfold lostL; rw [e0]; rfl
    have e2 : lostE cs ps = 1 := by unfold lostE; rw [e0]; rfl
    rw [e1, e2]
    clear e0 e1 e2 hs hs' hcs
    have h9 : ((cs.length : Int) != (ps.length : Int)) = true := by simp; omega
    have h8 : (cs.length == ps.length) = false := by simpa using hlen
    go_enter Try.func84, Try.ntmps84
    go_wp2_with fail
    go_ret2
    exact GotI.nil _ _ _ (Below.refl _ _)
end Go.Proofs.Ytglpnpjjjihghaa
