/-
  What the method Left of oblig.Sheet and complineref19.Size come to; the page's example of layer 19 holds, over this seat's translation.
-/
import Derived.Test.YtkjkkcaiddeggaaObSheet5
namespace Go.Proofs.Ytkjkkcaiddeggaa
open Go.RowKit

def leftE (m a : Int) (L : List Ob) : Int := if findI m a L < L.length then 0 else 8
def leftV (m a : Int) (L : List Ob) : Int := match L[findI m a L]? with
  | none => 0
  | some x => x.size - x.done
theorem ret2_int' {k : IntKind} {a b c d : Int} (h : a = c) (h' : b = d) :
    Ending.returned (.tuple #[.int k a, .int k b]) = .returned (.tuple #[.int k c, .int k d]) := by rw [h, h']

set_option maxRecDepth 100000 in
set_option maxHeartbeats 800000 in
theorem left_any (L : List Ob) (m a : Int) (v : Value) (bs base : Nat) (w : World) (h : ShAt w bs base v L) (hL : Fine L) :
    Calls Try.prog 19 #[.pointer (some ⟨bs, 0, none⟩), .int .i64 m, .int .i64 a] w fun e w' => e = .returned (.tuple #[.int .i64 (leftV m a L), .int .i64 (leftE m a L)]) ∧ Below w.heap.size w w' := by
  have hl : L.length ≤ 1000000 := by have := hL.len; omega
  have HH := Lib.hid h
  by_cases hi : findI m a L < L.length
  · have HI := Lib.hid (find_lt hi)
    have hE : leftE m a L = 0 := by unfold leftE; rw [if_pos hi]
    have hV : leftV m a L = L[findI m a L].size - L[findI m a L].done := by unfold leftV; rw [List.getElem?_eq_getElem hi]
    obtain ⟨o1, o2, o3, o4, o5⟩ := hL.each _ (List.getElem_mem hi)
    have HE := Lib.hid hE
    have HV := Lib.hid hV
    generalize findI m a L = i at *
    have HO1 := Lib.hid o1
    have hs2 : L[i].size ≤ 9223372036854775807 := by unfold Ob.size; unfold minI at o1; split <;> omega
    clear hE hV h o1 o3
    go_enter Try.func19, Try.ntmps19
    go_wp2_with fail
    refine (find_any L m a v bs base _ HH.out hl).mono ?_
    rintro e w1 ⟨rfl, hb1⟩
    rw [HI.out]
    obtain ⟨g, cap, rfl, hg, hgb, hcap, hfz, d0, d1, d2, d3, d4, d5⟩ := sh_at (HH.out.below hb1) hi
    have c0 := (HH.out.below hb1).c0
    have hlt1 := (HH.out.below hb1).lt
    have HB1 := Lib.hid hb1
    have hz1 := hb1.size
    clear hb1 hfz
    have hkb : (i : Int) < (L.length : Int) := by omega
    have hk0 : (0 : Int) ≤ (i : Int) := by omega
    have hw1 : IntKind.i64.wrap (L[i].size - L[i].done) = L[i].size - L[i].done := IntWalk.i64_in _ (by omega)
    go_wp2_with fail
    go_region_held3 (fun w' => w'.cell? ⟨bs, 0, none⟩ = some (.slice (some ⟨g, 0, none⟩) L.length cap) ∧ w'.cell? ⟨g, i * 6, none⟩ = some (.int .i64 L[i].c) ∧ w'.cell? ⟨g, i * 6 + 1, none⟩ = some (.int .i64 L[i].m) ∧ w'.cell? ⟨g, i * 6 + 2, none⟩ = some (.int .i64 L[i].a) ∧ w'.cell? ⟨g, i * 6 + 3, none⟩ = some (.int .i64 L[i].net) ∧ w'.cell? ⟨g, i * 6 + 4, none⟩ = some (.int .i64 L[i].done) ∧ w'.cell? ⟨g, i * 6 + 5, none⟩ = some (.int .i64 L[i].st))
      (first | exact ⟨c0, d0, d1, d2, d3, d4, d5⟩ | exact ⟨(hb2.cell (p := ⟨bs, 0, none⟩) hlt1).trans c0, (hb2.cell (p := ⟨g, i * 6, none⟩) hg).trans d0, (hb2.cell (p := ⟨g, i * 6 + 1, none⟩) hg).trans d1, (hb2.cell (p := ⟨g, i * 6 + 2, none⟩) hg).trans d2, (hb2.cell (p := ⟨g, i * 6 + 3, none⟩) hg).trans d3, (hb2.cell (p := ⟨g, i * 6 + 4, none⟩) hg).trans d4, (hb2.cell (p := ⟨g, i * 6 + 5, none⟩) hg).trans d5⟩)
      (first | (go_at_call 30; refine (size_any L[i] _ HO1.out o2).mono ?_; rintro e w2 ⟨rfl, hb2'⟩; have hb2 : Below w1.heap.size w1 w2 := ((Below.refl _ _).drew).trans hb2'; clear hb2'))
    have HB2 := Lib.hid hb2
    clear hb2 hw1
    go_wp2_with fail
    go_ret2
    refine ⟨ret2_int' ?_ HE.out.symm, HB1.out.trans (HB2.out.mono hz1)⟩
    rw [HV.out]
  · have HI := Lib.hid (find_no hi)
    have hE : leftE m a L = 8 := by unfold leftE; rw [if_neg hi]
    have hV : leftV m a L = 0 := by unfold leftV; rw [List.getElem?_eq_none (by omega)]
    have HE := Lib.hid hE
    have HV := Lib.hid hV
    clear hE hV h
    go_enter Try.func19, Try.ntmps19
    go_wp2_with fail
    refine (find_any L m a v bs base _ HH.out hl).mono ?_
    rintro e w1 ⟨rfl, hb1⟩
    rw [HI.out]
    have HB1 := Lib.hid hb1
    clear hb1
    go_wp2_with fail
    go_ret2
    exact ⟨ret2_int' HV.out.symm HE.out.symm, HB1.out⟩

set_option maxHeartbeats 400000 in
theorem refsize_any (x : Ob) (w : World) (h0 : minI < x.net) (h1 : x.net ≤ 9223372036854775807) :
    Calls Try.prog 14 #[x.val] w fun e w' => e = .returned (.int .i64 x.size) ∧ Below w.heap.size w w' := by
  have HM := Lib.hid (size_max x)
  unfold minI at h0
  obtain ⟨c, m, a, net, done, st⟩ := x
  simp only at h0 h1
  unfold Ob.val
  go_enter Try.func14, Try.ntmps14
  go_wp2
  all_goals
    go_ret
    refine ⟨ret_int ?_, (Below.refl _ _).alloc (Nat.le_refl _) _⟩
    rw [← HM.out]
    omega

theorem fine_nil : Fine [] := ⟨fun x hx => by simp at hx, fun j k hj => by simp at hj, by simp⟩

def exO1 : List Ob := [⟨1, 2, 0, 5, 0, 1⟩]
def exO2 : List Ob := [⟨1, 2, 0, 5, 3, 1⟩]
def exO3 : List Ob := [⟨1, 2, 0, 5, 2, 1⟩]
set_option maxRecDepth 100000 in
set_option maxHeartbeats 800000 in
theorem awake_any (w : World) :
    Calls Try.prog 7 #[] w fun e w' => e = .returned (.bool true) ∧ Below w.heap.size w w' := by
  have f0 := fine_nil
  have f1 : Fine exO1 := (fine_open 1 [⟨2, 0, 5⟩] f0 (by decide)).1
  have f2 : Fine exO2 := (fine_pay 2 0 3 f1).1
  have f3 : Fine exO3 := (fine_take 2 0 1 f2).1
  have F1 := Lib.hid f1
  have F2 := Lib.hid f2
  have F3 := Lib.hid f3
  clear f0 f1 f2 f3
  go_enter Try.func7, Try.ntmps7
  go_wp2_with fail
  refine (new_any w).mono ?_
  rintro e w0 ⟨rfl, rfl⟩
  have hN := new_at w
  have HN := Lib.hid (hN.below ((Below.refl _ _).alloc (Nat.le_refl _) (.cells #[.int .i64 2, .int .i64 0, .int .i64 5] 52)))
  clear hN
  have hseg : Seg ((w.alloc (.cells #[.slice none 0 0] 54)).alloc (.cells #[.int .i64 2, .int .i64 0, .int .i64 5] 52)) ((w.alloc (.cells #[.slice none 0 0] 54)).alloc (.cells #[.int .i64 2, .int .i64 0, .int .i64 5] 52)).heap.size (some ⟨w.heap.size + 1, 0, none⟩) (lgRows [⟨2, 0, 5⟩]) := by
    intro j u hu
    refine ⟨w.heap.size + 1, 0, rfl, by simp, ?_⟩
    rw [cell_new _ _ _ _ (by simp), Nat.zero_add, ← Array.getElem?_toList]
    exact hu
  have HSG := Lib.hid hseg
  clear hseg
  go_wp2_with fail
  refine (open_any [] 1 [⟨2, 0, 5⟩] (some ⟨w.heap.size + 1, 0, none⟩) 1 (.slice none 0 0) w.heap.size w.heap.size _ HN.out fine_nil HSG.out (fun _ p hp => by cases hp; simp [Value.ownBlock]) (by simp; omega) (by decide) (by decide) (by intro y hy; simp at hy; subst hy; decide)).mono ?_
  rintro e w1 ⟨v1, rfl, hs1, ho1, _⟩
  have hb1 : Below w.heap.size w w1 := (((Below.refl _ _).alloc (Nat.le_refl _) _).alloc (by simp) _).trans (ho1.below (Nat.le_refl _) (fun k hk => by simp [Value.ownBlock] at hk) (by simp; omega))
  have HS1 : Hid (ShAt w1 w.heap.size w.heap.size v1 exO1) := hs1
  have HB1 := Lib.hid hb1
  clear hs1 ho1 hb1
  go_wp2_with fail
  refine (pay_any exO1 2 0 3 v1 w.heap.size w.heap.size _ HS1.out F1.out (by omega)).mono ?_
  rintro e w2 ⟨v2, rfl, hs2, ho2, _⟩
  have HS2 : Hid (ShAt w2 w.heap.size w.heap.size v2 exO2) := hs2
  have HB2 := Lib.hid (ho2.below (Nat.le_refl _) (own_base HS1.out.own) (Nat.le_of_lt HS1.out.lt))
  clear hs2 ho2
  go_wp2_with fail
  refine (take_any exO2 2 0 1 v2 w.heap.size w.heap.size _ HS2.out F2.out (by omega)).mono ?_
  rintro e w3 ⟨v3, rfl, hs3, ho3, _⟩
  have HS3 : Hid (ShAt w3 w.heap.size w.heap.size v3 exO3) := hs3
  have HB3 := Lib.hid (ho3.below (Nat.le_refl _) (own_base HS2.out.own) (Nat.le_of_lt HS2.out.lt))
  clear hs3 ho3
  go_wp2_with fail
  refine (pay_any exO3 2 0 4 v3 w.heap.size w.heap.size _ HS3.out F3.out (by omega)).mono ?_
  rintro e w4 ⟨v4, rfl, hs4, ho4, _⟩
  have HS4 : Hid (ShAt w4 w.heap.size w.heap.size v4 exO3) := hs4
  have HB4 := Lib.hid (ho4.below (Nat.le_refl _) (own_base HS3.out.own) (Nat.le_of_lt HS3.out.lt))
  clear hs4 ho4
  go_wp2_with fail
  refine (left_any exO3 2 0 v4 w.heap.size w.heap.size _ HS4.out F3.out).mono ?_
  rintro e w5 ⟨rfl, hb5⟩
  have HS5 := Lib.hid (HS4.out.below hb5)
  have HB5 := Lib.hid (hb5.mono (Nat.le_of_lt HS4.out.lt))
  clear hb5
  have k1 : openE 1 [⟨2, 0, 5⟩] [] = 0 := by decide
  have k2 : payE 2 0 3 exO1 = 0 := by decide
  have k3 : takeE 2 0 1 exO2 = 0 := by decide
  have k4 : payE 2 0 4 exO3 = 12 := by decide
  have k5 : leftV 2 0 exO3 = 3 := by decide
  have k6 : leftE 2 0 exO3 = 0 := by decide
  have k7 : countI 1 exO3 = 1 := by decide
  go_wp2_with fail
  refine (count_any exO3 1 v4 w.heap.size w.heap.size _ HS5.out (by decide)).mono ?_
  rintro e w6 ⟨rfl, hb6⟩
  have HB6 := Lib.hid (hb6.mono (Nat.le_of_lt HS5.out.lt))
  clear hb6
  go_wp2_with fail
  go_ret
  exact ⟨rfl, HB1.out.trans (HB2.out.trans (HB3.out.trans (HB4.out.trans (HB5.out.trans HB6.out))))⟩

/-- A call, as it lies in memory. -/
structure ActD where
  kind : Int
  nets : List Lg
  A : Option Addr
  cap : Nat
  m : Int
  a : Int
  st : Int
  n : Int
def ActD.cells (x : ActD) : List Value := [.int .i64 x.kind, .slice x.A x.nets.length x.cap, .int .i64 x.m, .int .i64 x.a, .int .i64 x.st, .int .i64 x.n]
def actRows (l : List ActD) : List Value := l.flatMap ActD.cells
theorem act_at {w : World} {B : Nat} {A : Option Addr} {l : List ActD} (h : Seg w B A (actRows l)) {k : Nat} (hk : k < l.length) :
    ∃ b o, A = some ⟨b, o, none⟩ ∧ b < B ∧ w.cell? ⟨b, o + k * 6, none⟩ = some (.int .i64 l[k].kind) ∧ w.cell? ⟨b, o + k * 6 + 1, none⟩ = some (.slice l[k].A l[k].nets.length l[k].cap) ∧ w.cell? ⟨b, o + k * 6 + 2, none⟩ = some (.int .i64 l[k].m) ∧
      w.cell? ⟨b, o + k * 6 + 3, none⟩ = some (.int .i64 l[k].a) ∧ w.cell? ⟨b, o + k * 6 + 4, none⟩ = some (.int .i64 l[k].st) ∧ w.cell? ⟨b, o + k * 6 + 5, none⟩ = some (.int .i64 l[k].n) := by
  obtain ⟨b, o, e, hb, hc⟩ := h.run (i := k * 6) (y := .int .i64 l[k].kind) (t := [.slice l[k].A l[k].nets.length l[k].cap, .int .i64 l[k].m, .int .i64 l[k].a, .int .i64 l[k].st, .int .i64 l[k].n]) (fun j u hu => flat_at ActD.cells 6 (fun _ => rfl) l k hk j u hu)
  exact ⟨b, o, e, hb, hc 0 _ rfl, hc 1 _ rfl, hc 2 _ rfl, hc 3 _ rfl, hc 4 _ rfl, hc 5 _ rfl⟩
/-- What holds of calls that came in. -/
structure ActOk (w : World) (B : Nat) (x : ActD) : Prop where
  seg : Seg w B x.A (lgRows x.nets)
  low : x.nets ≠ [] → ∀ p, x.A = some p → p.block < B
  cap : x.nets.length ≤ x.cap
  top : x.nets.length ≤ maxLen
  num : ∀ y ∈ x.nets, I64 y.n
  amt : I64 x.n

def fewB (l : List ActD) : Bool := decide (l.length ≤ 40) && l.all fun x => decide (x.nets.length ≤ 30)
set_option maxHeartbeats 400000 in
theorem few_any (l : List ActD) (A : Option Addr) (c B : Nat) (w : World) (hs : Seg w B A (actRows l)) (hl : l.length ≤ maxLen) (hN : ∀ x ∈ l, x.nets.length ≤ maxLen) :
    Calls Try.prog 6 #[.slice A l.length c] w fun e w' => e = .returned (.bool (fewB l)) ∧ w = w' := by
  have HS := Lib.hid hs
  have HN := Lib.hid hN
  clear hs hN
  unfold maxLen at hl
  by_cases h40 : l.length ≤ 40
  · have hf : fewB l = l.all fun x => decide (x.nets.length ≤ 30) := by unfold fewB; rw [decide_eq_true h40]; rfl
    have HF := Lib.hid hf
    clear hf
    have h40' : decide ((40 : Int) < (l.length : Int)) = false := by simp; omega
    go_enter Try.func6, Try.ntmps6
    go_wp2_with fail
    go_loop [3] (fun i => ∃ k : Nat, k ≤ l.length ∧ i = .int .i64 k ∧ Hid ((l.take k).all (fun x => decide (x.nets.length ≤ 30)) = true)) (fun i => l.length - (intOf i).toNat)
    case atStart => exact ⟨0, Nat.zero_le _, rfl, rfl⟩
    case round =>
      obtain ⟨k, hk, rfl, HK⟩ := hrel
      by_cases hlt : k < l.length
      · obtain ⟨b, o, rfl, hb, d0, d1, d2, d3, d4, d5⟩ := act_at HS.out hlt
        have hnl := HN.out l[k] (List.getElem_mem hlt)
        unfold maxLen at hnl
        by_cases h30 : l[k].nets.length ≤ 30
        · have HA : Hid ((l.take (k + 1)).all (fun x => decide (x.nets.length ≤ 30)) = true) := by
            show _ = _
            rw [List.take_succ_eq_append_getElem hlt, List.all_append, HK.out]
            simpa using h30
          go_wp2_with fail
          go_round
          case rel => exact ⟨k + 1, by omega, by go_num, HA⟩
          case measure => simp [intOf]; omega
        · have hA : false = l.all fun x => decide (x.nets.length ≤ 30) := by
            symm
            rw [List.all_eq_false]
            exact ⟨l[k], List.getElem_mem hlt, by simpa using h30⟩
          have HA := Lib.hid hA
          clear hA
          go_wp2_with fail
          go_ret
          exact ⟨ret_bool (HA.out.trans HF.out.symm), rfl⟩
      · obtain rfl : k = l.length := by omega
        have hA := HK.out
        rw [List.take_length] at hA
        have HA := Lib.hid hA
        clear hA
        go_wp2_with fail
        go_ret
        exact ⟨ret_bool (HA.out.symm.trans HF.out.symm), rfl⟩
  · have hf : false = fewB l := by unfold fewB; rw [decide_eq_false h40]; rfl
    have HF := Lib.hid hf
    clear hf
    go_enter Try.func6, Try.ntmps6
    go_wp2_with fail
    go_ret
    exact ⟨ret_bool HF.out, rfl⟩
end Go.Proofs.Ytkjkkcaiddeggaa
