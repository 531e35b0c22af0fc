/-
  What script.Check and all come to, over this seat's translation: contracts for callers.
-/
import Derived.Test.YtmplokdbbhlomaaDoorSc10
namespace Go.Proofs.YtmplokdbbhlomaaDoor
open Go.RowKit

abbrev TSt : TypeId := 34
def stCells (x : St) : Array Value := #[.int .i64 x.k, .int .i64 x.c.k, .int .i64 x.c.i, .int .i64 x.c.m, .int .i64 x.c.o, .int .i64 x.c.s, .int .i64 x.c.q, .int .i64 x.c.p, .int .i64 x.n]
def stV (x : St) : Value := .agg (stCells x)
def errS (x : St) : Int := if rightS x then 0 else 3
theorem eqC_zero (c : Cm) (w : World) : (binOp .eql TC (.agg #[.int .i64 c.k, .int .i64 c.i, .int .i64 c.m, .int .i64 c.o, .int .i64 c.s, .int .i64 c.q, .int .i64 c.p]) (.agg #[.int .i64 0, .int .i64 0, .int .i64 0, .int .i64 0, .int .i64 0, .int .i64 0, .int .i64 0])).run Tryd.prog w = .ok (.bool (decide (c = zeroC))) w := by
  rw [run_eql_struct]
  have h := eqC_run c zeroC w
  unfold cmV zeroC at h
  rw [h]
  rfl
set_option maxRecDepth 100000 in
set_option maxHeartbeats 6400000 in
theorem scheck_any (x : St) (w : World) : Calls Tryd.prog 9 #[stV x] w fun e w' => e = .returned (.int .i64 (errS x)) ∧ Below w.heap.size w w' := by
  obtain ⟨k, c, n⟩ := x
  have heq := eqC_zero c
  have HCK := Lib.hid (fun W => check_any c W)
  have HW0 : Hid (Below w.heap.size w (w.alloc (.cells (stCells ⟨k, c, n⟩) TSt))) := Lib.hid ((Below.refl _ _).alloc (Nat.le_refl _) _)
  have HER : Hid (errS ⟨k, c, n⟩ = if (if k = 1 then decide (n = 0) && rightC c else decide (c = zeroC) && (decide (k = 2) && decide (-1 ≤ n) || decide (k = 3) && decide (0 ≤ n))) then 0 else 3) := Lib.hid rfl
  have HEC : Hid (errC c = if rightC c then 0 else 3) := Lib.hid rfl
  obtain ⟨er, her⟩ : ∃ er, er = errS ⟨k, c, n⟩ := ⟨_, rfl⟩
  rw [← her]
  rw [← her] at HER
  clear her
  unfold cmV at HCK
  unfold stCells at HW0
  simp only at HW0
  unfold stV stCells
  simp only
  generalize decide (c = zeroC) = bz at *
  by_cases h1 : k = 1
  · subst h1
    by_cases hn : n = 0
    · subst hn
      have HE : Hid (er = errC c) := Lib.hid (by rw [HER.out, HEC.out]; simp)
      go_enter Tryd.func9, Tryd.ntmps9
      go_wp2_with (go_at_call 25; refine (HCK.out _).mono ?_; rintro e w1 ⟨rfl, hb⟩; have HB1 := Lib.hid hb; clear hb)
      go_ret
      exact ⟨by rw [HE.out]; rfl, HW0.out.trans (HB1.out.mono HW0.out.size)⟩
    · have hb : (n == 0) = false := by simpa using hn
      have HE : Hid (er = 3) := Lib.hid (by rw [HER.out]; simp [hn])
      go_enter Tryd.func9, Tryd.ntmps9
      go_wp2_with fail
      go_ret
      exact ⟨by rw [HE.out]; rfl, HW0.out⟩
  have b1 : (k == 1) = false := by simpa using h1
  by_cases h2 : k = 2
  · subst h2
    cases bz with
    | false =>
      have HE : Hid (er = 3) := Lib.hid (by rw [HER.out]; simp)
      go_enter Tryd.func9, Tryd.ntmps9
      go_wp2_with fail
      go_ret
      exact ⟨by rw [HE.out]; rfl, HW0.out⟩
    | true =>
      by_cases hm : (-1 : Int) ≤ n
      · have hd : decide ((-1 : Int) ≤ n) = true := decide_eq_true hm
        have HE : Hid (er = 0) := Lib.hid (by rw [HER.out]; simp [hm])
        go_enter Tryd.func9, Tryd.ntmps9
        go_wp2_with fail
        go_ret
        exact ⟨by rw [HE.out]; rfl, HW0.out⟩
      · have hd : decide ((-1 : Int) ≤ n) = false := decide_eq_false hm
        have HE : Hid (er = 3) := Lib.hid (by rw [HER.out]; simp [hm])
        go_enter Tryd.func9, Tryd.ntmps9
        go_wp2_with fail
        go_ret
        exact ⟨by rw [HE.out]; rfl, HW0.out⟩
  have b2 : (k == 2) = false := by simpa using h2
  by_cases h3 : k = 3
  · subst h3
    cases bz with
    | false =>
      have HE : Hid (er = 3) := Lib.hid (by rw [HER.out]; simp)
      go_enter Tryd.func9, Tryd.ntmps9
      go_wp2_with fail
      go_ret
      exact ⟨by rw [HE.out]; rfl, HW0.out⟩
    | true =>
      by_cases hm : (0 : Int) ≤ n
      · have hd : decide ((0 : Int) ≤ n) = true := decide_eq_true hm
        have HE : Hid (er = 0) := Lib.hid (by rw [HER.out]; simp [hm])
        go_enter Tryd.func9, Tryd.ntmps9
        go_wp2_with fail
        go_ret
        exact ⟨by rw [HE.out]; rfl, HW0.out⟩
      · have hd : decide ((0 : Int) ≤ n) = false := decide_eq_false hm
        have HE : Hid (er = 3) := Lib.hid (by rw [HER.out]; simp [hm])
        go_enter Tryd.func9, Tryd.ntmps9
        go_wp2_with fail
        go_ret
        exact ⟨by rw [HE.out]; rfl, HW0.out⟩
  have b3 : (k == 3) = false := by simpa using h3
  have HE : Hid (er = 3) := Lib.hid (by rw [HER.out]; simp [h1, h2, h3])
  go_enter Tryd.func9, Tryd.ntmps9
  go_wp2_with fail
  go_ret
  exact ⟨by rw [HE.out]; rfl, HW0.out⟩
def stRows (l : List St) : List Value := l.flatMap fun x => (stCells x).toList
theorem st_at {w : World} {B : Nat} {A : Option Addr} {l : List St} (h : Seg w B A (stRows l)) {k : Nat} (hk : k < l.length) :
    ∃ b o, A = some ⟨b, o, none⟩ ∧ b < B ∧ w.cell? ⟨b, o + k * 9, none⟩ = some (.int .i64 l[k].k) ∧ w.cell? ⟨b, o + k * 9 + 1, none⟩ = some (.int .i64 l[k].c.k) ∧ w.cell? ⟨b, o + k * 9 + 2, none⟩ = some (.int .i64 l[k].c.i) ∧ w.cell? ⟨b, o + k * 9 + 3, none⟩ = some (.int .i64 l[k].c.m) ∧ w.cell? ⟨b, o + k * 9 + 4, none⟩ = some (.int .i64 l[k].c.o) ∧ w.cell? ⟨b, o + k * 9 + 5, none⟩ = some (.int .i64 l[k].c.s) ∧ w.cell? ⟨b, o + k * 9 + 6, none⟩ = some (.int .i64 l[k].c.q) ∧ w.cell? ⟨b, o + k * 9 + 7, none⟩ = some (.int .i64 l[k].c.p) ∧ w.cell? ⟨b, o + k * 9 + 8, none⟩ = some (.int .i64 l[k].n) := by
  obtain ⟨b, o, e, hb, hc⟩ := h.run (i := k * 9) (y := .int .i64 l[k].k) (t := [.int .i64 l[k].c.k, .int .i64 l[k].c.i, .int .i64 l[k].c.m, .int .i64 l[k].c.o, .int .i64 l[k].c.s, .int .i64 l[k].c.q, .int .i64 l[k].c.p, .int .i64 l[k].n]) (fun j u hu => flat_at (fun x : St => (stCells x).toList) 9 (fun _ => rfl) l k hk j u hu)
  exact ⟨b, o, e, hb, hc 0 _ rfl, hc 1 _ rfl, hc 2 _ rfl, hc 3 _ rfl, hc 4 _ rfl, hc 5 _ rfl, hc 6 _ rfl, hc 7 _ rfl, hc 8 _ rfl⟩
theorem wrongL_bad {l : List St} (hl : l.length ≤ 1024) {k : Nat} (hk : k < l.length) (h : rightS l[k] = false) : wrongL l = 3 := by
  unfold wrongL
  rw [if_neg (by omega), if_neg]
  intro h2
  rw [List.all_eq_true] at h2
  have := h2 _ (List.getElem_mem hk)
  rw [h] at this
  cases this
set_option maxRecDepth 100000 in
set_option maxHeartbeats 3200000 in
theorem sall_any (l : List St) (A : Option Addr) (c : Nat) (w : World) (hs : Seg w w.heap.size A (stRows l)) : Calls Tryd.prog 14 #[.slice A l.length c] w fun e w' => e = .returned (.int .i64 (wrongL l)) ∧ Below w.heap.size w w' := by
  have HS := Lib.hid hs
  clear hs
  by_cases hbig : 1024 < l.length
  · have hd : decide ((1024 : Int) < (l.length : Int)) = true := decide_eq_true (by omega)
    have HE : Hid (wrongL l = 6) := Lib.hid (by unfold wrongL; rw [if_pos hbig])
    go_enter Tryd.func14, Tryd.ntmps14
    go_wp2_with fail
    go_ret
    exact ⟨by rw [HE.out]; rfl, Below.refl _ _⟩
  have hd : decide ((1024 : Int) < (l.length : Int)) = false := decide_eq_false (by omega)
  go_enter Tryd.func14, Tryd.ntmps14
  go_wp2_with fail
  go_loopw [4, 5, 11] (fun _ _ i wr => ∃ k : Nat, k ≤ l.length ∧ i = .int .i64 k ∧ Hid ((l.take k).all rightS = true) ∧ Hid (Below w.heap.size w wr)) (fun _ _ i _ => l.length - (intOf i).toNat)
  case atStart => exact ⟨0, Nat.zero_le _, rfl, rfl, Below.refl _ _⟩
  case round =>
    obtain ⟨k, hk, rfl, HOK, HB⟩ := hrel
    by_cases hlt : k < l.length
    · obtain ⟨b, o, rfl, hb, e0, e1, e2, e3, e4, e5, e6, e7, e8⟩ := st_at (HS.out.below HB.out) hlt
      have HBD := Lib.hid (wrongL_bad (l := l) (by omega) hlt)
      have HSN : Hid ((l.take (k + 1)).all rightS = ((l.take k).all rightS && rightS l[k])) := Lib.hid (by rw [List.take_succ_eq_append_getElem hlt, List.all_append]; simp)
      have hk0 : (0 : Int) ≤ (k : Int) := by omega
      have hkb : (k : Int) < (l.length : Int) := by omega
      generalize l[k] = x at *
      have HBA : Hid (Below w.heap.size w (wr.alloc (.cells (stCells x) TSt))) := Lib.hid (HB.out.alloc HB.out.size _)
      have HSC := Lib.hid (fun W => scheck_any x W)
      have HES : Hid (errS x = if rightS x then 0 else 3) := Lib.hid rfl
      unfold stCells at HBA
      unfold stV stCells at HSC
      cases hr : rightS x with
      | true =>
        have he : errS x = 0 := by rw [HES.out, hr]; rfl
        rw [he] at HSC
        clear HBD HES
        go_wp2_with (go_at_call 9; refine (HSC.out _).mono ?_; rintro e w1 ⟨rfl, hb1⟩; have HB1 : Hid (Below w.heap.size w w1) := Lib.hid (HBA.out.trans (hb1.mono HBA.out.size)); clear hb1)
        go_roundw
        case rel => exact ⟨k + 1, by omega, by go_num, Lib.hid (by rw [HSN.out, HOK.out, hr]; rfl), HB1⟩
        case measure => simp [intOf]; omega
      | false =>
        have he : errS x = 3 := by rw [HES.out, hr]; rfl
        rw [he] at HSC
        have HE := Lib.hid (HBD.out hr)
        clear HBD HES HSN
        go_wp2_with (go_at_call 9; refine (HSC.out _).mono ?_; rintro e w1 ⟨rfl, hb1⟩; have HB1 : Hid (Below w.heap.size w w1) := Lib.hid (HBA.out.trans (hb1.mono HBA.out.size)); clear hb1)
        go_ret
        exact ⟨by rw [HE.out]; rfl, HB1.out⟩
    · obtain rfl : k = l.length := by omega
      have HE : Hid (wrongL l = 0) := Lib.hid (by
        have h := HOK.out
        rw [List.take_length] at h
        unfold wrongL
        rw [if_neg hbig, if_pos h])
      go_wp2_with fail
      go_ret
      exact ⟨by rw [HE.out]; rfl, HB.out⟩
end Go.Proofs.YtmplokdbbhlomaaDoor
