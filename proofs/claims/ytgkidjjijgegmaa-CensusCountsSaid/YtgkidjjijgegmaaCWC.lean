/-
  What complinelaw37.CensusCounts comes to, over this seat's translation.
-/
import Derived.Test.YtgkidjjijgegmaaCWF
import Derived.Test.YtgkidjjijgegmaaCSame
import Derived.Deep.RegionHeld3
import Derived.Deep.CutRange
namespace Go.Proofs.Ytgkidjjijgegmaa
open Go.RowKit

/-- Does every event that counts fit? -/
def fitB (l : List Ev) (x : Ev) : Bool := !(plJ x.k).isSome || okR (gE l (sideE x))
def fitsB (l : List Ev) (k : Nat) : Bool := (l.take k).all (fitB l)
theorem fits_snoc {l : List Ev} {k : Nat} (hk : k < l.length) : fitsB l (k + 1) = (fitsB l k && fitB l l[k]) := by
  unfold fitsB
  rw [List.take_succ_eq_append_getElem hk, List.all_append]
  simp
theorem gE_counts {l : List Ev} {q : Int × Int} (h : ∀ x ∈ l, (plJ x.k).isSome = true → sideE x ≠ q) (j : Nat) : gE l q j = 0 := by
  unfold gE colF
  have : l.flatMap (fun x => if plJ x.k = some j ∧ sideE x = q then ctr x else []) = [] := by
    rw [List.flatMap_eq_nil_iff]
    intro x hx
    rw [if_neg (fun e => h x hx (by rw [e.1]; rfl) e.2)]
  rw [this]
  rfl
theorem fits_all {l : List Ev} : fitsB l l.length = true ↔ ∀ q, okR (gE l q) = true := by
  unfold fitsB
  rw [List.take_length, List.all_eq_true]
  constructor
  · intro h q
    by_cases hq : ∃ x ∈ l, (plJ x.k).isSome = true ∧ sideE x = q
    · obtain ⟨x, hx, h1, rfl⟩ := hq
      have := h x hx
      unfold fitB at this
      rw [h1] at this
      simpa using this
    · exact okR_zero (gE_counts (fun x hx h1 h2 => hq ⟨x, hx, h1, h2⟩))
  · intro h x _
    unfold fitB
    rw [h]
    simp
/-- The census's error, of events that are not too many. -/
theorem ofR_fit {l : List Ev} {K : List Int} {o : Int} {T : List Tl} {err : Int} (hl : l.length ≤ 1024) (h : OfR l K o T err) : (fitsB l l.length = false ∧ K = [] ∧ o = 0 ∧ T = [] ∧ err = 2) ∨ (fitsB l l.length = true ∧ K = kindsL l ∧ o = manyE l 8 ∧ TalF (gE l) T ∧ err = 0) := by
  rcases h with ⟨h, _⟩ | ⟨_, ⟨q, hq⟩, h⟩ | ⟨_, h1, h⟩
  · omega
  · refine .inl ⟨?_, h⟩
    cases hf : fitsB l l.length with
    | false => rfl
    | true =>
      rw [fits_all.1 hf q] at hq
      cases hq
  · exact .inr ⟨fits_all.2 h1, h⟩
def zEv : Ev := ⟨0, 0, 0, 0, 0⟩
theorem made_evs (n : Nat) : (madeCells (Value.agg #[.int .i64 0, .int .i64 0, .int .i64 0, .int .i64 0, .int .i64 0]).cells (n * 5)).toList = evRows (List.replicate n zEv) := by
  have hz : ∀ r, r < 5 → (#[Value.int .i64 0, .int .i64 0, .int .i64 0, .int .i64 0, .int .i64 0] : Array Value)[r]! = .int .i64 0 := by
    intro r hr
    obtain rfl | rfl | rfl | rfl | rfl : r = 0 ∨ r = 1 ∨ r = 2 ∨ r = 3 ∨ r = 4 := by omega
    all_goals rfl
  have h1 : (madeCells (Value.agg #[.int .i64 0, .int .i64 0, .int .i64 0, .int .i64 0, .int .i64 0]).cells (n * 5)).toList = List.replicate (n * 5) (.int .i64 0) := by
    unfold madeCells
    apply List.ext_getElem?
    intro j
    by_cases hj : j < n * 5
    · simp only [Value.cells, Array.toList_map, Array.toList_range, List.getElem?_map, List.getElem?_range hj, Option.map_some, List.getElem?_replicate, if_pos hj]
      exact congrArg some (hz _ (Nat.mod_lt _ (by decide)))
    · simp [Value.cells, hj]
  have h2 : ∀ n, evRows (List.replicate n zEv) = List.replicate (n * 5) (.int .i64 0) := by
    intro n
    induction n with
    | zero => rfl
    | succ n ih =>
      rw [List.replicate_succ, Nat.succ_mul, Nat.add_comm, ← List.replicate_append_replicate, ← ih]
      rfl
  rw [h1, h2]
set_option maxRecDepth 100000 in
theorem make_evs (n : Nat) (hn : n ≤ 1000000) (W : World) : ∃ cs : Array Value, (Instr.makeSlice 22 (.int .i64 (n : Int)) (.int .i64 (n : Int))).run Try.prog W = .ok (.slice (some ⟨W.heap.size, 0, none⟩) n n) (W.alloc (.cells cs 34)) ∧ cs.toList = evRows (List.replicate n zEv) := by
  obtain ⟨i0, hi, hz0, hz1, hz2⟩ := info_parts ev_info
  have h := run_makeSlice (P := Try.prog) W 22 34 i0 _ Try.underlying22 hi hz0 .i64 .i64 n n (by omega) (Int.le_refl _) (by rw [hz1]; simp; omega) (by rw [hz2]; simp; omega) (by omega)
  rw [hz1] at h
  simp only [Int.toNat_natCast] at h
  exact ⟨_, h, made_evs n⟩
theorem drew_trans {w wa : World} (h : Below w.drew.heap.size w.drew wa) : Below w.heap.size w wa := (Below.refl _ _).drew.trans h
theorem alloc_drew_trans {w wa : World} {o : Obj} (h : Below (w.alloc o).drew.heap.size (w.alloc o).drew wa) : Below w.heap.size w wa := (((Below.refl _ _).alloc (Nat.le_refl _) _).drew).trans (h.mono (by simp))
theorem cell_new_drew (w : World) (cs : Array Value) (t : TypeId) (j : Nat) : (w.alloc (.cells cs t)).drew.cell? ⟨w.heap.size, j, none⟩ = cs[j]? := cell_new w cs t j rfl
theorem frozen_new (w : World) (cs : Array Value) (t : TypeId) (j : Nat) : (w.alloc (.cells cs t)).frozen? ⟨w.heap.size, j, none⟩ = false := by go_simp
theorem frozen_new_drew (w : World) (cs : Array Value) (t : TypeId) (j : Nat) : (w.alloc (.cells cs t)).drew.frozen? ⟨w.heap.size, j, none⟩ = false := frozen_new w cs t j
theorem kept_new' {w wa : World} {cs : Array Value} {t : TypeId} (h : Below (w.alloc (.cells cs t)).heap.size (w.alloc (.cells cs t)) wa) (j : Nat) : wa.cell? ⟨w.heap.size, j, none⟩ = cs[j]? ∧ wa.frozen? ⟨w.heap.size, j, none⟩ = false := by
  have hz : w.heap.size < (w.alloc (.cells cs t)).heap.size := by simp
  exact ⟨(h.cell (p := ⟨w.heap.size, j, none⟩) hz).trans (cell_new w cs t j rfl), (h.frozen (p := ⟨w.heap.size, j, none⟩) hz).trans (frozen_new w cs t j)⟩
theorem kept_new {w wa : World} {cs : Array Value} {t : TypeId} (h : Below (w.alloc (.cells cs t)).drew.heap.size (w.alloc (.cells cs t)).drew wa) (j : Nat) : wa.cell? ⟨w.heap.size, j, none⟩ = cs[j]? ∧ wa.frozen? ⟨w.heap.size, j, none⟩ = false :=
  kept_new' (cs := cs) (t := t) (w := w) ⟨h.os, h.tape, h.output, h.size, h.block⟩ j
theorem kept_old {wa wb : World} {g : Nat} {u0 u1 u2 u3 u4 : Value} (h : Below wa.heap.size wa wb) (p0 : wa.cell? ⟨g, 0, none⟩ = some u0) (p1 : wa.cell? ⟨g, 1, none⟩ = some u1) (p2 : wa.cell? ⟨g, 2, none⟩ = some u2) (p3 : wa.cell? ⟨g, 3, none⟩ = some u3) (p4 : wa.cell? ⟨g, 4, none⟩ = some u4) (pf : ∀ j, wa.frozen? ⟨g, j, none⟩ = false) :
    wb.cell? ⟨g, 0, none⟩ = some u0 ∧ wb.cell? ⟨g, 1, none⟩ = some u1 ∧ wb.cell? ⟨g, 2, none⟩ = some u2 ∧ wb.cell? ⟨g, 3, none⟩ = some u3 ∧ wb.cell? ⟨g, 4, none⟩ = some u4 ∧ ∀ j, wb.frozen? ⟨g, j, none⟩ = false := by
  have hz : g < wa.heap.size := World.block_lt_of_cell? _ _ p0
  exact ⟨(h.cell (p := ⟨g, 0, none⟩) hz).trans p0, (h.cell (p := ⟨g, 1, none⟩) hz).trans p1, (h.cell (p := ⟨g, 2, none⟩) hz).trans p2, (h.cell (p := ⟨g, 3, none⟩) hz).trans p3, (h.cell (p := ⟨g, 4, none⟩) hz).trans p4, fun j => (h.frozen (p := ⟨g, j, none⟩) hz).trans (pf j)⟩
theorem five_put {W : World} {b : Nat} {G : Nat → Int} {u0 u1 u2 u3 u4 : Value} (r0 : W.cell? ⟨b, 0, none⟩ = some u0) (r1 : W.cell? ⟨b, 1, none⟩ = some u1) (r2 : W.cell? ⟨b, 2, none⟩ = some u2) (r3 : W.cell? ⟨b, 3, none⟩ = some u3) (r4 : W.cell? ⟨b, 4, none⟩ = some u4) :
    ∀ j, j < 5 → (((((W.setCell ⟨b, 0, none⟩ (.int .i64 (G 0))).setCell ⟨b, 1, none⟩ (.int .i64 (G 1))).setCell ⟨b, 2, none⟩ (.int .i64 (G 2))).setCell ⟨b, 3, none⟩ (.int .i64 (G 3))).setCell ⟨b, 4, none⟩ (.int .i64 (G 4))).cell? ⟨b, j, none⟩ = some (.int .i64 (G j)) := by
  intro j hj
  have h := setAll_at (b := b) [.int .i64 (G 0), .int .i64 (G 1), .int .i64 (G 2), .int .i64 (G 3), .int .i64 (G 4)] W 0 (five_at r0 r1 r2 r3 r4 rfl) j (by simpa using hj)
  rw [Nat.zero_add] at h
  obtain rfl | rfl | rfl | rfl | rfl : j = 0 ∨ j = 1 ∨ j = 2 ∨ j = 3 ∨ j = 4 := by omega
  all_goals exact h
theorem five_new (W : World) (G : Nat → Int) {t : TypeId} : ∀ j, j < 5 → (W.alloc (.cells #[.int .i64 (G 0), .int .i64 (G 1), .int .i64 (G 2), .int .i64 (G 3), .int .i64 (G 4)] t)).cell? ⟨W.heap.size, j, none⟩ = some (.int .i64 (G j)) := by
  intro j hj
  rw [cell_new _ _ _ _ rfl]
  obtain rfl | rfl | rfl | rfl | rfl : j = 0 ∨ j = 1 ∨ j = 2 ∨ j = 3 ∨ j = 4 := by omega
  all_goals rfl
theorem drew_alloc_trans {w wa : World} {o : Obj} (h : Below (w.drew.alloc o).heap.size (w.drew.alloc o) wa) : Below w.heap.size w wa := ((Below.refl _ _).drew.alloc (Nat.le_refl _) _).trans (h.mono (by simp))
theorem below_trans2 {w wa wb : World} (h : Below w.heap.size w wa) (h' : Below wa.heap.size wa wb) : Below w.heap.size w wb := h.trans (h'.mono h.size)
theorem below_alloc_trans {w wa wb : World} {o : Obj} (h : Below w.heap.size w wa) (h' : Below (wa.alloc o).heap.size (wa.alloc o) wb) : Below w.heap.size w wb := (h.alloc h.size _).trans (h'.mono (Nat.le_trans h.size (by simp)))
theorem below_five {B b : Nat} {w W : World} {v0 v1 v2 v3 v4 : Value} (hb : B ≤ b) (h : Below B w W) : Below B w (((((W.setCell ⟨b, 0, none⟩ v0).setCell ⟨b, 1, none⟩ v1).setCell ⟨b, 2, none⟩ v2).setCell ⟨b, 3, none⟩ v3).setCell ⟨b, 4, none⟩ v4) :=
  ((((h.setCell (p := ⟨b, 0, none⟩) hb _).setCell (p := ⟨b, 1, none⟩) hb _).setCell (p := ⟨b, 2, none⟩) hb _).setCell (p := ⟨b, 3, none⟩) hb _).setCell (p := ⟨b, 4, none⟩) hb _
set_option maxRecDepth 100000 in
set_option maxHeartbeats 64000000 in
theorem counts_law (l : List Ev) (A : Option Addr) (c : Nat) (long : Bool) (w : World) (hs : Seg w w.heap.size A (evRows l)) (hI : ∀ x ∈ l, EvOk x) (_hl : l.length ≤ maxLen) :
    Calls Try.prog 3 #[.slice A l.length c, .bool long] w fun e w' => e = .returned (.bool true) ∧ Below w.heap.size w w' := by
  have HS := Lib.hid hs
  have HI := Lib.hid hI
  have HAW : Hid (∀ W, Calls Try.prog 7 #[] W fun e w' => e = .returned (.bool true) ∧ Below W.heap.size W w') := Lib.hid awake_any
  clear hs hI
  by_cases hbig : 60 < l.length
  · have hd : decide ((60 : Int) < (l.length : Int)) = true := decide_eq_true (by omega)
    go_enter Try.func3, Try.ntmps3
    go_wp2_with (go_at_call 7; refine (HAW.out _).mono ?_; rintro e w1 ⟨rfl, hb1⟩; have HB1 := Lib.hid hb1; clear hb1)
    go_ret
    exact ⟨rfl, HB1.out⟩
  have hd : decide ((60 : Int) < (l.length : Int)) = false := decide_eq_false (by omega)
  go_enter Try.func3, Try.ntmps3
  go_upto_if 25 with fail
  go_cut [] from 5 to 38 (fun W => Hid (Below w.heap.size w W))
  case first =>
    cases long with
    | false =>
      go_wp2_with fail
      go_meet
      case rel => exact Below.refl _ _
    | true =>
      obtain ⟨cs, hmk, hcs⟩ := make_evs 1025 (by omega) w
      have hmk' : (Instr.makeSlice 22 (.int .i64 1025) (.int .i64 1025)).run Try.prog w = .ok (.slice (some ⟨w.heap.size, 0, none⟩) 1025 1025) (w.alloc (.cells cs 34)) := hmk
      clear hmk
      go_wp2_with fail
      have HSZ : Hid (Seg (w.alloc (.cells cs 34)) (w.alloc (.cells cs 34)).heap.size (some ⟨w.heap.size, 0, none⟩) (evRows (List.replicate 1025 zEv))) := Lib.hid fun j u hu => ⟨_, _, rfl, by simp, by
        rw [cell_new _ _ _ _ rfl, Nat.zero_add, ← hu, ← hcs, Array.getElem?_toList]⟩
      have HBZ : Hid (Below w.heap.size w (w.alloc (.cells cs 34))) := Lib.hid ((Below.refl _ _).alloc (Nat.le_refl _) _)
      generalize w.alloc (.cells cs 34) = w1 at *
      have HOZ := of_any (List.replicate 1025 zEv) (some ⟨w.heap.size, 0, none⟩) 1025 w1 HSZ.out (fun x hx => by rw [List.eq_of_mem_replicate hx]; unfold EvOk zEv I64; simp only; omega) (by rw [List.length_replicate]; omega)
      rw [List.length_replicate] at HOZ
      have HOZ := Lib.hid HOZ
      clear HSZ hcs hmk'
      refine HOZ.out.mono ?_
      rintro e w2 ⟨K, o, T, err, v, hR, rfl, ⟨KA, kc, B, d, rfl, hK, hT⟩, hb2⟩
      rcases hR with ⟨_, hK0, ho0, hT0, he0⟩ | ⟨h, _⟩ | ⟨h, _⟩
      case inr.inl => rw [List.length_replicate] at h; omega
      case inr.inr => rw [List.length_replicate] at h; omega
      subst hK0 ho0 hT0 he0
      have HB2 : Hid (Below w.heap.size w w2) := Lib.hid (HBZ.out.trans (hb2.mono HBZ.out.size))
      have HSM : Hid (∀ W, Calls Try.prog 9 #[.agg #[.slice KA 0 kc, .int .i64 0, .slice B 0 d], .agg #[.slice none 0 0, .int .i64 0, .slice none 0 0]] W fun e w' => e = .returned (.bool true) ∧ Below W.heap.size W w') := Lib.hid fun W => same_any [] 0 [] KA none B none kc 0 d 0 W Seg.nil Seg.nil Seg.nil Seg.nil (by simp) (by simp)
      clear hK hT hb2 HOZ HBZ
      simp only [List.length_nil]
      go_wp2_with (go_at_call 9; refine (HSM.out _).mono ?_; rintro e w3 ⟨rfl, hb3⟩; have HB3 := Lib.hid hb3; clear hb3)
      go_meet
      case rel => exact (HB2.out.alloc HB2.out.size _).trans (HB3.out.mono (Nat.le_trans HB2.out.size (by simp)))
  case rest =>
    have HBc := Lib.hid hcut.out
    clear hcut
    have HOF := Lib.hid (of_any l A c wc ((HS.out.below HBc.out).mono HBc.out.size) HI.out (by omega))
    go_wp2_with fail
    refine HOF.out.mono ?_
    rintro e w2 ⟨K, o, T, err, v, hR, rfl, ⟨KA, kc, B, d, rfl, hK, hT⟩, hb2⟩
    have HR := Lib.hid (ofR_fit (by omega) hR)
    have HB2 : Hid (Below w.heap.size w w2) := Lib.hid (HBc.out.trans (hb2.mono HBc.out.size))
    have HK2 := Lib.hid hK
    have HT2 := Lib.hid hT
    have htl := ofR_few hR
    clear hK hT hb2 HOF hR HBc
    go_wp2_with fail
    have HCB := Lib.hid fun j => cell_new w2 #[.slice KA K.length kc, .int .i64 o, .slice B T.length d] 27 (b := w2.heap.size) j rfl
    have hz3 : w2.heap.size < (w2.alloc (.cells #[.slice KA K.length kc, .int .i64 o, .slice B T.length d] 27)).heap.size := by simp
    have HB23 : Hid (Below w2.heap.size w2 (w2.alloc (.cells #[.slice KA K.length kc, .int .i64 o, .slice B T.length d] 27))) := Lib.hid ((Below.refl _ _).alloc (Nat.le_refl _) _)
    generalize (w2.alloc (.cells #[.slice KA K.length kc, .int .i64 o, .slice B T.length d] 27)) = w3 at *
    have HB3 : Hid (Below w.heap.size w w3) := Lib.hid (HB2.out.trans (HB23.out.mono HB2.out.size))
    have HCX : Hid (∀ W, Below w3.heap.size w3 W → W.cell? ⟨w2.heap.size, 0, none⟩ = some (.slice KA K.length kc) ∧ W.cell? ⟨w2.heap.size, 1, none⟩ = some (.int .i64 o) ∧ W.cell? ⟨w2.heap.size, 2, none⟩ = some (.slice B T.length d)) := Lib.hid fun W hW => ⟨(hW.cell (p := ⟨w2.heap.size, 0, none⟩) hz3).trans (HCB.out 0), (hW.cell (p := ⟨w2.heap.size, 1, none⟩) hz3).trans (HCB.out 1), (hW.cell (p := ⟨w2.heap.size, 2, none⟩) hz3).trans (HCB.out 2)⟩
    have HKX : Hid (∀ W, Below w3.heap.size w3 W → Seg W W.heap.size KA (K.map (Value.int .i64))) := Lib.hid fun W hW => ((HK2.out.below (HB23.out.trans (hW.mono HB23.out.size)))).mono (Nat.le_trans HB23.out.size hW.size)
    have HTX : Hid (∀ W, Below w3.heap.size w3 W → Seg W W.heap.size B (tlRows T)) := Lib.hid fun W hW => ((HT2.out.below (HB23.out.trans (hW.mono HB23.out.size)))).mono (Nat.le_trans HB23.out.size hW.size)
    have HEX : Hid (∀ W, Below w3.heap.size w3 W → Seg W W.heap.size A (evRows l)) := Lib.hid fun W hW => (HS.out.below (HB3.out.trans (hW.mono HB3.out.size))).mono (HB3.out.trans (hW.mono HB3.out.size)).size
    have HWX : Hid (∀ W, Below w3.heap.size w3 W → Below w.heap.size w W) := Lib.hid fun W hW => HB3.out.trans (hW.mono HB3.out.size)
    have HRW : Hid (∀ W x y, Below w3.heap.size w3 W → Calls Try.prog 11 #[.slice A l.length c, .int .i64 x, .int .i64 y] W (GotR (gE l (x, y)) W)) := Lib.hid fun W x y hW => row37_any l A c x y W (HEX.out W hW) HI.out (by omega)
    clear HCB HB23 HB2 HK2 HT2 HB3 hz3
    go_loopw [9, 10, 11, 12] (fun fv i _ _ wr => ∃ k : Nat, k ≤ l.length ∧ i = .int .i64 k ∧ fv = .bool (fitsB l k) ∧ Hid (Below w3.heap.size w3 wr)) (fun _ i _ _ _ => l.length - (intOf i).toNat)
    case atStart => exact ⟨0, Nat.zero_le _, rfl, rfl, Below.refl _ _⟩
    case round =>
      obtain ⟨k, hk, rfl, rfl, HB⟩ := hrel
      have hsz := HB.out.size
      by_cases hlt : k < l.length
      · obtain ⟨b, o', rfl, hb, e0, e1, e2, e3, e4⟩ := ev_at (HEX.out _ HB.out) hlt
        have HFS := Lib.hid (fits_snoc hlt)
        obtain ⟨x, hx⟩ : ∃ x, x = l[k] := ⟨_, rfl⟩
        rw [← hx] at e0 e1 e2 e3 e4 HFS
        clear hx
        obtain ⟨xk, xm, xa, xn, xo⟩ := x
        simp only at e0 e1 e2 e3 e4
        have HCN := Lib.hid (counts_any ⟨xk, xm, xa, xn, xo⟩ wr)
        have hk0 : (0 : Int) ≤ (k : Int) := by omega
        have hkb : (k : Int) < (l.length : Int) := by omega
        unfold Ev.val at HCN
        simp only at HCN
        cases hc : (plJ xk).isSome with
        | false =>
          have HF1 : Hid (fitsB l (k + 1) = fitsB l k) := Lib.hid (by rw [HFS.out]; unfold fitB; rw [hc]; simp)
          rw [hc] at HCN
          clear HFS hc
          go_wp2_with (go_at_call 10; refine HCN.out.mono ?_; rintro e w4 ⟨rfl, hb4⟩; have HB4 := Lib.hid hb4; clear hb4)
          go_roundw
          case rel => exact ⟨k + 1, by omega, by go_num, by rw [HF1.out], HB.out.trans (HB4.out.mono hsz)⟩
          case measure => simp [intOf]; omega
        | true =>
          have HF1 : Hid (fitsB l (k + 1) = (fitsB l k && okR (gE l (sideE ⟨xk, xm, xa, xn, xo⟩)))) := Lib.hid (by rw [HFS.out]; unfold fitB; rw [hc]; simp)
          rw [hc] at HCN
          clear HFS hc
          go_upto_region 13 with (go_at_call 10; refine HCN.out.mono ?_; rintro e w4 ⟨rfl, hb4⟩; have HB4 := Lib.hid hb4; have f0 := (hb4.cell (p := ⟨b, o' + k * 5, none⟩) hb).trans e0; have f1 := (hb4.cell (p := ⟨b, o' + k * 5 + 1, none⟩) hb).trans e1; have f2 := (hb4.cell (p := ⟨b, o' + k * 5 + 2, none⟩) hb).trans e2; have f3 := (hb4.cell (p := ⟨b, o' + k * 5 + 3, none⟩) hb).trans e3; have f4 := (hb4.cell (p := ⟨b, o' + k * 5 + 4, none⟩) hb).trans e4; have hb4z := Nat.lt_of_lt_of_le hb hb4.size; clear hb4)
          have HB04 : Hid (Below w3.heap.size w3 w4) := Lib.hid (HB.out.trans (HB4.out.mono hsz))
          clear HB4 e0 e1 e2 e3 e4
          go_cut [11, 12] from 55 to 69 (fun _ iv W => iv = .bool (okR (gE l (sideE ⟨xk, xm, xa, xn, xo⟩))) ∧ Hid (Below w3.heap.size w3 W))
          case first =>
            have HAS : Hid (∀ W, Calls Try.prog 12 #[.agg #[.int .i64 xk, .int .i64 xm, .int .i64 xa, .int .i64 xn, .int .i64 xo]] W fun e w' => e = .returned (.int .i64 (sideE ⟨xk, xm, xa, xn, xo⟩).2) ∧ Below W.heap.size W w') := Lib.hid fun W => asset_any ⟨xk, xm, xa, xn, xo⟩ W
            have HSX : Hid (∀ W, Below w4.heap.size w4 W → W.cell? ⟨b, o' + k * 5, none⟩ = some (.int .i64 xk) ∧ W.cell? ⟨b, o' + k * 5 + 1, none⟩ = some (.int .i64 xm) ∧ W.cell? ⟨b, o' + k * 5 + 2, none⟩ = some (.int .i64 xa) ∧ W.cell? ⟨b, o' + k * 5 + 3, none⟩ = some (.int .i64 xn) ∧ W.cell? ⟨b, o' + k * 5 + 4, none⟩ = some (.int .i64 xo)) := Lib.hid fun W hW => ⟨(hW.cell (p := ⟨b, o' + k * 5, none⟩) hb4z).trans f0, (hW.cell (p := ⟨b, o' + k * 5 + 1, none⟩) hb4z).trans f1, (hW.cell (p := ⟨b, o' + k * 5 + 2, none⟩) hb4z).trans f2, (hW.cell (p := ⟨b, o' + k * 5 + 3, none⟩) hb4z).trans f3, (hW.cell (p := ⟨b, o' + k * 5 + 4, none⟩) hb4z).trans f4⟩
            have HRX : Hid (∀ W, Below w4.heap.size w4 W → Calls Try.prog 11 #[.slice (some ⟨b, o', none⟩) l.length c, .int .i64 xm, .int .i64 (sideE ⟨xk, xm, xa, xn, xo⟩).2] W fun e w' => ∃ ff : Nat → Int, e = .returned (.tuple #[.agg #[.int .i64 (ff 0), .int .i64 (ff 1), .int .i64 (ff 2), .int .i64 (ff 3), .int .i64 (ff 4)], .bool (okR (gE l (sideE ⟨xk, xm, xa, xn, xo⟩)))]) ∧ (okR (gE l (sideE ⟨xk, xm, xa, xn, xo⟩)) = true → ∀ j, j < 5 → ff j = gE l (sideE ⟨xk, xm, xa, xn, xo⟩) j) ∧ Below W.heap.size W w') := Lib.hid fun W hW => HRW.out W xm _ (HB04.out.trans (hW.mono HB04.out.size))
            have hs0 : Below w4.heap.size w4 w4.drew := (Below.refl _ _).drew
            have hS0 := HSX.out _ hs0
            generalize (sideE ⟨xk, xm, xa, xn, xo⟩).2 = ya at *
            generalize okR (gE l (sideE ⟨xk, xm, xa, xn, xo⟩)) = okb at *
            go_region_held3 (fun w' => w'.cell? ⟨b, o' + k * 5, none⟩ = some (.int .i64 xk) ∧ w'.cell? ⟨b, o' + k * 5 + 1, none⟩ = some (.int .i64 xm) ∧ w'.cell? ⟨b, o' + k * 5 + 2, none⟩ = some (.int .i64 xa) ∧ w'.cell? ⟨b, o' + k * 5 + 3, none⟩ = some (.int .i64 xn) ∧ w'.cell? ⟨b, o' + k * 5 + 4, none⟩ = some (.int .i64 xo)) (first | (with_reducible exact HSX.out _ (Below.refl _ _).drew) | (with_reducible exact HSX.out _ ((Below.refl _ _).drew.alloc (Nat.le_refl _) _)) | (with_reducible exact HSX.out _ ((Below.refl _ _).alloc (Nat.le_refl _) _).drew) | (with_reducible exact HSX.out _ HBr.out) | (with_reducible exact HSX.out _ (HBr.out.alloc HBr.out.size _)) | (with_reducible exact HSX.out _ (below_five (Nat.le_refl _) HBr.out)) | (with_reducible exact HSX.out _ (below_five hwz HBr.out)) | (with_reducible exact HSX.out _ HBa.out) | (with_reducible exact HSX.out _ (HBa.out.alloc HBa.out.size _))) (first | (go_at_call 12; refine (HAS.out _).mono ?_; rintro e wa ⟨rfl, hba⟩; have HBa : Hid (Below w4.heap.size w4 wa) := Lib.hid (by (first | (with_reducible exact drew_trans hba) | (with_reducible exact drew_alloc_trans hba) | (with_reducible exact alloc_drew_trans hba))); (first | (have p0 : wa.cell? ⟨w4.heap.size, 0, none⟩ = some (.int .i64 0) := (kept_new hba 0).1; have p1 : wa.cell? ⟨w4.heap.size, 1, none⟩ = some (.int .i64 0) := (kept_new hba 1).1; have p2 : wa.cell? ⟨w4.heap.size, 2, none⟩ = some (.int .i64 0) := (kept_new hba 2).1; have p3 : wa.cell? ⟨w4.heap.size, 3, none⟩ = some (.int .i64 0) := (kept_new hba 3).1; have p4 : wa.cell? ⟨w4.heap.size, 4, none⟩ = some (.int .i64 0) := (kept_new hba 4).1; have pf : ∀ j, wa.frozen? ⟨w4.heap.size, j, none⟩ = false := (fun j => (kept_new hba j).2)) | skip); have HBb := Lib.hid hba; clear hba) | (go_at_call 11; refine (HRX.out _ (by (first | (with_reducible exact HBa.out) | (with_reducible exact HBa.out.alloc HBa.out.size _)))).mono ?_; rintro e wb ⟨ff, rfl, _, hbb⟩; have HBr : Hid (Below w4.heap.size w4 wb) := Lib.hid (by (first | (with_reducible exact below_trans2 HBa.out hbb) | (with_reducible exact below_alloc_trans HBa.out hbb))); have hwz : w4.heap.size ≤ wa.heap.size := HBa.out.size; (first | (have hko := kept_old hbb p0 p1 p2 p3 p4 pf; have r0 := hko.1; have r1 := hko.2.1; have r2 := hko.2.2.1; have r3 := hko.2.2.2.1; have r4 := hko.2.2.2.2.1; have rf := hko.2.2.2.2.2; clear hko) | (have r0 : wb.cell? ⟨wa.heap.size, 0, none⟩ = some (.int .i64 0) := (kept_new' hbb 0).1; have r1 : wb.cell? ⟨wa.heap.size, 1, none⟩ = some (.int .i64 0) := (kept_new' hbb 1).1; have r2 : wb.cell? ⟨wa.heap.size, 2, none⟩ = some (.int .i64 0) := (kept_new' hbb 2).1; have r3 : wb.cell? ⟨wa.heap.size, 3, none⟩ = some (.int .i64 0) := (kept_new' hbb 3).1; have r4 : wb.cell? ⟨wa.heap.size, 4, none⟩ = some (.int .i64 0) := (kept_new' hbb 4).1; have rf : ∀ j, wb.frozen? ⟨wa.heap.size, j, none⟩ = false := (fun j => (kept_new' hbb j).2)) | skip)))
            all_goals
              go_wp2_with fail
              go_meet
              case rel =>
                refine ⟨rfl, ?_⟩
                show Below w3.heap.size w3 _
                first | (with_reducible exact HB04.out.trans ((below_five (Nat.le_refl _) HBr.out).mono HB04.out.size)) | (with_reducible exact HB04.out.trans ((below_five hwz HBr.out).mono HB04.out.size)) | (with_reducible exact HB04.out.trans ((HBr.out.alloc HBr.out.size _).mono HB04.out.size))
          case rest =>
            obtain ⟨rfl, hBc⟩ := hcut
            cases hfk : fitsB l k with
            | false =>
              go_wp2_with fail
              go_roundw
              case rel => exact ⟨k + 1, by omega, by go_num, by rw [HF1.out, hfk]; rfl, hBc⟩
              case measure => simp [intOf]; omega
            | true =>
              go_wp2_with fail
              go_roundw
              case rel => exact ⟨k + 1, by omega, by go_num, by rw [HF1.out, hfk]; rfl, hBc⟩
              case measure => simp [intOf]; omega
      · obtain rfl : k = l.length := by omega
        rcases HR.out with ⟨hf, rfl, rfl, rfl, rfl⟩ | ⟨hf, rfl, rfl, hTF, rfl⟩
        · rw [hf]
          obtain ⟨c0, c1, c2⟩ := HCX.out _ HB.out
          have HSM : Hid (∀ W, Calls Try.prog 9 #[.agg #[.slice KA 0 kc, .int .i64 0, .slice B 0 d], .agg #[.slice none 0 0, .int .i64 0, .slice none 0 0]] W fun e w' => e = .returned (.bool true) ∧ Below W.heap.size W w') := Lib.hid fun W => same_any [] 0 [] KA none B none kc 0 d 0 W Seg.nil Seg.nil Seg.nil Seg.nil (by simp) (by simp)
          simp only [List.length_nil] at c0 c1 c2
          go_wp2_with (first | (go_at_call 7; refine (HAW.out _).mono ?_; rintro e w5 ⟨rfl, hb5⟩; have HB5 : Hid (Below w3.heap.size w3 w5) := Lib.hid (HB.out.trans (hb5.mono hsz)); obtain ⟨d0, d1, d2⟩ := HCX.out _ HB5.out; simp only [List.length_nil] at d0 d1 d2; clear hb5) | (go_at_call 9; refine (HSM.out _).mono ?_; rintro e w6 ⟨rfl, hb6⟩; have HB6 : Hid (Below w3.heap.size w3 w6) := Lib.hid (HB5.out.trans (hb6.mono HB5.out.size)); clear hb6))
          go_ret
          exact ⟨rfl, HWX.out _ HB6.out⟩
        · rw [hf]
          have HTF := Lib.hid hTF
          have HOKQ := Lib.hid (fits_all.1 hf)
          obtain ⟨c0, c1, c2⟩ := HCX.out _ HB.out
          have HMN : Hid (∀ W j, Below w3.heap.size w3 W → Calls Try.prog 13 #[.slice A l.length c, .int .i64 j] W fun e w' => e = .returned (.int .i64 (manyE l j)) ∧ W = w') := Lib.hid fun W j hW => many_any l A c j W (HEX.out W hW) (by omega)
          have h20 : (((kindsL l).length : Int) != 20) = false := by rw [kindsL_len]; rfl
          have h8 : (manyE l 8 != manyE l 8) = false := by simp
          clear hTF hf HR htl
          go_wp2_with fail
          have hcz : w2.heap.size < wr.heap.size := World.block_lt_of_cell? _ _ c0
          have HMR : Hid (∀ W j, Below wr.heap.size wr W → Calls Try.prog 13 #[.slice A l.length c, .int .i64 j] W fun e w' => e = .returned (.int .i64 (manyE l j)) ∧ W = w') := Lib.hid fun W j hW => HMN.out W j (HB.out.trans (hW.mono hsz))
          have hbel := fun (n : Bel wr.heap.size wr) (b o : Nat) (hb : b < wr.heap.size) => n.cells b o hb
          refine wp_region_bel wr.heap.size (by kernel_rfl) (by kernel_rfl) ?_
          repeat (go_big_quiet_step (first | (go_at_call 13; (with_reducible exact Calls.bel_of_same (HMR.out _ _ (Bel.h _))))))
          refine wpQuiet_nil ?_
          intro _ hw'
          obtain ⟨nq, hw''⟩ := hw'
          subst hw''
          have HN : Hid (Below w3.heap.size w3 nq.wd) := Lib.hid (HB.out.trans (nq.h.mono HB.out.size))
          clear hbel
          generalize nq.wd = w5 at *
          clear c0 c1 c2 hcz HMR HB hsz
          go_wp2_with fail
          go_loopw [13] (fun i wr => ∃ k : Nat, k ≤ 20 ∧ i = .int .i64 k ∧ Hid (Below w3.heap.size w3 wr)) (fun i _ => 20 - (intOf i).toNat)
          case atStart => exact ⟨0, by omega, rfl, HN⟩
          case round =>
            clear HN
            obtain ⟨k, hk, rfl, HB⟩ := hrel
            have hsz := HB.out.size
            obtain ⟨c0, c1, c2⟩ := HCX.out _ HB.out
            by_cases hlt : k < 20
            · obtain ⟨bk, ok, rfl, hbk, ek⟩ := seg_int (HKX.out _ HB.out) (k := k) (by rw [kindsL_len]; exact hlt)
              have hkv : (kindsL l)[k]'(by rw [kindsL_len]; exact hlt) = manyE l (k : Int) := by simp [kindsL]
              rw [hkv] at ek
              have hmm : (manyE l (k : Int) != manyE l (k : Int)) = false := by simp
              have hk0 : (0 : Int) ≤ (k : Int) := by omega
              have hkb : (k : Int) < ((kindsL l).length : Int) := by rw [kindsL_len]; omega
              have hk20 : (k : Int) < 20 := by omega
              have hcz : w2.heap.size < wr.heap.size := World.block_lt_of_cell? _ _ c0
              have HMR : Hid (∀ W j, Below wr.heap.size wr W → Calls Try.prog 13 #[.slice A l.length c, .int .i64 j] W fun e w' => e = .returned (.int .i64 (manyE l j)) ∧ W = w') := Lib.hid fun W j hW => HMN.out W j (HB.out.trans (hW.mono hsz))
              clear hkv
              go_wp2_with fail
              have hbel := fun (n : Bel wr.heap.size wr) (b o : Nat) (hb : b < wr.heap.size) => n.cells b o hb
              refine wp_region_bel wr.heap.size (by kernel_rfl) (by kernel_rfl) ?_
              repeat (go_big_quiet_step (first | (go_at_call 13; (with_reducible exact Calls.bel_of_same (HMR.out _ _ (Bel.h _))))))
              refine wpQuiet_nil ?_
              intro _ hw'
              obtain ⟨nq, hw''⟩ := hw'
              subst hw''
              have HN : Hid (Below w3.heap.size w3 nq.wd) := Lib.hid (HB.out.trans (nq.h.mono HB.out.size))
              clear hbel
              go_wp2_with fail
              go_roundw
              case rel => exact ⟨k + 1, by omega, by go_num, HN⟩
              case measure => simp [intOf]; omega
            · have hk20 : decide ((k : Int) < 20) = false := decide_eq_false (by omega)
              go_wp2_with fail
              have HB20 := HB
              clear HB c0 c1 c2 hsz hk h20 h8 HMN hlt hk20
              go_loopw [14, 15, 16] (fun i _ _ wr => ∃ k : Nat, k ≤ l.length ∧ i = .int .i64 k ∧ Hid (Below w3.heap.size w3 wr)) (fun i _ _ _ => l.length - (intOf i).toNat)
              case atStart => exact ⟨0, by omega, rfl, HB20⟩
              case round =>
                clear HB20
                obtain ⟨k, hk, rfl, HB⟩ := hrel
                have hsz := HB.out.size
                by_cases hlt : k < l.length
                · obtain ⟨b, o', rfl, hb, e0, e1, e2, e3, e4⟩ := ev_at (HEX.out _ HB.out) hlt
                  obtain ⟨x, hx⟩ : ∃ x, x = l[k] := ⟨_, rfl⟩
                  rw [← hx] at e0 e1 e2 e3 e4
                  clear hx
                  obtain ⟨xk, xm, xa, xn, xo⟩ := x
                  simp only at e0 e1 e2 e3 e4
                  have HCN := Lib.hid (counts_any ⟨xk, xm, xa, xn, xo⟩ wr)
                  have hk0 : (0 : Int) ≤ (k : Int) := by omega
                  have hkb : (k : Int) < (l.length : Int) := by omega
                  unfold Ev.val at HCN
                  simp only at HCN
                  cases hc : (plJ xk).isSome with
                  | false =>
                    rw [hc] at HCN
                    clear hc
                    go_wp2_with (go_at_call 10; refine HCN.out.mono ?_; rintro e w4 ⟨rfl, hb4⟩; have HB4 := Lib.hid hb4; clear hb4)
                    go_roundw
                    case rel => exact ⟨k + 1, by omega, by go_num, HB.out.trans (HB4.out.mono hsz)⟩
                    case measure => simp [intOf]; omega
                  | true =>
                    rw [hc] at HCN
                    clear hc
                    go_upto_region 28 with (go_at_call 10; refine HCN.out.mono ?_; rintro e w4 ⟨rfl, hb4⟩; have HB4 := Lib.hid hb4; have f0 := (hb4.cell (p := ⟨b, o' + k * 5, none⟩) hb).trans e0; have f1 := (hb4.cell (p := ⟨b, o' + k * 5 + 1, none⟩) hb).trans e1; have f2 := (hb4.cell (p := ⟨b, o' + k * 5 + 2, none⟩) hb).trans e2; have f3 := (hb4.cell (p := ⟨b, o' + k * 5 + 3, none⟩) hb).trans e3; have f4 := (hb4.cell (p := ⟨b, o' + k * 5 + 4, none⟩) hb).trans e4; have hb4z := Nat.lt_of_lt_of_le hb hb4.size; clear hb4)
                    have HB04 : Hid (Below w3.heap.size w3 w4) := Lib.hid (HB.out.trans (HB4.out.mono hsz))
                    clear HB4 e0 e1 e2 e3 e4
                    go_cut [15, 16] from 125 to 139 (fun p _ W => ∃ g, p = .pointer (some ⟨g, 0, none⟩) ∧ Hid (Below w3.heap.size w3 W) ∧ Hid (Below w4.heap.size w4 W) ∧ Hid (∀ j, j < 5 → W.cell? ⟨g, j, none⟩ = some (.int .i64 (gE l (sideE ⟨xk, xm, xa, xn, xo⟩) j))))
                    case first =>
                      have HAS : Hid (∀ W, Calls Try.prog 12 #[.agg #[.int .i64 xk, .int .i64 xm, .int .i64 xa, .int .i64 xn, .int .i64 xo]] W fun e w' => e = .returned (.int .i64 (sideE ⟨xk, xm, xa, xn, xo⟩).2) ∧ Below W.heap.size W w') := Lib.hid fun W => asset_any ⟨xk, xm, xa, xn, xo⟩ W
                      have HSX : Hid (∀ W, Below w4.heap.size w4 W → W.cell? ⟨b, o' + k * 5, none⟩ = some (.int .i64 xk) ∧ W.cell? ⟨b, o' + k * 5 + 1, none⟩ = some (.int .i64 xm) ∧ W.cell? ⟨b, o' + k * 5 + 2, none⟩ = some (.int .i64 xa) ∧ W.cell? ⟨b, o' + k * 5 + 3, none⟩ = some (.int .i64 xn) ∧ W.cell? ⟨b, o' + k * 5 + 4, none⟩ = some (.int .i64 xo)) := Lib.hid fun W hW => ⟨(hW.cell (p := ⟨b, o' + k * 5, none⟩) hb4z).trans f0, (hW.cell (p := ⟨b, o' + k * 5 + 1, none⟩) hb4z).trans f1, (hW.cell (p := ⟨b, o' + k * 5 + 2, none⟩) hb4z).trans f2, (hW.cell (p := ⟨b, o' + k * 5 + 3, none⟩) hb4z).trans f3, (hW.cell (p := ⟨b, o' + k * 5 + 4, none⟩) hb4z).trans f4⟩
                      have HRX : Hid (∀ W, Below w4.heap.size w4 W → Calls Try.prog 11 #[.slice (some ⟨b, o', none⟩) l.length c, .int .i64 xm, .int .i64 (sideE ⟨xk, xm, xa, xn, xo⟩).2] W fun e w' => e = .returned (.tuple #[.agg #[.int .i64 (gE l (sideE ⟨xk, xm, xa, xn, xo⟩) 0), .int .i64 (gE l (sideE ⟨xk, xm, xa, xn, xo⟩) 1), .int .i64 (gE l (sideE ⟨xk, xm, xa, xn, xo⟩) 2), .int .i64 (gE l (sideE ⟨xk, xm, xa, xn, xo⟩) 3), .int .i64 (gE l (sideE ⟨xk, xm, xa, xn, xo⟩) 4)], .bool true]) ∧ Below W.heap.size W w') := Lib.hid fun W hW => (HRW.out W xm (sideE ⟨xk, xm, xa, xn, xo⟩).2 (HB04.out.trans (hW.mono HB04.out.size))).mono fun e w' ⟨ff, h1, h2, h3⟩ => by
                        have hok : okR (gE l (xm, (sideE ⟨xk, xm, xa, xn, xo⟩).2)) = true := HOKQ.out _
                        rw [hok] at h1
                        have h2 := h2 hok
                        refine ⟨?_, h3⟩
                        rw [h1]
                        unfold rowV
                        rw [h2 0 (by omega), h2 1 (by omega), h2 2 (by omega), h2 3 (by omega), h2 4 (by omega)]
                        rfl
                      have hs0 : Below w4.heap.size w4 w4.drew := (Below.refl _ _).drew
                      have hS0 := HSX.out _ hs0
                      generalize (sideE ⟨xk, xm, xa, xn, xo⟩).2 = ya at *
                      go_region_held3 (fun w' => w'.cell? ⟨b, o' + k * 5, none⟩ = some (.int .i64 xk) ∧ w'.cell? ⟨b, o' + k * 5 + 1, none⟩ = some (.int .i64 xm) ∧ w'.cell? ⟨b, o' + k * 5 + 2, none⟩ = some (.int .i64 xa) ∧ w'.cell? ⟨b, o' + k * 5 + 3, none⟩ = some (.int .i64 xn) ∧ w'.cell? ⟨b, o' + k * 5 + 4, none⟩ = some (.int .i64 xo)) (first | (with_reducible exact HSX.out _ (Below.refl _ _).drew) | (with_reducible exact HSX.out _ ((Below.refl _ _).drew.alloc (Nat.le_refl _) _)) | (with_reducible exact HSX.out _ ((Below.refl _ _).alloc (Nat.le_refl _) _).drew) | (with_reducible exact HSX.out _ HBr.out) | (with_reducible exact HSX.out _ (HBr.out.alloc HBr.out.size _)) | (with_reducible exact HSX.out _ (below_five (Nat.le_refl _) HBr.out)) | (with_reducible exact HSX.out _ (below_five hwz HBr.out)) | (with_reducible exact HSX.out _ HBa.out) | (with_reducible exact HSX.out _ (HBa.out.alloc HBa.out.size _))) (first | (go_at_call 12; refine (HAS.out _).mono ?_; rintro e wa ⟨rfl, hba⟩; have HBa : Hid (Below w4.heap.size w4 wa) := Lib.hid (by (first | (with_reducible exact drew_trans hba) | (with_reducible exact drew_alloc_trans hba) | (with_reducible exact alloc_drew_trans hba))); (first | (have p0 : wa.cell? ⟨w4.heap.size, 0, none⟩ = some (.int .i64 0) := (kept_new hba 0).1; have p1 : wa.cell? ⟨w4.heap.size, 1, none⟩ = some (.int .i64 0) := (kept_new hba 1).1; have p2 : wa.cell? ⟨w4.heap.size, 2, none⟩ = some (.int .i64 0) := (kept_new hba 2).1; have p3 : wa.cell? ⟨w4.heap.size, 3, none⟩ = some (.int .i64 0) := (kept_new hba 3).1; have p4 : wa.cell? ⟨w4.heap.size, 4, none⟩ = some (.int .i64 0) := (kept_new hba 4).1; have pf : ∀ j, wa.frozen? ⟨w4.heap.size, j, none⟩ = false := (fun j => (kept_new hba j).2)) | skip); have HBb := Lib.hid hba; clear hba) | (go_at_call 11; refine (HRX.out _ (by (first | (with_reducible exact HBa.out) | (with_reducible exact HBa.out.alloc HBa.out.size _)))).mono ?_; rintro e wb ⟨rfl, hbb⟩; have HBr : Hid (Below w4.heap.size w4 wb) := Lib.hid (by (first | (with_reducible exact below_trans2 HBa.out hbb) | (with_reducible exact below_alloc_trans HBa.out hbb))); have hwz : w4.heap.size ≤ wa.heap.size := HBa.out.size; (first | (have hko := kept_old hbb p0 p1 p2 p3 p4 pf; have r0 := hko.1; have r1 := hko.2.1; have r2 := hko.2.2.1; have r3 := hko.2.2.2.1; have r4 := hko.2.2.2.2.1; have rf := hko.2.2.2.2.2; clear hko) | (have r0 : wb.cell? ⟨wa.heap.size, 0, none⟩ = some (.int .i64 0) := (kept_new' hbb 0).1; have r1 : wb.cell? ⟨wa.heap.size, 1, none⟩ = some (.int .i64 0) := (kept_new' hbb 1).1; have r2 : wb.cell? ⟨wa.heap.size, 2, none⟩ = some (.int .i64 0) := (kept_new' hbb 2).1; have r3 : wb.cell? ⟨wa.heap.size, 3, none⟩ = some (.int .i64 0) := (kept_new' hbb 3).1; have r4 : wb.cell? ⟨wa.heap.size, 4, none⟩ = some (.int .i64 0) := (kept_new' hbb 4).1; have rf : ∀ j, wb.frozen? ⟨wa.heap.size, j, none⟩ = false := (fun j => (kept_new' hbb j).2)) | skip)))
                      all_goals
                        go_wp2_with fail
                        go_meet
                        case rel =>
                          refine ⟨_, rfl, ?_, ?_, ?_⟩
                          · show Below w3.heap.size w3 _
                            first | (with_reducible exact HB04.out.trans ((below_five (Nat.le_refl _) HBr.out).mono HB04.out.size)) | (with_reducible exact HB04.out.trans ((below_five hwz HBr.out).mono HB04.out.size)) | (with_reducible exact HB04.out.trans ((HBr.out.alloc HBr.out.size _).mono HB04.out.size))
                          · show Below w4.heap.size w4 _
                            first | (with_reducible exact below_five (Nat.le_refl _) HBr.out) | (with_reducible exact below_five hwz HBr.out) | (with_reducible exact HBr.out.alloc HBr.out.size _)
                          · show ∀ j, j < 5 → _
                            first | (with_reducible exact five_put r0 r1 r2 r3 r4) | (with_reducible exact five_new _ _)
                    case rest =>
                      obtain ⟨g, rfl, hBc, hB4, hcell⟩ := hcut
                      have HBc := Lib.hid hBc.out
                      have k0 := hcell.out 0 (by omega)
                      have k1 := hcell.out 1 (by omega)
                      have k2 := hcell.out 2 (by omega)
                      have k3 := hcell.out 3 (by omega)
                      have k4 := hcell.out 4 (by omega)
                      have f0 := (hB4.out.cell (p := ⟨b, o' + k * 5, none⟩) hb4z).trans f0
                      have f1 := (hB4.out.cell (p := ⟨b, o' + k * 5 + 1, none⟩) hb4z).trans f1
                      have f2 := (hB4.out.cell (p := ⟨b, o' + k * 5 + 2, none⟩) hb4z).trans f2
                      have f3 := (hB4.out.cell (p := ⟨b, o' + k * 5 + 3, none⟩) hb4z).trans f3
                      have f4 := (hB4.out.cell (p := ⟨b, o' + k * 5 + 4, none⟩) hb4z).trans f4
                      have hbz := Nat.lt_of_lt_of_le hb4z hB4.out.size
                      obtain ⟨c0, c1, c2⟩ := HCX.out _ HBc.out
                      clear hBc hB4 hcell
                      have hcz : w2.heap.size < wc.heap.size := World.block_lt_of_cell? _ _ c0
                      have hgz : g < wc.heap.size := World.block_lt_of_cell? _ _ k0
                      have HAS : Hid (∀ W, Below wc.heap.size wc W → Calls Try.prog 12 #[.agg #[.int .i64 xk, .int .i64 xm, .int .i64 xa, .int .i64 xn, .int .i64 xo]] W fun e w' => e = .returned (.int .i64 (sideE ⟨xk, xm, xa, xn, xo⟩).2) ∧ Below W.heap.size W w') := Lib.hid fun W _ => asset_any ⟨xk, xm, xa, xn, xo⟩ W
                      have HFD : Hid (∀ W, Below wc.heap.size wc W → Calls Try.prog 15 #[.agg #[.slice KA (kindsL l).length kc, .int .i64 (manyE l 8), .slice B T.length d], .int .i64 xm, .int .i64 (sideE ⟨xk, xm, xa, xn, xo⟩).2] W fun e w' => e = .returned (.agg #[.int .i64 xm, .int .i64 (sideE ⟨xk, xm, xa, xn, xo⟩).2, .int .i64 (gE l (sideE ⟨xk, xm, xa, xn, xo⟩) 0), .int .i64 (gE l (sideE ⟨xk, xm, xa, xn, xo⟩) 1), .int .i64 (gE l (sideE ⟨xk, xm, xa, xn, xo⟩) 2), .int .i64 (gE l (sideE ⟨xk, xm, xa, xn, xo⟩) 3), .int .i64 (gE l (sideE ⟨xk, xm, xa, xn, xo⟩) 4)]) ∧ Below W.heap.size W w') := Lib.hid fun W hW => by
                        have h := find_any KA (kindsL l).length kc (manyE l 8) T B d xm (sideE ⟨xk, xm, xa, xn, xo⟩).2 W (HTX.out W (HBc.out.trans (hW.mono HBc.out.size))) (by have := talF_len HTF.out; omega)
                        rw [fndT_sums HTF.out] at h
                        exact h
                      have HRV : Hid (∀ W, Below wc.heap.size wc W → Calls Try.prog 14 #[.agg #[.int .i64 xm, .int .i64 (sideE ⟨xk, xm, xa, xn, xo⟩).2, .int .i64 (gE l (sideE ⟨xk, xm, xa, xn, xo⟩) 0), .int .i64 (gE l (sideE ⟨xk, xm, xa, xn, xo⟩) 1), .int .i64 (gE l (sideE ⟨xk, xm, xa, xn, xo⟩) 2), .int .i64 (gE l (sideE ⟨xk, xm, xa, xn, xo⟩) 3), .int .i64 (gE l (sideE ⟨xk, xm, xa, xn, xo⟩) 4)]] W fun e w' => e = .returned (.agg #[.int .i64 (gE l (sideE ⟨xk, xm, xa, xn, xo⟩) 0), .int .i64 (gE l (sideE ⟨xk, xm, xa, xn, xo⟩) 1), .int .i64 (gE l (sideE ⟨xk, xm, xa, xn, xo⟩) 2), .int .i64 (gE l (sideE ⟨xk, xm, xa, xn, xo⟩) 3), .int .i64 (gE l (sideE ⟨xk, xm, xa, xn, xo⟩) 4)]) ∧ Below W.heap.size W w') := Lib.hid fun W _ => row_any (tlOf (sideE ⟨xk, xm, xa, xn, xo⟩) (gE l (sideE ⟨xk, xm, xa, xn, xo⟩))) W
                      have hee := fun W => eq5_run (gE l (sideE ⟨xk, xm, xa, xn, xo⟩) 0) (gE l (sideE ⟨xk, xm, xa, xn, xo⟩) 1) (gE l (sideE ⟨xk, xm, xa, xn, xo⟩) 2) (gE l (sideE ⟨xk, xm, xa, xn, xo⟩) 3) (gE l (sideE ⟨xk, xm, xa, xn, xo⟩) 4) (gE l (sideE ⟨xk, xm, xa, xn, xo⟩) 0) (gE l (sideE ⟨xk, xm, xa, xn, xo⟩) 1) (gE l (sideE ⟨xk, xm, xa, xn, xo⟩) 2) (gE l (sideE ⟨xk, xm, xa, xn, xo⟩) 3) (gE l (sideE ⟨xk, xm, xa, xn, xo⟩) 4) W
                      simp only [beq_self_eq_true, Bool.and_self] at hee
                      generalize gE l (sideE ⟨xk, xm, xa, xn, xo⟩) 0 = g0 at *
                      generalize gE l (sideE ⟨xk, xm, xa, xn, xo⟩) 1 = g1 at *
                      generalize gE l (sideE ⟨xk, xm, xa, xn, xo⟩) 2 = g2 at *
                      generalize gE l (sideE ⟨xk, xm, xa, xn, xo⟩) 3 = g3 at *
                      generalize gE l (sideE ⟨xk, xm, xa, xn, xo⟩) 4 = g4 at *
                      generalize (sideE ⟨xk, xm, xa, xn, xo⟩).2 = ya at *
                      clear hlt
                      go_wp2_with fail
                      have hbel := fun (n : Bel wc.heap.size wc) (b o : Nat) (hb : b < wc.heap.size) => n.cells b o hb
                      refine wp_region_bel wc.heap.size (by kernel_rfl) (by kernel_rfl) ?_
                      repeat (go_big_quiet_step (first | (go_at_call 12; (with_reducible exact Calls.bel_of (Nat.le_refl _) (HAS.out _ (Bel.h _)))) | (go_at_call 15; (with_reducible exact Calls.bel_of (Nat.le_refl _) (HFD.out _ (Bel.h _)))) | (go_at_call 14; (with_reducible exact Calls.bel_of (Nat.le_refl _) (HRV.out _ (Bel.h _))))))
                      refine wpQuiet_nil ?_
                      intro _ hw'
                      obtain ⟨nq, hw''⟩ := hw'
                      subst hw''
                      have HN : Hid (Below w3.heap.size w3 nq.wd) := Lib.hid (HBc.out.trans (nq.h.mono HBc.out.size))
                      clear hbel
                      go_wp2_with fail
                      go_roundw
                      case rel => exact ⟨k + 1, by omega, by go_num, HN⟩
                      case measure => simp [intOf]; omega
                · obtain rfl : k = l.length := by omega
                  go_wp2_with fail
                  have HB30 := HB
                  clear HB hsz hk hlt
                  go_loopw [17, 18, 19, 20] (fun i _ _ _ wr => ∃ k : Nat, k ≤ T.length ∧ i = .int .i64 k ∧ Hid (Below w3.heap.size w3 wr)) (fun i _ _ _ _ => T.length - (intOf i).toNat)
                  case atStart => exact ⟨0, by omega, rfl, HB30⟩
                  case round =>
                    clear HB30
                    obtain ⟨k, hk, rfl, HB⟩ := hrel
                    have hsz := HB.out.size
                    obtain ⟨c0, c1, c2⟩ := HCX.out _ HB.out
                    by_cases hlt : k < T.length
                    · obtain ⟨b, o', rfl, hb, e0, e1, e2, e3, e4, e5, e6⟩ := tl_at (HTX.out _ HB.out) hlt
                      have hmem := List.getElem_mem hlt
                      have hval := HTF.out.val _ hmem
                      have hnz := HTF.out.nz _ hmem
                      have HPV : Hid (∀ m, (hm : m + 1 = k) → ∃ p1 p2, wr.cell? ⟨b, o' + m * 7, none⟩ = some (.int .i64 p1) ∧ wr.cell? ⟨b, o' + m * 7 + 1, none⟩ = some (.int .i64 p2) ∧ sideLt (p1, p2) T[k].q) := Lib.hid fun m hm => by
                        obtain ⟨b2, o2, hB, _, d0, d1, _⟩ := tl_at (HTX.out _ HB.out) (k := m) (by omega)
                        injection hB with hB
                        injection hB with h1 h2
                        subst h1 h2
                        refine ⟨_, _, d0, d1, ?_⟩
                        exact (List.pairwise_iff_getElem.1 HTF.out.srt) m k (by omega) hlt (by omega)
                      obtain ⟨tt, htt⟩ : ∃ tt, tt = T[k] := ⟨_, rfl⟩
                      rw [← htt] at e0 e1 e2 e3 e4 e5 e6 hval hnz HPV
                      clear htt hmem
                      have hz := hb
                      obtain ⟨⟨q1, q2⟩, a0, a1, a2, a3, a4⟩ := tt
                      simp only at e0 e1 e2 e3 e4 e5 e6 hval HPV
                      have hg : a0 = gE l (q1, q2) 0 ∧ a1 = gE l (q1, q2) 1 ∧ a2 = gE l (q1, q2) 2 ∧ a3 = gE l (q1, q2) 3 ∧ a4 = gE l (q1, q2) 4 := by
                        unfold tlOf at hval
                        injection hval with _ h0 h1 h2 h3 h4
                        exact ⟨h0, h1, h2, h3, h4⟩
                      have HRV : Hid (∀ W, Calls Try.prog 14 #[.agg #[.int .i64 q1, .int .i64 q2, .int .i64 a0, .int .i64 a1, .int .i64 a2, .int .i64 a3, .int .i64 a4]] W fun e w' => e = .returned (.agg #[.int .i64 a0, .int .i64 a1, .int .i64 a2, .int .i64 a3, .int .i64 a4]) ∧ Below W.heap.size W w') := Lib.hid fun W => row_any ⟨(q1, q2), a0, a1, a2, a3, a4⟩ W
                      have HRX : Hid (∀ W, Below w3.heap.size w3 W → Calls Try.prog 11 #[.slice A l.length c, .int .i64 q1, .int .i64 q2] W fun e w' => e = .returned (.tuple #[.agg #[.int .i64 a0, .int .i64 a1, .int .i64 a2, .int .i64 a3, .int .i64 a4], .bool true]) ∧ Below W.heap.size W w') := Lib.hid fun W hW => (HRW.out W q1 q2 hW).mono fun e w' ⟨ff, h1, h2, h3⟩ => by
                        have hok := HOKQ.out (q1, q2)
                        rw [hok] at h1
                        have h2 := h2 hok
                        refine ⟨?_, h3⟩
                        rw [h1]
                        unfold rowV
                        rw [h2 0 (by omega), h2 1 (by omega), h2 2 (by omega), h2 3 (by omega), h2 4 (by omega), ← hg.1, ← hg.2.1, ← hg.2.2.1, ← hg.2.2.2.1, ← hg.2.2.2.2]
                      have hee := fun W => eq5_run a0 a1 a2 a3 a4 a0 a1 a2 a3 a4 W
                      simp only [beq_self_eq_true, Bool.and_self] at hee
                      have hez := fun W => eq5_run a0 a1 a2 a3 a4 0 0 0 0 0 W
                      have hzz : (a0 == 0 && (a1 == 0 && (a2 == 0 && (a3 == 0 && a4 == 0)))) = false := by
                        unfold tlNone at hnz
                        simp only [Bool.and_assoc] at hnz
                        exact hnz
                      rw [hzz] at hez
                      clear hzz hnz hval hg
                      have hk0 : (0 : Int) ≤ (k : Int) := by omega
                      have hkb : (k : Int) < (T.length : Int) := by omega
                      have HT1 := Lib.hid fun j => cell_new wr #[.int .i64 q1, .int .i64 q2, .int .i64 a0, .int .i64 a1, .int .i64 a2, .int .i64 a3, .int .i64 a4] 42 (b := wr.heap.size) j rfl
                      have hz1 : wr.heap.size < (wr.alloc (.cells #[.int .i64 q1, .int .i64 q2, .int .i64 a0, .int .i64 a1, .int .i64 a2, .int .i64 a3, .int .i64 a4] 42)).heap.size := by simp
                      have HB1 : Hid (Below w3.heap.size w3 (wr.alloc (.cells #[.int .i64 q1, .int .i64 q2, .int .i64 a0, .int .i64 a1, .int .i64 a2, .int .i64 a3, .int .i64 a4] 42))) := Lib.hid (HB.out.alloc hsz _)
                      have HBw1 : Hid (Below wr.heap.size wr (wr.alloc (.cells #[.int .i64 q1, .int .i64 q2, .int .i64 a0, .int .i64 a1, .int .i64 a2, .int .i64 a3, .int .i64 a4] 42))) := Lib.hid ((Below.refl _ _).alloc (Nat.le_refl _) _)
                      go_wp2_with fail
                      generalize (wr.alloc (.cells #[.int .i64 q1, .int .i64 q2, .int .i64 a0, .int .i64 a1, .int .i64 a2, .int .i64 a3, .int .i64 a4] 42)) = w4' at *
                      have HTW : Hid (∀ W, Below w4'.heap.size w4' W → W.cell? ⟨wr.heap.size, 0, none⟩ = some (.int .i64 q1) ∧ W.cell? ⟨wr.heap.size, 1, none⟩ = some (.int .i64 q2) ∧ W.cell? ⟨wr.heap.size, 2, none⟩ = some (.int .i64 a0) ∧ W.cell? ⟨wr.heap.size, 3, none⟩ = some (.int .i64 a1) ∧ W.cell? ⟨wr.heap.size, 4, none⟩ = some (.int .i64 a2) ∧ W.cell? ⟨wr.heap.size, 5, none⟩ = some (.int .i64 a3) ∧ W.cell? ⟨wr.heap.size, 6, none⟩ = some (.int .i64 a4)) := Lib.hid fun W hW => ⟨(hW.cell (p := ⟨wr.heap.size, 0, none⟩) hz1).trans (HT1.out 0), (hW.cell (p := ⟨wr.heap.size, 1, none⟩) hz1).trans (HT1.out 1), (hW.cell (p := ⟨wr.heap.size, 2, none⟩) hz1).trans (HT1.out 2), (hW.cell (p := ⟨wr.heap.size, 3, none⟩) hz1).trans (HT1.out 3), (hW.cell (p := ⟨wr.heap.size, 4, none⟩) hz1).trans (HT1.out 4), (hW.cell (p := ⟨wr.heap.size, 5, none⟩) hz1).trans (HT1.out 5), (hW.cell (p := ⟨wr.heap.size, 6, none⟩) hz1).trans (HT1.out 6)⟩
                      clear HT1
                      refine (HRX.out w4' HB1.out).mono ?_
                      rintro e w5' ⟨rfl, hb5⟩
                      have HB5 : Hid (Below w4'.heap.size w4' w5') := Lib.hid hb5
                      clear hb5
                      have HFC := Lib.hid fun j => cell_new w5' #[.int .i64 a0, .int .i64 a1, .int .i64 a2, .int .i64 a3, .int .i64 a4] 35 (b := w5'.heap.size) j rfl
                      have hz6 : w5'.heap.size < (w5'.alloc (.cells #[.int .i64 a0, .int .i64 a1, .int .i64 a2, .int .i64 a3, .int .i64 a4] 35)).heap.size := by simp
                      have HB56 : Hid (Below w4'.heap.size w4' (w5'.alloc (.cells #[.int .i64 a0, .int .i64 a1, .int .i64 a2, .int .i64 a3, .int .i64 a4] 35))) := Lib.hid (HB5.out.alloc HB5.out.size _)
                      go_wp2_with fail
                      generalize (w5'.alloc (.cells #[.int .i64 a0, .int .i64 a1, .int .i64 a2, .int .i64 a3, .int .i64 a4] 35)) = w6 at *
                      obtain ⟨t0, t1, t2, t3, t4, t5, t6⟩ := HTW.out w6 HB56.out
                      have HB6 : Hid (Below w3.heap.size w3 w6) := Lib.hid (HB1.out.trans (HB56.out.mono HB1.out.size))
                      have k0 : w6.cell? ⟨w5'.heap.size, 0, none⟩ = some (.int .i64 a0) := HFC.out 0
                      have k1 : w6.cell? ⟨w5'.heap.size, 1, none⟩ = some (.int .i64 a1) := HFC.out 1
                      have k2 : w6.cell? ⟨w5'.heap.size, 2, none⟩ = some (.int .i64 a2) := HFC.out 2
                      have k3 : w6.cell? ⟨w5'.heap.size, 3, none⟩ = some (.int .i64 a3) := HFC.out 3
                      have k4 : w6.cell? ⟨w5'.heap.size, 4, none⟩ = some (.int .i64 a4) := HFC.out 4
                      have hzw : wr.heap.size < w6.heap.size := Nat.lt_of_lt_of_le hz1 HB56.out.size
                      obtain ⟨x0, x1, x2⟩ := HCX.out w6 HB6.out
                      have hcz : w2.heap.size < w6.heap.size := World.block_lt_of_cell? _ _ x0
                      have HB46 : Hid (Below wr.heap.size wr w6) := Lib.hid (HBw1.out.trans (HB56.out.mono HBw1.out.size))
                      have hbz : b < w6.heap.size := Nat.lt_of_lt_of_le hz HB46.out.size
                      clear HFC HTW c0 c1 c2 e0 e1 e2 e3 e4 e5 e6 HB1 HB5 HB56 HBw1 HRX
                      have HRV : Hid (∀ W, Below w6.heap.size w6 W → Calls Try.prog 14 #[.agg #[.int .i64 q1, .int .i64 q2, .int .i64 a0, .int .i64 a1, .int .i64 a2, .int .i64 a3, .int .i64 a4]] W fun e w' => e = .returned (.agg #[.int .i64 a0, .int .i64 a1, .int .i64 a2, .int .i64 a3, .int .i64 a4]) ∧ Below W.heap.size W w') := Lib.hid fun W _ => HRV.out W
                      have htl : T.length ≤ 1024 := by have := talF_len HTF.out; omega
                      by_cases hkz : k = 0
                      · have hgt : decide ((0 : Int) < (k : Int)) = false := decide_eq_false (by omega)
                        have hgn : decide (0 < k) = false := decide_eq_false (by omega)
                        have HKZ := Lib.hid hkz
                        clear hkz
                        have hbel := fun (n : Bel w6.heap.size w6) (b o : Nat) (hb : b < w6.heap.size) => n.cells b o hb
                        refine wp_region_bel w6.heap.size (by kernel_rfl) (by kernel_rfl) ?_
                        repeat (go_big_quiet_step ((go_at_call 14; (with_reducible exact Calls.bel_of (Nat.le_refl _) (HRV.out _ (Bel.h _))))))
                        refine wpQuiet_nil ?_
                        intro _ hw'
                        obtain ⟨nq, hw''⟩ := hw'
                        subst hw''
                        have HN : Hid (Below w3.heap.size w3 nq.wd) := Lib.hid (HB6.out.trans (nq.h.mono HB6.out.size))
                        clear hbel
                        go_wp2_with fail
                        go_roundw
                        case rel => have hkz := HKZ.out; exact ⟨k + 1, by omega, by (first | go_num | (rw [hkz]; rfl)), HN⟩
                        case measure => have hkz := HKZ.out; simp [intOf]; omega
                      · have hgt : decide ((0 : Int) < (k : Int)) = true := decide_eq_true (by omega)
                        have hgn : decide (0 < k) = true := decide_eq_true (by omega)
                        obtain ⟨m, hm⟩ : ∃ m, m + 1 = k := ⟨k - 1, by omega⟩
                        obtain ⟨p1, p2, d0, d1, hlt'⟩ := HPV.out m hm
                        have d0 := (HB46.out.cell (p := ⟨b, o' + m * 7, none⟩) hz).trans d0
                        have d1 := (HB46.out.cell (p := ⟨b, o' + m * 7 + 1, none⟩) hz).trans d1
                        have hwm : IntKind.i64.wrap ((k : Int) - 1) = (m : Int) := by
                          have : (k : Int) - 1 = (m : Int) := by omega
                          rw [this]
                          exact IntWalk.i64_in _ (by omega)
                        have hm0 : (0 : Int) ≤ (m : Int) := by omega
                        have hmb : (m : Int) < (T.length : Int) := by omega
                        unfold sideLt at hlt'
                        simp only at hlt'
                        have hp1 : decide (q1 < p1) = false := decide_eq_false (by omega)
                        by_cases hpq : p1 = q1
                        · have hp2 : (p1 == q1) = true := by simpa using hpq
                          have hp3 : decide (q2 ≤ p2) = false := decide_eq_false (by omega)
                          clear hkz hlt' hpq hm HPV
                          have hbel := fun (n : Bel w6.heap.size w6) (b o : Nat) (hb : b < w6.heap.size) => n.cells b o hb
                          refine wp_region_bel w6.heap.size (by kernel_rfl) (by kernel_rfl) ?_
                          repeat (go_big_quiet_step ((go_at_call 14; (with_reducible exact Calls.bel_of (Nat.le_refl _) (HRV.out _ (Bel.h _))))))
                          refine wpQuiet_nil ?_
                          intro _ hw'
                          obtain ⟨nq, hw''⟩ := hw'
                          subst hw''
                          have HN : Hid (Below w3.heap.size w3 nq.wd) := Lib.hid (HB6.out.trans (nq.h.mono HB6.out.size))
                          clear hbel
                          go_wp2_with fail
                          go_roundw
                          case rel => exact ⟨k + 1, by omega, by go_num, HN⟩
                          case measure => simp [intOf]; omega
                        · have hp2 : (p1 == q1) = false := by simpa using hpq
                          clear hkz hlt' hpq hm HPV
                          have hbel := fun (n : Bel w6.heap.size w6) (b o : Nat) (hb : b < w6.heap.size) => n.cells b o hb
                          refine wp_region_bel w6.heap.size (by kernel_rfl) (by kernel_rfl) ?_
                          repeat (go_big_quiet_step ((go_at_call 14; (with_reducible exact Calls.bel_of (Nat.le_refl _) (HRV.out _ (Bel.h _))))))
                          refine wpQuiet_nil ?_
                          intro _ hw'
                          obtain ⟨nq, hw''⟩ := hw'
                          subst hw''
                          have HN : Hid (Below w3.heap.size w3 nq.wd) := Lib.hid (HB6.out.trans (nq.h.mono HB6.out.size))
                          clear hbel
                          go_wp2_with fail
                          go_roundw
                          case rel => exact ⟨k + 1, by omega, by go_num, HN⟩
                          case measure => simp [intOf]; omega
                    · obtain rfl : k = T.length := by omega
                      go_wp2_with (go_at_call 7; refine (HAW.out _).mono ?_; rintro e w9 ⟨rfl, hb9⟩; have HB9 : Hid (Below w3.heap.size w3 w9) := Lib.hid (HB.out.trans (hb9.mono hsz)); clear hb9)
                      go_ret
                      exact ⟨rfl, HWX.out _ HB9.out⟩
end Go.Proofs.Ytgkidjjijgegmaa
