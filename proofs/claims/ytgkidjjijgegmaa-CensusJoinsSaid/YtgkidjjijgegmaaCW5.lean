/-
  What census.Of comes to, given the sort's contract: a contract for callers.
-/
import Derived.Test.YtgkidjjijgegmaaCnGrow
import Derived.Deep.QuietTactic
import Derived.Deep.RegionHeld3
import Derived.Deep.CutRange
import Derived.BigQuiet
import Derived.Deep.DeepMust
namespace Go.Proofs.Ytgkidjjijgegmaa
open Go.RowKit Go.Maps

theorem made_zero (n : Nat) : madeCells (Value.int IntKind.i64 0).cells n = Array.replicate n (Value.int .i64 0) := by
  apply Array.toList_inj.1
  have e : (Value.int IntKind.i64 0).cells = #[Value.int .i64 0] := rfl
  rw [e, toList_madeCells_one]
  simp
theorem makeInt (n : Nat) (hn : n ≤ 1000000) (W : World) : (Instr.makeSlice 24 (.int .i64 (n : Int)) (.int .i64 (n : Int))).run Try.prog W = .ok (.slice (some ⟨W.heap.size, 0, none⟩) n n) (W.alloc (.cells (Array.replicate n (Value.int .i64 0)) 3)) := by
  have inf : (Try.prog.info? 3).map (fun i => (i.zero, i.size, i.bytes)) = some (some (.int .i64 0), 1, 8) := by kernel_rfl
  obtain ⟨i0, hi, hz0, hz1, hz2⟩ := info_parts inf
  have h := run_makeSlice (P := Try.prog) W 24 3 i0 _ Try.underlying24 hi hz0 .i64 .i64 n n (by omega) (Int.le_refl _) (by rw [hz1]; simp; omega) (by rw [hz2]; simp; omega) (by omega)
  rw [hz1] at h
  simp only [Int.toNat_natCast, Nat.mul_one] at h
  rw [made_zero] at h
  exact h
theorem i64_infoC : (Try.prog.info? 2).map (fun i => (i.zero, i.size, i.bytes)) = some (some (.int .i64 0), 1, 8) := by kernel_rfl
def GotQ (n : Int) (w : World) (e : Ending) (w' : World) : Prop := ∃ g c, e = .returned (.slice (some ⟨g, 0, none⟩) (lsL n).length c) ∧ w'.ownsRow w.heap.size 2 1 (.slice (some ⟨g, 0, none⟩) (lsL n).length c) (lsL n).length ((lsL n).map (Value.int .i64)) ∧ Below w.heap.size w w'
theorem less_any2 (n : Int) (w : World) (h : I64 n) : Calls Try.prog 22 #[.int .i64 n] w (GotQ n w) := (less_any n w h).mono fun _ _ ⟨c, h1, h2, h3⟩ => ⟨_, c, h1, h2, h3⟩
/-- A census in memory. -/
def CnAt (w : World) (v : Value) (K : List Int) (o : Int) (T : List Tl) : Prop := ∃ A c B d, v = .agg #[.slice A K.length c, .int .i64 o, .slice B T.length d] ∧ Seg w w.heap.size A (K.map (Value.int .i64)) ∧ Seg w w.heap.size B (tlRows T)
/-- A census in memory; where it has no tallies' address it has no tallies. -/
def CnAtN (w : World) (v : Value) (K : List Int) (o : Int) (T : List Tl) : Prop := ∃ A c B d, v = .agg #[.slice A K.length c, .int .i64 o, .slice B T.length d] ∧ Seg w w.heap.size A (K.map (Value.int .i64)) ∧ Seg w w.heap.size B (tlRows T) ∧ (B = none → T.length = 0 ∧ d = 0)
theorem CnAtN.plain {w : World} {v : Value} {K : List Int} {o : Int} {T : List Tl} (h : CnAtN w v K o T) : CnAt w v K o T := by
  obtain ⟨A, c, B, d, h1, h2, h3, _⟩ := h
  exact ⟨A, c, B, d, h1, h2, h3⟩
theorem own_nilT {w : World} {base : Nat} {A : Option Addr} {n c m : Nat} {e : TypeId} {xs : List Value} (h : w.ownsRow base e m (.slice A n c) n xs) (hA : A = none) : n = 0 ∧ c = 0 := by
  rcases h.2 with ⟨h1, h2⟩ | ⟨g, cap, cur, h1, _⟩
  · injection h1 with h3 h4 h5
    exact ⟨h4, h5⟩
  · rw [hA] at h1
    injection h1 with h3
    cases h3
/-- The census of events, and the error. -/
def OfR (l : List Ev) (K : List Int) (o : Int) (T : List Tl) (err : Int) : Prop :=
  (1024 < l.length ∧ K = [] ∧ o = 0 ∧ T = [] ∧ err = 6) ∨
  (l.length ≤ 1024 ∧ (∃ q, okR (gE l q) = false) ∧ K = [] ∧ o = 0 ∧ T = [] ∧ err = 2) ∨
  (l.length ≤ 1024 ∧ (∀ q, okR (gE l q) = true) ∧ K = kindsL l ∧ o = manyE l 8 ∧ TalF (gE l) T ∧ err = 0)
/-- A census has come back. -/
def GotC (R : List Int → Int → List Tl → Int → Prop) (w : World) (e : Ending) (w' : World) : Prop :=
  ∃ K o T err v, R K o T err ∧ e = .returned (.tuple #[v, .int .i64 err]) ∧ CnAt w' v K o T ∧ Below w.heap.size w w'
def GotCN (R : List Int → Int → List Tl → Int → Prop) (w : World) (e : Ending) (w' : World) : Prop :=
  ∃ K o T err v, R K o T err ∧ e = .returned (.tuple #[v, .int .i64 err]) ∧ CnAtN w' v K o T ∧ Below w.heap.size w w'
theorem GotCN.plain {R : List Int → Int → List Tl → Int → Prop} {w w' : World} {e : Ending} (h : GotCN R w e w') : GotC R w e w' := by
  obtain ⟨K, o, T, err, v, h1, h2, h3, h4⟩ := h
  exact ⟨K, o, T, err, v, h1, h2, h3.plain, h4⟩
set_option maxRecDepth 100000 in
set_option maxHeartbeats 6400000 in
theorem of_preN (HSORT : SortC) (l : List Ev) (A : Option Addr) (c : Nat) (w : World) (hs : Seg w w.heap.size A (evRows l)) (hI : ∀ x ∈ l, EvOk x) (hl : l.length ≤ 1000000) :
    Calls Try.prog 8 #[.slice A l.length c] w (GotCN (OfR l) w) := by
  have HS := Lib.hid hs
  have HI := Lib.hid hI
  have HSO : Hid SortC := Lib.hid HSORT
  clear hs hI HSORT
  by_cases hbig : 1024 < l.length
  · have hd : decide ((1024 : Int) < (l.length : Int)) = true := decide_eq_true (by omega)
    go_enter Try.func8, Try.ntmps8
    go_wp2_with fail
    have r0 : (w.alloc (.cells #[.slice none 0 0, .int .i64 0, .slice none 0 0] 27)).cell? ⟨w.heap.size, 0, none⟩ = some (.slice none 0 0) := cell_new _ _ _ 0 rfl
    have r1 : (w.alloc (.cells #[.slice none 0 0, .int .i64 0, .slice none 0 0] 27)).cell? ⟨w.heap.size, 1, none⟩ = some (.int .i64 0) := cell_new _ _ _ 1 rfl
    have r2 : (w.alloc (.cells #[.slice none 0 0, .int .i64 0, .slice none 0 0] 27)).cell? ⟨w.heap.size, 2, none⟩ = some (.slice none 0 0) := cell_new _ _ _ 2 rfl
    have HB : Hid (Below w.heap.size w (w.alloc (.cells #[.slice none 0 0, .int .i64 0, .slice none 0 0] 27))) := Lib.hid ((Below.refl _ _).alloc (Nat.le_refl _) _)
    generalize w.alloc (.cells #[.slice none 0 0, .int .i64 0, .slice none 0 0] 27) = w1 at *
    refine bodyPost_ret (v := .tuple #[.agg #[.slice none 0 0, .int .i64 0, .slice none 0 0], .int .i64 6]) (by simp [results, Try.results8, go_sem, r0, r1, r2]) rfl ?_
    exact ⟨[], 0, [], 6, _, .inl ⟨hbig, rfl, rfl, rfl, rfl⟩, rfl, ⟨none, 0, none, 0, rfl, Seg.nil, Seg.nil, fun _ => ⟨rfl, rfl⟩⟩, HB.out⟩
  · have hd : decide ((1024 : Int) < (l.length : Int)) = false := decide_eq_false (by omega)
    have mk : ∀ W, (Instr.makeSlice 24 (.int .i64 20) (.int .i64 20)).run Try.prog W = .ok (.slice (some ⟨W.heap.size, 0, none⟩) 20 20) (W.alloc (.cells (Array.replicate 20 (Value.int .i64 0)) 3)) := fun W => makeInt 20 (by omega) W
    go_enter Try.func8, Try.ntmps8
    have hmm := @run_makeMap Try.prog
    go_wp2_with fail
    have HOI : Hid (OfI w (fun j => manyE [] j) (colF []) 0 [] (fun _ _ => .slice none 0 0) ((((w.alloc (.cells #[.slice none 0 0, .int .i64 0, .slice none 0 0] 27)).alloc (.cells (Array.replicate 20 (Value.int .i64 0)) 3)).alloc (.cells #[.slice (some ⟨w.heap.size + 1, 0, none⟩) 20 20, .int .i64 0, .slice none 0 0] 27)).alloc (.map #[] 0))) := Lib.hid (by
      have hg := Gr5.made (((w.alloc (.cells #[.slice none 0 0, .int .i64 0, .slice none 0 0] 27)).alloc (.cells (Array.replicate 20 (Value.int .i64 0)) 3)).alloc (.cells #[.slice (some ⟨w.heap.size + 1, 0, none⟩) 20 20, .int .i64 0, .slice none 0 0] 27))
      have hz : (((w.alloc (.cells #[.slice none 0 0, .int .i64 0, .slice none 0 0] 27)).alloc (.cells (Array.replicate 20 (Value.int .i64 0)) 3)).alloc (.cells #[.slice (some ⟨w.heap.size + 1, 0, none⟩) 20 20, .int .i64 0, .slice none 0 0] 27)).heap.size = w.heap.size + 3 := by simp
      rw [hz] at hg
      refine ⟨((((Below.refl _ _).alloc (Nat.le_refl _) _).alloc (by simp) _).alloc (by simp; omega) _).alloc (by simp; omega) _, by simp, ?_, ?_, ?_, fun j => by go_simp, fun j hj => ?_, fun j => by go_simp, ?_, ?_, ?_, fun j => by go_simp, hg, by simp⟩
      · rw [cell_old _ _ _ (by simp; omega), cell_old _ _ _ (by simp; omega), cell_old _ _ _ (by simp), cell_new _ _ _ _ rfl]; rfl
      · rw [cell_old _ _ _ (by simp; omega), cell_old _ _ _ (by simp; omega), cell_old _ _ _ (by simp), cell_new _ _ _ _ rfl]; rfl
      · rw [cell_old _ _ _ (by simp; omega), cell_old _ _ _ (by simp; omega), cell_old _ _ _ (by simp), cell_new _ _ _ _ rfl]; rfl
      · rw [cell_old _ _ _ (by simp), cell_old _ _ _ (by simp), cell_new _ _ _ _ (by simp)]
        simp [hj, manyE]
      · rw [cell_old _ _ _ (by simp), cell_new _ _ _ _ (by simp)]; rfl
      · rw [cell_old _ _ _ (by simp), cell_new _ _ _ _ (by simp)]; rfl
      · rw [cell_old _ _ _ (by simp), cell_new _ _ _ _ (by simp)]; rfl)
    generalize (((w.alloc (.cells #[.slice none 0 0, .int .i64 0, .slice none 0 0] 27)).alloc (.cells (Array.replicate 20 (Value.int .i64 0)) 3)).alloc (.cells #[.slice (some ⟨w.heap.size + 1, 0, none⟩) 20 20, .int .i64 0, .slice none 0 0] 27)).alloc (.map #[] 0) = w0 at *
    go_loopw [7, 8, 9, 10, 11, 12, 24] (fun _ _ _ _ _ _ i wr => ∃ k : Nat, k ≤ l.length ∧ i = .int .i64 k ∧ Hid (∃ m cf, OfI w (fun j => manyE (l.take k) j) (colF (l.take k)) k m cf wr)) (fun _ _ _ _ _ _ i _ => l.length - (intOf i).toNat)
    case atStart => exact ⟨0, Nat.zero_le _, rfl, _, _, HOI.out⟩
    case round =>
      obtain ⟨k, hk, rfl, HM⟩ := hrel
      obtain ⟨m, cf, hoi⟩ := HM.out
      have HO := Lib.hid hoi
      have hsz := hoi.sz
      clear HM hoi HOI
      by_cases hlt : k < l.length
      · obtain ⟨b, o, rfl, hb, e0, e1, e2, e3, e4⟩ := ev_at (HS.out.below HO.out.b) hlt
        have HX := Lib.hid (HI.out _ (List.getElem_mem hlt))
        have HMS := Lib.hid (many_snoc hlt)
        have HCN := Lib.hid (fun h => col_none hlt h)
        have HCS := Lib.hid (fun j h => col_some hlt (j := j) h)
        obtain ⟨x, hx⟩ : ∃ x, x = l[k] := ⟨_, rfl⟩
        rw [← hx] at e0 e1 e2 e3 e4 HX HMS HCN HCS
        clear hx
        obtain ⟨xk, xm, xa, xn, xo⟩ := x
        simp only at e0 e1 e2 e3 e4
        have hM := fun j => many_bd (l.take k) j
        have hlk : ((l.take k).length : Int) ≤ 1024 := by rw [List.length_take]; omega
        have HLW : Hid (∀ j, IntKind.i64.wrap (manyE (l.take k) j + 1) = manyE (l.take k) j + 1) := Lib.hid fun j => IntWalk.i64_in _ (by have := hM j; omega)
        have HBX : Hid (Below wr.heap.size wr (wr.alloc (.cells #[.int .i64 xk, .int .i64 xm, .int .i64 xa, .int .i64 xn, .int .i64 xo] 34))) := Lib.hid ((Below.refl _ _).alloc (Nat.le_refl _) _)
        have HBA : Hid (∀ o, Below w.heap.size w (wr.alloc o)) := Lib.hid fun o => HO.out.b.alloc HO.out.b.size o
        have HOX := Lib.hid (HO.out.below HBX.out)
        have HXC := Lib.hid fun j => cell_new wr #[.int .i64 xk, .int .i64 xm, .int .i64 xa, .int .i64 xn, .int .i64 xo] 34 (b := wr.heap.size) j rfl
        have hbx : wr.heap.size < (wr.alloc (.cells #[.int .i64 xk, .int .i64 xm, .int .i64 xa, .int .i64 xn, .int .i64 xo] 34)).heap.size := by simp
        have c0 := HOX.out.c0
        have cz := HOX.out.cz
        have kf := HOX.out.kf
        have k0 := HOX.out.k 0 (by omega)
        by_cases hlo : xk < 1
        · have hd1 : decide (xk < 1) = true := decide_eq_true hlo
          skip
          have hkc : kc xk = 0 := by unfold kc; rw [if_pos (by omega)]
          have hpl : plJ xk = none := by
            cases h : plJ xk with
            | none => rfl
            | some j => have := plJ_in h; omega
          have hw0 := HLW.out 0
          have HOK : Hid (OfI w (fun j => manyE (l.take (k + 1)) j) (colF (l.take (k + 1))) k m cf ((wr.alloc (.cells #[.int .i64 xk, .int .i64 xm, .int .i64 xa, .int .i64 xn, .int .i64 xo] 34)).setCell ⟨w.heap.size + 1, 0, none⟩ (.int .i64 (manyE (l.take k) 0 + 1)))) := Lib.hid (by
            rw [HCN.out hpl]
            refine HOX.out.kind (i := 0) (by omega) (fun j hj => ?_)
            have := HMS.out (j : Int)
            rw [this]
            simp only [hkc]
            by_cases h : 0 = j
            · subst h; simp
            · rw [if_neg h, if_neg (by simpa using fun e => h (by omega))])
          clear HMS HCN HCS HX
          go_wp2_with fail
          go_roundw
          case rel => exact ⟨k + 1, by omega, by go_num, _, _, HOK.out.more⟩
          case measure => simp [intOf]; omega
        have hd1 : decide (xk < 1) = false := decide_eq_false hlo
        by_cases hhi : 20 ≤ xk
        · have hd2 : decide (20 ≤ xk) = true := decide_eq_true hhi
          skip
          have hkc : kc xk = 0 := by unfold kc; rw [if_pos (by omega)]
          have hpl : plJ xk = none := by
            cases h : plJ xk with
            | none => rfl
            | some j => have := plJ_in h; omega
          have hw0 := HLW.out 0
          have HOK : Hid (OfI w (fun j => manyE (l.take (k + 1)) j) (colF (l.take (k + 1))) k m cf ((wr.alloc (.cells #[.int .i64 xk, .int .i64 xm, .int .i64 xa, .int .i64 xn, .int .i64 xo] 34)).setCell ⟨w.heap.size + 1, 0, none⟩ (.int .i64 (manyE (l.take k) 0 + 1)))) := Lib.hid (by
            rw [HCN.out hpl]
            refine HOX.out.kind (i := 0) (by omega) (fun j hj => ?_)
            have := HMS.out (j : Int)
            rw [this]
            simp only [hkc]
            by_cases h : 0 = j
            · subst h; simp
            · rw [if_neg h, if_neg (by simpa using fun e => h (by omega))])
          clear HMS HCN HCS HX
          go_wp2_with fail
          go_roundw
          case rel => exact ⟨k + 1, by omega, by go_num, _, _, HOK.out.more⟩
          case measure => simp [intOf]; omega
        have hd2 : decide (20 ≤ xk) = false := decide_eq_false hhi
        obtain ⟨kn, rfl⟩ : ∃ kn : Nat, xk = (kn : Int) := ⟨xk.toNat, by omega⟩
        have hk20 : (kn : Int) < 20 := by omega
        have hk0 : (0 : Int) ≤ (kn : Int) := by omega
        have hkc : kc (kn : Int) = (kn : Int) := by unfold kc; rw [if_neg (by omega)]
        have hwk := HLW.out (kn : Int)
        have hkk := HOX.out.k kn (by omega)
        have hbn : wr.heap.size ≠ w.heap.size + 1 := by omega
        have HY : Hid (∀ j, ((wr.alloc (.cells #[.int .i64 (kn : Int), .int .i64 xm, .int .i64 xa, .int .i64 xn, .int .i64 xo] 34)).setCell ⟨w.heap.size + 1, kn, none⟩ (.int .i64 (manyE (l.take k) (kn : Int) + 1))).cell? ⟨wr.heap.size, j, none⟩ = (#[.int .i64 (kn : Int), .int .i64 xm, .int .i64 xa, .int .i64 xn, .int .i64 xo] : Array Value)[j]?) := Lib.hid fun j => (World.cell?_setCell_other _ _ _ _ (fun e => hbn (by injection e with e _ _; exact e.symm))).trans (HXC.out j)
        have HOK : Hid (OfI w (fun j => manyE (l.take (k + 1)) j) (colF (l.take k)) k m cf ((wr.alloc (.cells #[.int .i64 (kn : Int), .int .i64 xm, .int .i64 xa, .int .i64 xn, .int .i64 xo] 34)).setCell ⟨w.heap.size + 1, kn, none⟩ (.int .i64 (manyE (l.take k) (kn : Int) + 1)))) := Lib.hid (by
          refine HOX.out.kind (i := kn) (by omega) (fun j hj => ?_)
          rw [HMS.out (j : Int)]
          simp only [hkc]
          by_cases h : kn = j
          · subst h; simp
          · rw [if_neg h, if_neg (fun e => h (by omega))])
        have y0 : ((wr.alloc (.cells #[.int .i64 (kn : Int), .int .i64 xm, .int .i64 xa, .int .i64 xn, .int .i64 xo] 34)).setCell ⟨w.heap.size + 1, kn, none⟩ (.int .i64 (manyE (l.take k) (kn : Int) + 1))).cell? ⟨wr.heap.size, 0, none⟩ = some (.int .i64 (kn : Int)) := HY.out 0
        have y1 : ((wr.alloc (.cells #[.int .i64 (kn : Int), .int .i64 xm, .int .i64 xa, .int .i64 xn, .int .i64 xo] 34)).setCell ⟨w.heap.size + 1, kn, none⟩ (.int .i64 (manyE (l.take k) (kn : Int) + 1))).cell? ⟨wr.heap.size, 1, none⟩ = some (.int .i64 xm) := HY.out 1
        have y2 : ((wr.alloc (.cells #[.int .i64 (kn : Int), .int .i64 xm, .int .i64 xa, .int .i64 xn, .int .i64 xo] 34)).setCell ⟨w.heap.size + 1, kn, none⟩ (.int .i64 (manyE (l.take k) (kn : Int) + 1))).cell? ⟨wr.heap.size, 2, none⟩ = some (.int .i64 xa) := HY.out 2
        have y3 : ((wr.alloc (.cells #[.int .i64 (kn : Int), .int .i64 xm, .int .i64 xa, .int .i64 xn, .int .i64 xo] 34)).setCell ⟨w.heap.size + 1, kn, none⟩ (.int .i64 (manyE (l.take k) (kn : Int) + 1))).cell? ⟨wr.heap.size, 3, none⟩ = some (.int .i64 xn) := HY.out 3
        have y4 : ((wr.alloc (.cells #[.int .i64 (kn : Int), .int .i64 xm, .int .i64 xa, .int .i64 xn, .int .i64 xo] 34)).setCell ⟨w.heap.size + 1, kn, none⟩ (.int .i64 (manyE (l.take k) (kn : Int) + 1))).cell? ⟨wr.heap.size, 4, none⟩ = some (.int .i64 xo) := HY.out 4
        have hz2 : wr.heap.size < ((wr.alloc (.cells #[.int .i64 (kn : Int), .int .i64 xm, .int .i64 xa, .int .i64 xn, .int .i64 xo] 34)).setCell ⟨w.heap.size + 1, kn, none⟩ (.int .i64 (manyE (l.take k) (kn : Int) + 1))).heap.size := by simp
        clear HY HMS HLW
        go_wp2_with fail
        generalize ((wr.alloc (.cells #[.int .i64 (kn : Int), .int .i64 xm, .int .i64 xa, .int .i64 xn, .int .i64 xo] 34)).setCell ⟨w.heap.size + 1, kn, none⟩ (.int .i64 (manyE (l.take k) (kn : Int) + 1))) = w2 at *
        clear HBX HOX HXC c0 cz kf k0 hkk hbx e0 e1 e2 e3 e4
        generalize hbr : wr.heap.size = bx at *
        have HPL := Lib.hid (place_any ⟨(kn : Int), xm, xa, xn, xo⟩ w2)
        refine HPL.out.mono ?_
        rintro e w3 ⟨rfl, hb3⟩
        have HO3 := Lib.hid (HOK.out.below hb3)
        have z0 := (hb3.cell (p := ⟨bx, 0, none⟩) hz2).trans y0
        have z1 := (hb3.cell (p := ⟨bx, 1, none⟩) hz2).trans y1
        have z2 := (hb3.cell (p := ⟨bx, 2, none⟩) hz2).trans y2
        have hz3 : bx < w3.heap.size := Nat.lt_of_lt_of_le hz2 hb3.size
        clear hb3 y0 y1 y2 y3 y4 HOK HPL hz2 HBA HO hbr hbn
        simp only [plN]
        cases hpl : plJ (kn : Int) with
        | none =>
          have HOE : Hid (OfI w (fun j => manyE (l.take (k + 1)) j) (colF (l.take (k + 1))) k m cf w3) := Lib.hid (by rw [HCN.out hpl]; exact HO3.out)
          clear HO3 HCN HCS
          go_wp2_with fail
          go_roundw
          case rel => exact ⟨k + 1, by omega, by go_num, _, _, HOE.out.more⟩
          case measure => simp [intOf]; omega
        | some j =>
          have hj5 := plJ_lt hpl
          have hpi : plI (kn : Int) = (j : Int) := by unfold plI; rw [hpl]; rfl
          rw [hpi]
          have HNF := Lib.hid (HCS.out j hpl)
          have HCI : Hid (∀ q i, (colF (l.take k) q i).length ≤ 2048) := Lib.hid fun q i => by have := col_len (l.take k) q i; omega
          clear HCS HCN hpi hM
          by_cases h6 : (kn : Int) = 6
          · skip
            have b6 : ((kn : Int) == 6) = true := by simpa using h6
            have b15 : ((kn : Int) == 15) = false := by simpa using (show (kn : Int) ≠ 15 by omega)
            have b19 : ((kn : Int) == 19) = false := by simpa using (show (kn : Int) ≠ 19 by omega)
            have hsd : sideE ⟨(kn : Int), xm, xa, xn, xo⟩ = (xm, xa) := by unfold sideE; simp only; rw [if_neg (by omega)]
            have hct : ctr ⟨(kn : Int), xm, xa, xn, xo⟩ = lsL xn := by unfold ctr; rw [if_pos (by simpa using (show (kn : Int) = 6 by omega))]
            have HDOM := Lib.hid (side_dom HX.out)
            rw [hsd] at HDOM HNF
            rw [hct] at HNF
            clear hsd hct h6
            have t1 : (w3.alloc (.cells #[.int .i64 xm, .int .i64 xa] 60)).cell? ⟨w3.heap.size, 1, none⟩ = some (.int .i64 xa) := cell_new _ _ _ 1 rfl
            have t0 : (w3.alloc (.cells #[.int .i64 xm, .int .i64 xa] 60)).cell? ⟨w3.heap.size, 0, none⟩ = some (.int .i64 xm) := cell_new _ _ _ 0 rfl
            have z0' : (w3.alloc (.cells #[.int .i64 xm, .int .i64 xa] 60)).cell? ⟨bx, 0, none⟩ = some (.int .i64 (kn : Int)) := (cell_old _ _ _ hz3).trans z0
            have HB4 : Hid (Below w3.heap.size w3 (w3.alloc (.cells #[.int .i64 xm, .int .i64 xa] 60))) := Lib.hid ((Below.refl _ _).alloc (Nat.le_refl _) _)
            have HO4 := Lib.hid (HO3.out.below HB4.out)
            have hfm : ∀ i, i < 5 → ∃ A c, cf (xm, xa) i = .slice A (colF (l.take k) (xm, xa) i).length c := fun i hi => own_form (HO3.out.g.rows (xm, xa) i hi)
            obtain ⟨A0, c0, s0⟩ := hfm 0 (by omega)
            obtain ⟨A1, c1, s1⟩ := hfm 1 (by omega)
            obtain ⟨A2, c2, s2⟩ := hfm 2 (by omega)
            obtain ⟨A3, c3, s3⟩ := hfm 3 (by omega)
            obtain ⟨A4, c4, s4⟩ := hfm 4 (by omega)
            have HLK : (Instr.lookup 56 (.map (some (w.heap.size + 1 + 1 + 1))) (.agg #[.int .i64 xm, .int .i64 xa]) false).run Try.prog (w3.alloc (.cells #[.int .i64 xm, .int .i64 xa] 60)) = .ok (.agg #[.slice A0 (colF (l.take k) (xm, xa) 0).length c0, .slice A1 (colF (l.take k) (xm, xa) 1).length c1, .slice A2 (colF (l.take k) (xm, xa) 2).length c2, .slice A3 (colF (l.take k) (xm, xa) 3).length c3, .slice A4 (colF (l.take k) (xm, xa) 4).length c4]) (w3.alloc (.cells #[.int .i64 xm, .int .i64 xa] 60)) := by
              have h := HO4.out.g.look HDOM.out
              unfold agg5 at h
              rw [s0, s1, s2, s3, s4] at h
              exact h
            have h4z : (w3.alloc (.cells #[.int .i64 xm, .int .i64 xa] 60)).heap.size = w3.heap.size + 1 := by simp
            have hfive : ∀ i, i < 5 → (#[.slice A0 (colF (l.take k) (xm, xa) 0).length c0, .slice A1 (colF (l.take k) (xm, xa) 1).length c1, .slice A2 (colF (l.take k) (xm, xa) 2).length c2, .slice A3 (colF (l.take k) (xm, xa) 3).length c3, .slice A4 (colF (l.take k) (xm, xa) 4).length c4] : Array Value)[i]? = some (cf (xm, xa) i) := fun i hi => by
              obtain rfl | rfl | rfl | rfl | rfl : i = 0 ∨ i = 1 ∨ i = 2 ∨ i = 3 ∨ i = 4 := by omega
              · rw [s0]; rfl
              · rw [s1]; rfl
              · rw [s2]; rfl
              · rw [s3]; rfl
              · rw [s4]; rfl
            have HB5 : Hid (Below (w3.alloc (.cells #[.int .i64 xm, .int .i64 xa] 60)).heap.size (w3.alloc (.cells #[.int .i64 xm, .int .i64 xa] 60)) ((w3.alloc (.cells #[.int .i64 xm, .int .i64 xa] 60)).alloc (.cells #[.slice A0 (colF (l.take k) (xm, xa) 0).length c0, .slice A1 (colF (l.take k) (xm, xa) 1).length c1, .slice A2 (colF (l.take k) (xm, xa) 2).length c2, .slice A3 (colF (l.take k) (xm, xa) 3).length c3, .slice A4 (colF (l.take k) (xm, xa) 4).length c4] 62))) := Lib.hid ((Below.refl _ _).alloc (Nat.le_refl _) _)
            have z5 : ((w3.alloc (.cells #[.int .i64 xm, .int .i64 xa] 60)).alloc (.cells #[.slice A0 (colF (l.take k) (xm, xa) 0).length c0, .slice A1 (colF (l.take k) (xm, xa) 1).length c1, .slice A2 (colF (l.take k) (xm, xa) 2).length c2, .slice A3 (colF (l.take k) (xm, xa) 3).length c3, .slice A4 (colF (l.take k) (xm, xa) 4).length c4] 62)).cell? ⟨bx, 0, none⟩ = some (.int .i64 (kn : Int)) := (cell_old _ _ _ (by rw [h4z]; omega)).trans z0'
            obtain ⟨Aj, cj, sj⟩ := hfm j hj5
            have hu5 : ((w3.alloc (.cells #[.int .i64 xm, .int .i64 xa] 60)).alloc (.cells #[.slice A0 (colF (l.take k) (xm, xa) 0).length c0, .slice A1 (colF (l.take k) (xm, xa) 1).length c1, .slice A2 (colF (l.take k) (xm, xa) 2).length c2, .slice A3 (colF (l.take k) (xm, xa) 3).length c3, .slice A4 (colF (l.take k) (xm, xa) 4).length c4] 62)).cell? ⟨w3.heap.size + 1, j, none⟩ = some (.slice Aj (colF (l.take k) (xm, xa) j).length cj) := by rw [cell_new _ _ _ _ h4z.symm, hfive j hj5, sj]
            have HOW : Hid (((w3.alloc (.cells #[.int .i64 xm, .int .i64 xa] 60)).alloc (.cells #[.slice A0 (colF (l.take k) (xm, xa) 0).length c0, .slice A1 (colF (l.take k) (xm, xa) 1).length c1, .slice A2 (colF (l.take k) (xm, xa) 2).length c2, .slice A3 (colF (l.take k) (xm, xa) 3).length c3, .slice A4 (colF (l.take k) (xm, xa) 4).length c4] 62)).ownsRow (w.heap.size + 4) 2 1 (.slice Aj (colF (l.take k) (xm, xa) j).length cj) (colF (l.take k) (xm, xa) j).length ((colF (l.take k) (xm, xa) j).map (Value.int .i64))) := Lib.hid (by rw [← sj]; exact own_below (HO4.out.g.rows (xm, xa) j hj5) HB5.out)
            have hnj := HCI.out (xm, xa) j
            have hj0 : (0 : Int) ≤ (j : Int) := by omega
            have hjb : (j : Int) < 5 := by omega
            have hs4 : w.heap.size + 4 ≤ w3.heap.size := HO3.out.sz
            have HOB : Hid (∀ g, (cf (xm, xa) j).ownBlock = some g → g < w3.heap.size) := Lib.hid fun g hg => ((HO3.out.g.rows (xm, xa) j hj5).lt g hg).2
            have HSR : Hid (∀ i, i < 5 → ∃ A c, cf (xm, xa) i = .slice A (colF (l.take k) (xm, xa) i).length c) := Lib.hid hfm
            clear hfm s0 s1 s2 s3 s4
            generalize (colF (l.take k) (xm, xa) 0).length = n0 at *
            generalize (colF (l.take k) (xm, xa) 1).length = n1 at *
            generalize (colF (l.take k) (xm, xa) 2).length = n2 at *
            generalize (colF (l.take k) (xm, xa) 3).length = n3 at *
            generalize (colF (l.take k) (xm, xa) 4).length = n4 at *
            obtain ⟨i0, hi0, hz0, hz1', hz2⟩ := info_parts i64_infoC
            have HLE : Hid (∀ W, Calls Try.prog 22 #[.int .i64 xn] W (GotQ xn W)) := Lib.hid fun W => less_any2 xn W HX.out.2.2.2.1
            have hz5 : w3.heap.size + 1 < ((w3.alloc (.cells #[.int .i64 xm, .int .i64 xa] 60)).alloc (.cells #[.slice A0 n0 c0, .slice A1 n1 c1, .slice A2 n2 c2, .slice A3 n3 c3, .slice A4 n4 c4] 62)).heap.size := by simp
            have hlp := lsL_pos xn
            have hll := lsL_len xn
            have h4b : w.heap.size + 4 ≤ ((w3.alloc (.cells #[.int .i64 xm, .int .i64 xa] 60)).alloc (.cells #[.slice A0 n0 c0, .slice A1 n1 c1, .slice A2 n2 c2, .slice A3 n3 c3, .slice A4 n4 c4] 62)).heap.size := by simp; omega
            go_wp2_with fail
            refine wp_region_held_drew (S := fun _ => True) (by kernel_rfl) trivial (fun hHeld => ?_)
            refine wpAnyH_take (i := 0) (v := .int .i64 (j : Int)) rfl (by kernel_rfl) (by kernel_rfl) (by kernel_rfl) (fun _ _ _ h => h) (Or.inl ⟨by rfl, fun w' hSw => by dsimp only at hSw; go_simp⟩) hHeld ?_
            refine wpAnyH_take (i := 1) (v := .int .i64 (j : Int)) rfl (by kernel_rfl) (by kernel_rfl) (by kernel_rfl) (fun _ _ _ h => h) (Or.inl ⟨by rfl, fun w' hSw => by dsimp only at hSw; go_simp⟩) hHeld ?_
            refine wpAnyH_take (i := 2) (v := .pointer (some ⟨w3.heap.size + 1, j, none⟩)) rfl (by kernel_rfl) (by kernel_rfl) (by kernel_rfl) (fun _ _ _ h => h) (Or.inl ⟨by rfl, fun w' hSw => by dsimp only at hSw; go_simp⟩) hHeld ?_
            refine wpAnyH_take (i := 4) (v := .int .i64 xn) rfl (by kernel_rfl) (by kernel_rfl) (by kernel_rfl) (fun _ _ _ h => h) (Or.inl ⟨by rfl, fun w' hSw => by dsimp only at hSw; go_simp⟩) hHeld ?_
            refine wpAnyH_ready (rs := [3, 5]) (by kernel_rfl) (by simp) ?_
            refine AllReadyH.cons rfl (fun K hK => ?_) (AllReadyH.cons rfl (fun K hK => ?_) AllReadyH.nil)
            · go_simp
              refine hK.out _ _ trivial (fun hHeld => ?_)
              clear hK K
              refine wpAnyH_ready (rs := [5]) (by kernel_rfl) (by simp) ?_
              refine AllReadyH.cons rfl (fun K hK => ?_) AllReadyH.nil
              go_simp
              (go_at_call 22; refine (HLE.out _).mono ?_; rintro e wx ⟨gl, cl, rfl, hox, hbx⟩; have HBX : Hid (Below ((w3.alloc (.cells #[.int .i64 xm, .int .i64 xa] 60)).alloc (.cells #[.slice A0 n0 c0, .slice A1 n1 c1, .slice A2 n2 c2, .slice A3 n3 c3, .slice A4 n4 c4] 62)).heap.size ((w3.alloc (.cells #[.int .i64 xm, .int .i64 xa] 60)).alloc (.cells #[.slice A0 n0 c0, .slice A1 n1 c1, .slice A2 n2 c2, .slice A3 n3 c3, .slice A4 n4 c4] 62)) wx) := Lib.hid ⟨hbx.os, hbx.tape, hbx.output, hbx.size, hbx.block⟩; have hux := (HBX.out.cell (p := ⟨w3.heap.size + 1, j, none⟩) hz5).trans hu5; have HOXL := Lib.hid hox; clear hox hbx)
              go_wp2_with fail
              refine hK.out _ _ trivial (fun hHeld => ?_)
              clear hK K
              refine wpAnyH_ready (rs := [6]) (by kernel_rfl) (by simp) ?_
              refine AllReadyH.cons rfl (fun K hK => ?_) AllReadyH.nil
              (refine step_append_lies _ rfl (.tmp 81) (.tmp 83) 45 rfl (w.heap.size + 4) 2 i0 _ 1 8 Try.underlying45 hi0 hz0 hz1' hz2 rfl (by decide) _ (colF (l.take k) (xm, xa) j).length ((colF (l.take k) (xm, xa) j).map (Value.int .i64)) rfl (own_below HOW.out HBX.out) ⟨gl, 0, none⟩ (lsL xn).length cl ((lsL xn).map (Value.int .i64)) rfl (by simp) (HOXL.out.cells rfl) (by intro u hu; obtain ⟨y, _, rfl⟩ := List.mem_map.1 hu; rfl) hlp (by simp only [maxLen]; omega) (by omega) (Nat.le_trans h4b HBX.out.size) wx.heap.size rfl ?_; intro g cap w6 hown6 hgr6 hat6 _; have hgr6' : wx.grownBy w6 (cf (xm, xa) j).ownBlock := (by (rw [sj]; exact hgr6)); have HG := Lib.hid (HO4.out.grown hj5 rfl HBX.out hgr6'); have hq0 : w6.cell? ⟨w3.heap.size + 1, j, none⟩ = some (.slice Aj (colF (l.take k) (xm, xa) j).length cj) := (by (have := HG.out.c j; rw [h4z] at this; rw [this, ← sj]; exact hfive j hj5)); have hqf : w6.frozen? ⟨w3.heap.size + 1, j, none⟩ = false := (by (have := HG.out.f j; rwa [h4z] at this)))
              refine hK.out _ _ trivial (fun hHeld => ?_)
              clear hK K
              refine wpAnyH_take (i := 7) (v := .pointer (some ⟨w3.heap.size + 1, j, none⟩)) rfl (by kernel_rfl) (by kernel_rfl) (by kernel_rfl) (fun _ _ _ h => h) (Or.inl ⟨by rfl, fun w' hSw => by dsimp only at hSw; go_simp⟩) hHeld ?_
              refine wpAnyH_ready (rs := [8]) (by kernel_rfl) (by simp) ?_
              refine AllReadyH.cons rfl (fun K hK => ?_) AllReadyH.nil
              go_simp
              refine hK.out _ _ trivial (fun hHeld => ?_)
              clear hK K hHeld
              refine wpAnyH_done (by kernel_rfl) ?_ _
              have hown6' : w6.ownsRow (w.heap.size + 4) 2 1 (.slice (some ⟨g, 0, none⟩) ((colF (l.take k) (xm, xa) j).length + (lsL xn).length) cap) ((colF (l.take k) (xm, xa) j) ++ lsL xn).length (((colF (l.take k) (xm, xa) j) ++ lsL xn).map (Value.int .i64)) := by rw [List.length_append, List.map_append]; exact hown6
              obtain ⟨w8, hrun, ho8⟩ := HO4.out.step HDOM.out hj5 rfl HBX.out hgr6' hown6' (by rw [sj]; exact hat6.imp (fun e => e.symm) (fun e => by rw [e]; rfl))
              obtain ⟨v6, hv6⟩ : ∃ v6, v6 = Value.slice (some ⟨g, 0, none⟩) ((colF (l.take k) (xm, xa) j).length + (lsL xn).length) cap := ⟨_, rfl⟩
              rw [← hv6] at hrun ho8
              have HO8 : Hid (∃ m' cf', OfI w (fun j => manyE (l.take (k + 1)) j) (colF (l.take (k + 1))) (k + 1) m' cf' w8) := Lib.hid ⟨_, _, by rw [HNF.out]; exact ho8⟩
              have g0 : w6.cell? ⟨w3.heap.size + 1, j, none⟩ = some (cf (xm, xa) j) := by have := HG.out.c j; rw [h4z] at this; rw [this]; exact hfive j hj5
              rw [sj] at g0
              have gf : ∀ i, w6.frozen? ⟨w3.heap.size + 1, i, none⟩ = false := fun i => by have := HG.out.f i; rwa [h4z] at this
              have gn : some w3.heap.size ≠ (cf (xm, xa) j).ownBlock := fun e => by have := HOB.out _ e.symm; omega
              have g1 := (HG.out.o w3.heap.size 0 (by rw [h4z]; omega) gn).trans t0
              have g2 := (HG.out.o w3.heap.size 1 (by rw [h4z]; omega) gn).trans t1
              have go : ∀ i, (w6.setCell ⟨w3.heap.size + 1, j, none⟩ v6).cell? ⟨w3.heap.size, i, none⟩ = w6.cell? ⟨w3.heap.size, i, none⟩ := fun i => World.cell?_setCell_other _ _ _ _ (fun e => by injection e with e _ _; omega)
              have k0 := (go 0).trans g1
              have k1 := (go 1).trans g2
              have kk : ∀ i, i < 5 → (w6.setCell ⟨w3.heap.size + 1, j, none⟩ v6).cell? ⟨w3.heap.size + 1, i, none⟩ = some (upd cf (xm, xa) j v6 (xm, xa) i) := fun i hi => by
                unfold upd
                by_cases e : i = j
                · subst e
                  rw [if_pos ⟨rfl, rfl⟩]
                  exact World.cell?_setCell_same' _ _ _ (by rw [g0]; rfl)
                · rw [if_neg (fun e' => e e'.2)]
                  refine (World.cell?_setCell_other _ _ _ _ (fun e' => e (by injection e' with _ e' _; exact e'.symm))).trans ?_
                  have := HG.out.c i
                  rw [h4z] at this
                  rw [this]
                  exact hfive i hi
              have m0 := kk 0 (by omega)
              have m1 := kk 1 (by omega)
              have m2 := kk 2 (by omega)
              have m3 := kk 3 (by omega)
              have m4 := kk 4 (by omega)
              clear go kk gn g1 g2 hown6 hown6' hgr6 hgr6' hat6 HBX hq0 hqf HG HOB HSR HO4 HB4 HB5 HOW HDOM HNF ho8 hfive z5 hu5
              unfold agg5 at hrun
              rw [h4z] at hrun
              generalize upd cf (xm, xa) j v6 (xm, xa) 0 = p0 at *
              generalize upd cf (xm, xa) j v6 (xm, xa) 1 = p1 at *
              generalize upd cf (xm, xa) j v6 (xm, xa) 2 = p2 at *
              generalize upd cf (xm, xa) j v6 (xm, xa) 3 = p3 at *
              generalize upd cf (xm, xa) j v6 (xm, xa) 4 = p4 at *
              rw [hv6] at hrun k0 k1 m0 m1 m2 m3 m4
              clear hv6
              go_wp2_with (at_mapUpdate; go_must (refine wpList_update_run rfl _ _ _ _ rfl rfl rfl rfl hrun ?_))
              go_roundw
              case rel => exact ⟨k + 1, by omega, by go_num, HO8⟩
              case measure => simp [intOf]; omega
            · go_simp
              (go_at_call 22; refine (HLE.out _).mono ?_; rintro e wx ⟨gl, cl, rfl, hox, hbx⟩; have HBX : Hid (Below ((w3.alloc (.cells #[.int .i64 xm, .int .i64 xa] 60)).alloc (.cells #[.slice A0 n0 c0, .slice A1 n1 c1, .slice A2 n2 c2, .slice A3 n3 c3, .slice A4 n4 c4] 62)).heap.size ((w3.alloc (.cells #[.int .i64 xm, .int .i64 xa] 60)).alloc (.cells #[.slice A0 n0 c0, .slice A1 n1 c1, .slice A2 n2 c2, .slice A3 n3 c3, .slice A4 n4 c4] 62)) wx) := Lib.hid ⟨hbx.os, hbx.tape, hbx.output, hbx.size, hbx.block⟩; have hux := (HBX.out.cell (p := ⟨w3.heap.size + 1, j, none⟩) hz5).trans hu5; have HOXL := Lib.hid hox; clear hox hbx)
              go_wp2_with fail
              refine hK.out _ _ trivial (fun hHeld => ?_)
              clear hK K
              refine wpAnyH_ready (rs := [3]) (by kernel_rfl) (by simp) ?_
              refine AllReadyH.cons rfl (fun K hK => ?_) AllReadyH.nil
              go_simp
              refine hK.out _ _ trivial (fun hHeld => ?_)
              clear hK K
              refine wpAnyH_ready (rs := [6]) (by kernel_rfl) (by simp) ?_
              refine AllReadyH.cons rfl (fun K hK => ?_) AllReadyH.nil
              (refine step_append_lies _ rfl (.tmp 81) (.tmp 83) 45 rfl (w.heap.size + 4) 2 i0 _ 1 8 Try.underlying45 hi0 hz0 hz1' hz2 rfl (by decide) _ (colF (l.take k) (xm, xa) j).length ((colF (l.take k) (xm, xa) j).map (Value.int .i64)) rfl (own_below HOW.out HBX.out) ⟨gl, 0, none⟩ (lsL xn).length cl ((lsL xn).map (Value.int .i64)) rfl (by simp) (HOXL.out.cells rfl) (by intro u hu; obtain ⟨y, _, rfl⟩ := List.mem_map.1 hu; rfl) hlp (by simp only [maxLen]; omega) (by omega) (Nat.le_trans h4b HBX.out.size) wx.heap.size rfl ?_; intro g cap w6 hown6 hgr6 hat6 _; have hgr6' : wx.grownBy w6 (cf (xm, xa) j).ownBlock := (by (rw [sj]; exact hgr6)); have HG := Lib.hid (HO4.out.grown hj5 rfl HBX.out hgr6'); have hq0 : w6.cell? ⟨w3.heap.size + 1, j, none⟩ = some (.slice Aj (colF (l.take k) (xm, xa) j).length cj) := (by (have := HG.out.c j; rw [h4z] at this; rw [this, ← sj]; exact hfive j hj5)); have hqf : w6.frozen? ⟨w3.heap.size + 1, j, none⟩ = false := (by (have := HG.out.f j; rwa [h4z] at this)))
              refine hK.out _ _ trivial (fun hHeld => ?_)
              clear hK K
              refine wpAnyH_take (i := 7) (v := .pointer (some ⟨w3.heap.size + 1, j, none⟩)) rfl (by kernel_rfl) (by kernel_rfl) (by kernel_rfl) (fun _ _ _ h => h) (Or.inl ⟨by rfl, fun w' hSw => by dsimp only at hSw; go_simp⟩) hHeld ?_
              refine wpAnyH_ready (rs := [8]) (by kernel_rfl) (by simp) ?_
              refine AllReadyH.cons rfl (fun K hK => ?_) AllReadyH.nil
              go_simp
              refine hK.out _ _ trivial (fun hHeld => ?_)
              clear hK K hHeld
              refine wpAnyH_done (by kernel_rfl) ?_ _
              have hown6' : w6.ownsRow (w.heap.size + 4) 2 1 (.slice (some ⟨g, 0, none⟩) ((colF (l.take k) (xm, xa) j).length + (lsL xn).length) cap) ((colF (l.take k) (xm, xa) j) ++ lsL xn).length (((colF (l.take k) (xm, xa) j) ++ lsL xn).map (Value.int .i64)) := by rw [List.length_append, List.map_append]; exact hown6
              obtain ⟨w8, hrun, ho8⟩ := HO4.out.step HDOM.out hj5 rfl HBX.out hgr6' hown6' (by rw [sj]; exact hat6.imp (fun e => e.symm) (fun e => by rw [e]; rfl))
              obtain ⟨v6, hv6⟩ : ∃ v6, v6 = Value.slice (some ⟨g, 0, none⟩) ((colF (l.take k) (xm, xa) j).length + (lsL xn).length) cap := ⟨_, rfl⟩
              rw [← hv6] at hrun ho8
              have HO8 : Hid (∃ m' cf', OfI w (fun j => manyE (l.take (k + 1)) j) (colF (l.take (k + 1))) (k + 1) m' cf' w8) := Lib.hid ⟨_, _, by rw [HNF.out]; exact ho8⟩
              have g0 : w6.cell? ⟨w3.heap.size + 1, j, none⟩ = some (cf (xm, xa) j) := by have := HG.out.c j; rw [h4z] at this; rw [this]; exact hfive j hj5
              rw [sj] at g0
              have gf : ∀ i, w6.frozen? ⟨w3.heap.size + 1, i, none⟩ = false := fun i => by have := HG.out.f i; rwa [h4z] at this
              have gn : some w3.heap.size ≠ (cf (xm, xa) j).ownBlock := fun e => by have := HOB.out _ e.symm; omega
              have g1 := (HG.out.o w3.heap.size 0 (by rw [h4z]; omega) gn).trans t0
              have g2 := (HG.out.o w3.heap.size 1 (by rw [h4z]; omega) gn).trans t1
              have go : ∀ i, (w6.setCell ⟨w3.heap.size + 1, j, none⟩ v6).cell? ⟨w3.heap.size, i, none⟩ = w6.cell? ⟨w3.heap.size, i, none⟩ := fun i => World.cell?_setCell_other _ _ _ _ (fun e => by injection e with e _ _; omega)
              have k0 := (go 0).trans g1
              have k1 := (go 1).trans g2
              have kk : ∀ i, i < 5 → (w6.setCell ⟨w3.heap.size + 1, j, none⟩ v6).cell? ⟨w3.heap.size + 1, i, none⟩ = some (upd cf (xm, xa) j v6 (xm, xa) i) := fun i hi => by
                unfold upd
                by_cases e : i = j
                · subst e
                  rw [if_pos ⟨rfl, rfl⟩]
                  exact World.cell?_setCell_same' _ _ _ (by rw [g0]; rfl)
                · rw [if_neg (fun e' => e e'.2)]
                  refine (World.cell?_setCell_other _ _ _ _ (fun e' => e (by injection e' with _ e' _; exact e'.symm))).trans ?_
                  have := HG.out.c i
                  rw [h4z] at this
                  rw [this]
                  exact hfive i hi
              have m0 := kk 0 (by omega)
              have m1 := kk 1 (by omega)
              have m2 := kk 2 (by omega)
              have m3 := kk 3 (by omega)
              have m4 := kk 4 (by omega)
              clear go kk gn g1 g2 hown6 hown6' hgr6 hgr6' hat6 HBX hq0 hqf HG HOB HSR HO4 HB4 HB5 HOW HDOM HNF ho8 hfive z5 hu5
              unfold agg5 at hrun
              rw [h4z] at hrun
              generalize upd cf (xm, xa) j v6 (xm, xa) 0 = p0 at *
              generalize upd cf (xm, xa) j v6 (xm, xa) 1 = p1 at *
              generalize upd cf (xm, xa) j v6 (xm, xa) 2 = p2 at *
              generalize upd cf (xm, xa) j v6 (xm, xa) 3 = p3 at *
              generalize upd cf (xm, xa) j v6 (xm, xa) 4 = p4 at *
              rw [hv6] at hrun k0 k1 m0 m1 m2 m3 m4
              clear hv6
              go_wp2_with (at_mapUpdate; go_must (refine wpList_update_run rfl _ _ _ _ rfl rfl rfl rfl hrun ?_))
              go_roundw
              case rel => exact ⟨k + 1, by omega, by go_num, HO8⟩
              case measure => simp [intOf]; omega
          by_cases h15 : (kn : Int) = 15
          · skip
            have b15 : ((kn : Int) == 15) = true := by simpa using h15
            have b6 : ((kn : Int) == 6) = false := by simpa using (show (kn : Int) ≠ 6 by omega)
            have b19 : ((kn : Int) == 19) = false := by simpa using (show (kn : Int) ≠ 19 by omega)
            have hsd : sideE ⟨(kn : Int), xm, xa, xn, xo⟩ = (xm, 0) := by unfold sideE; simp only; rw [if_pos (by omega)]
            have hct : ctr ⟨(kn : Int), xm, xa, xn, xo⟩ = [xn] := by unfold ctr; rw [if_neg (by simpa using (show (kn : Int) ≠ 6 by omega))]
            have HDOM := Lib.hid (side_dom HX.out)
            rw [hsd] at HDOM HNF
            rw [hct] at HNF
            clear hsd hct h6 h15
            have t1 : (w3.alloc (.cells #[.int .i64 xm, .int .i64 0] 60)).cell? ⟨w3.heap.size, 1, none⟩ = some (.int .i64 0) := cell_new _ _ _ 1 rfl
            have t0 : (w3.alloc (.cells #[.int .i64 xm, .int .i64 0] 60)).cell? ⟨w3.heap.size, 0, none⟩ = some (.int .i64 xm) := cell_new _ _ _ 0 rfl
            have z0' : (w3.alloc (.cells #[.int .i64 xm, .int .i64 0] 60)).cell? ⟨bx, 0, none⟩ = some (.int .i64 (kn : Int)) := (cell_old _ _ _ hz3).trans z0
            have HB4 : Hid (Below w3.heap.size w3 (w3.alloc (.cells #[.int .i64 xm, .int .i64 0] 60))) := Lib.hid ((Below.refl _ _).alloc (Nat.le_refl _) _)
            have HO4 := Lib.hid (HO3.out.below HB4.out)
            have hfm : ∀ i, i < 5 → ∃ A c, cf (xm, 0) i = .slice A (colF (l.take k) (xm, 0) i).length c := fun i hi => own_form (HO3.out.g.rows (xm, 0) i hi)
            obtain ⟨A0, c0, s0⟩ := hfm 0 (by omega)
            obtain ⟨A1, c1, s1⟩ := hfm 1 (by omega)
            obtain ⟨A2, c2, s2⟩ := hfm 2 (by omega)
            obtain ⟨A3, c3, s3⟩ := hfm 3 (by omega)
            obtain ⟨A4, c4, s4⟩ := hfm 4 (by omega)
            have HLK : (Instr.lookup 56 (.map (some (w.heap.size + 1 + 1 + 1))) (.agg #[.int .i64 xm, .int .i64 0]) false).run Try.prog (w3.alloc (.cells #[.int .i64 xm, .int .i64 0] 60)) = .ok (.agg #[.slice A0 (colF (l.take k) (xm, 0) 0).length c0, .slice A1 (colF (l.take k) (xm, 0) 1).length c1, .slice A2 (colF (l.take k) (xm, 0) 2).length c2, .slice A3 (colF (l.take k) (xm, 0) 3).length c3, .slice A4 (colF (l.take k) (xm, 0) 4).length c4]) (w3.alloc (.cells #[.int .i64 xm, .int .i64 0] 60)) := by
              have h := HO4.out.g.look HDOM.out
              unfold agg5 at h
              rw [s0, s1, s2, s3, s4] at h
              exact h
            have h4z : (w3.alloc (.cells #[.int .i64 xm, .int .i64 0] 60)).heap.size = w3.heap.size + 1 := by simp
            have hfive : ∀ i, i < 5 → (#[.slice A0 (colF (l.take k) (xm, 0) 0).length c0, .slice A1 (colF (l.take k) (xm, 0) 1).length c1, .slice A2 (colF (l.take k) (xm, 0) 2).length c2, .slice A3 (colF (l.take k) (xm, 0) 3).length c3, .slice A4 (colF (l.take k) (xm, 0) 4).length c4] : Array Value)[i]? = some (cf (xm, 0) i) := fun i hi => by
              obtain rfl | rfl | rfl | rfl | rfl : i = 0 ∨ i = 1 ∨ i = 2 ∨ i = 3 ∨ i = 4 := by omega
              · rw [s0]; rfl
              · rw [s1]; rfl
              · rw [s2]; rfl
              · rw [s3]; rfl
              · rw [s4]; rfl
            have HB5 : Hid (Below (w3.alloc (.cells #[.int .i64 xm, .int .i64 0] 60)).heap.size (w3.alloc (.cells #[.int .i64 xm, .int .i64 0] 60)) ((w3.alloc (.cells #[.int .i64 xm, .int .i64 0] 60)).alloc (.cells #[.slice A0 (colF (l.take k) (xm, 0) 0).length c0, .slice A1 (colF (l.take k) (xm, 0) 1).length c1, .slice A2 (colF (l.take k) (xm, 0) 2).length c2, .slice A3 (colF (l.take k) (xm, 0) 3).length c3, .slice A4 (colF (l.take k) (xm, 0) 4).length c4] 62))) := Lib.hid ((Below.refl _ _).alloc (Nat.le_refl _) _)
            have z5 : ((w3.alloc (.cells #[.int .i64 xm, .int .i64 0] 60)).alloc (.cells #[.slice A0 (colF (l.take k) (xm, 0) 0).length c0, .slice A1 (colF (l.take k) (xm, 0) 1).length c1, .slice A2 (colF (l.take k) (xm, 0) 2).length c2, .slice A3 (colF (l.take k) (xm, 0) 3).length c3, .slice A4 (colF (l.take k) (xm, 0) 4).length c4] 62)).cell? ⟨bx, 0, none⟩ = some (.int .i64 (kn : Int)) := (cell_old _ _ _ (by rw [h4z]; omega)).trans z0'
            obtain ⟨Aj, cj, sj⟩ := hfm j hj5
            have hu5 : ((w3.alloc (.cells #[.int .i64 xm, .int .i64 0] 60)).alloc (.cells #[.slice A0 (colF (l.take k) (xm, 0) 0).length c0, .slice A1 (colF (l.take k) (xm, 0) 1).length c1, .slice A2 (colF (l.take k) (xm, 0) 2).length c2, .slice A3 (colF (l.take k) (xm, 0) 3).length c3, .slice A4 (colF (l.take k) (xm, 0) 4).length c4] 62)).cell? ⟨w3.heap.size + 1, j, none⟩ = some (.slice Aj (colF (l.take k) (xm, 0) j).length cj) := by rw [cell_new _ _ _ _ h4z.symm, hfive j hj5, sj]
            have HOW : Hid (((w3.alloc (.cells #[.int .i64 xm, .int .i64 0] 60)).alloc (.cells #[.slice A0 (colF (l.take k) (xm, 0) 0).length c0, .slice A1 (colF (l.take k) (xm, 0) 1).length c1, .slice A2 (colF (l.take k) (xm, 0) 2).length c2, .slice A3 (colF (l.take k) (xm, 0) 3).length c3, .slice A4 (colF (l.take k) (xm, 0) 4).length c4] 62)).ownsRow (w.heap.size + 4) 2 1 (.slice Aj (colF (l.take k) (xm, 0) j).length cj) (colF (l.take k) (xm, 0) j).length ((colF (l.take k) (xm, 0) j).map (Value.int .i64))) := Lib.hid (by rw [← sj]; exact own_below (HO4.out.g.rows (xm, 0) j hj5) HB5.out)
            have hnj := HCI.out (xm, 0) j
            have hj0 : (0 : Int) ≤ (j : Int) := by omega
            have hjb : (j : Int) < 5 := by omega
            have hs4 : w.heap.size + 4 ≤ w3.heap.size := HO3.out.sz
            have HOB : Hid (∀ g, (cf (xm, 0) j).ownBlock = some g → g < w3.heap.size) := Lib.hid fun g hg => ((HO3.out.g.rows (xm, 0) j hj5).lt g hg).2
            have HSR : Hid (∀ i, i < 5 → ∃ A c, cf (xm, 0) i = .slice A (colF (l.take k) (xm, 0) i).length c) := Lib.hid hfm
            clear hfm s0 s1 s2 s3 s4
            generalize (colF (l.take k) (xm, 0) 0).length = n0 at *
            generalize (colF (l.take k) (xm, 0) 1).length = n1 at *
            generalize (colF (l.take k) (xm, 0) 2).length = n2 at *
            generalize (colF (l.take k) (xm, 0) 3).length = n3 at *
            generalize (colF (l.take k) (xm, 0) 4).length = n4 at *
            obtain ⟨i0, hi0, hz0, hz1', hz2⟩ := info_parts i64_infoC
            go_wp2_with (at_builtin; go_must (refine wpList_append_own_at _ rfl _ _ 45 rfl (w.heap.size + 4) 2 i0 _ 1 8 Try.underlying45 hi0 hz0 hz1' hz2 rfl (by decide) _ (colF (l.take k) (xm, 0) j).length ((colF (l.take k) (xm, 0) j).map (Value.int .i64)) rfl (HOW.out.alloc _) ⟨w3.heap.size + 1 + 1, 0, none⟩ 1 1 [.int .i64 xn] rfl rfl (new_cells _ _ #[_] (by simp)) one_int (by simp only [maxLen]; omega) (by omega) (by simp; omega) ?_))
            intro v' w6 hown6 hgr6 _ hat6
            obtain ⟨A', c', rfl⟩ := own_form hown6
            have hgr6' : (((w3.alloc (.cells #[.int .i64 xm, .int .i64 0] 60)).alloc (.cells #[.slice A0 n0 c0, .slice A1 n1 c1, .slice A2 n2 c2, .slice A3 n3 c3, .slice A4 n4 c4] 62)).alloc (.cells #[.int .i64 xn] 2)).grownBy w6 (cf (xm, 0) j).ownBlock := by rw [sj]; exact hgr6
            have HAB : Hid (Below ((w3.alloc (.cells #[.int .i64 xm, .int .i64 0] 60)).alloc (.cells #[.slice A0 n0 c0, .slice A1 n1 c1, .slice A2 n2 c2, .slice A3 n3 c3, .slice A4 n4 c4] 62)).heap.size ((w3.alloc (.cells #[.int .i64 xm, .int .i64 0] 60)).alloc (.cells #[.slice A0 n0 c0, .slice A1 n1 c1, .slice A2 n2 c2, .slice A3 n3 c3, .slice A4 n4 c4] 62)) (((w3.alloc (.cells #[.int .i64 xm, .int .i64 0] 60)).alloc (.cells #[.slice A0 n0 c0, .slice A1 n1 c1, .slice A2 n2 c2, .slice A3 n3 c3, .slice A4 n4 c4] 62)).alloc (.cells #[.int .i64 xn] 2))) := Lib.hid ((Below.refl _ _).alloc (Nat.le_refl _) _)
            have HG := Lib.hid (HO4.out.grown hj5 rfl HAB.out hgr6')
            have hown6' : w6.ownsRow (w.heap.size + 4) 2 1 (.slice A' ((colF (l.take k) (xm, 0) j).length + 1) c') ((colF (l.take k) (xm, 0) j) ++ [xn]).length (((colF (l.take k) (xm, 0) j) ++ [xn]).map (Value.int .i64)) := by rw [List.length_append, List.map_append]; exact hown6
            obtain ⟨w8, hrun, ho8⟩ := HO4.out.step HDOM.out hj5 rfl HAB.out hgr6' hown6' (by rw [sj]; refine hat6.imp id fun e => ?_; rw [e]; simp)
            obtain ⟨v6, hv6⟩ : ∃ v6, v6 = Value.slice (A') ((colF (l.take k) (xm, 0) j).length + 1) c' := ⟨_, rfl⟩
            rw [← hv6] at hrun ho8
            have HO8 : Hid (∃ m' cf', OfI w (fun j => manyE (l.take (k + 1)) j) (colF (l.take (k + 1))) (k + 1) m' cf' w8) := Lib.hid ⟨_, _, by rw [HNF.out]; exact ho8⟩
            have g0 : w6.cell? ⟨w3.heap.size + 1, j, none⟩ = some (cf (xm, 0) j) := by have := HG.out.c j; rw [h4z] at this; rw [this]; exact hfive j hj5
            rw [sj] at g0
            have gf : ∀ i, w6.frozen? ⟨w3.heap.size + 1, i, none⟩ = false := fun i => by have := HG.out.f i; rwa [h4z] at this
            have gn : some w3.heap.size ≠ (cf (xm, 0) j).ownBlock := fun e => by have := HOB.out _ e.symm; omega
            have g1 := (HG.out.o w3.heap.size 0 (by rw [h4z]; omega) gn).trans t0
            have g2 := (HG.out.o w3.heap.size 1 (by rw [h4z]; omega) gn).trans t1
            have go : ∀ i, (w6.setCell ⟨w3.heap.size + 1, j, none⟩ v6).cell? ⟨w3.heap.size, i, none⟩ = w6.cell? ⟨w3.heap.size, i, none⟩ := fun i => World.cell?_setCell_other _ _ _ _ (fun e => by injection e with e _ _; omega)
            have k0 := (go 0).trans g1
            have k1 := (go 1).trans g2
            have kk : ∀ i, i < 5 → (w6.setCell ⟨w3.heap.size + 1, j, none⟩ v6).cell? ⟨w3.heap.size + 1, i, none⟩ = some (upd cf (xm, 0) j v6 (xm, 0) i) := fun i hi => by
              unfold upd
              by_cases e : i = j
              · subst e
                rw [if_pos ⟨rfl, rfl⟩]
                exact World.cell?_setCell_same' _ _ _ (by rw [g0]; rfl)
              · rw [if_neg (fun e' => e e'.2)]
                refine (World.cell?_setCell_other _ _ _ _ (fun e' => e (by injection e' with _ e' _; exact e'.symm))).trans ?_
                have := HG.out.c i
                rw [h4z] at this
                rw [this]
                exact hfive i hi
            have m0 := kk 0 (by omega)
            have m1 := kk 1 (by omega)
            have m2 := kk 2 (by omega)
            have m3 := kk 3 (by omega)
            have m4 := kk 4 (by omega)
            clear go kk gn g1 g2 hown6 hown6' hgr6 hgr6' hat6 HAB HG HOB HSR HO4 HB4 HB5 HOW HDOM HNF ho8 hfive z5 hu5
            unfold agg5 at hrun
            rw [h4z] at hrun
            generalize upd cf (xm, 0) j v6 (xm, 0) 0 = p0 at *
            generalize upd cf (xm, 0) j v6 (xm, 0) 1 = p1 at *
            generalize upd cf (xm, 0) j v6 (xm, 0) 2 = p2 at *
            generalize upd cf (xm, 0) j v6 (xm, 0) 3 = p3 at *
            generalize upd cf (xm, 0) j v6 (xm, 0) 4 = p4 at *
            rw [hv6] at hrun k0 k1 m0 m1 m2 m3 m4
            clear hv6
            go_wp2_with (at_mapUpdate; go_must (refine wpList_update_run rfl _ _ _ _ rfl rfl rfl rfl hrun ?_))
            go_roundw
            case rel => exact ⟨k + 1, by omega, by go_num, HO8⟩
            case measure => simp [intOf]; omega
          by_cases h19 : (kn : Int) = 19
          · skip
            have b19 : ((kn : Int) == 19) = true := by simpa using h19
            have b6 : ((kn : Int) == 6) = false := by simpa using (show (kn : Int) ≠ 6 by omega)
            have b15 : ((kn : Int) == 15) = false := by simpa using (show (kn : Int) ≠ 15 by omega)
            have hsd : sideE ⟨(kn : Int), xm, xa, xn, xo⟩ = (xm, 0) := by unfold sideE; simp only; rw [if_pos (by omega)]
            have hct : ctr ⟨(kn : Int), xm, xa, xn, xo⟩ = [xn] := by unfold ctr; rw [if_neg (by simpa using (show (kn : Int) ≠ 6 by omega))]
            have HDOM := Lib.hid (side_dom HX.out)
            rw [hsd] at HDOM HNF
            rw [hct] at HNF
            clear hsd hct h6 h15 h19
            have t1 : (w3.alloc (.cells #[.int .i64 xm, .int .i64 0] 60)).cell? ⟨w3.heap.size, 1, none⟩ = some (.int .i64 0) := cell_new _ _ _ 1 rfl
            have t0 : (w3.alloc (.cells #[.int .i64 xm, .int .i64 0] 60)).cell? ⟨w3.heap.size, 0, none⟩ = some (.int .i64 xm) := cell_new _ _ _ 0 rfl
            have z0' : (w3.alloc (.cells #[.int .i64 xm, .int .i64 0] 60)).cell? ⟨bx, 0, none⟩ = some (.int .i64 (kn : Int)) := (cell_old _ _ _ hz3).trans z0
            have HB4 : Hid (Below w3.heap.size w3 (w3.alloc (.cells #[.int .i64 xm, .int .i64 0] 60))) := Lib.hid ((Below.refl _ _).alloc (Nat.le_refl _) _)
            have HO4 := Lib.hid (HO3.out.below HB4.out)
            have hfm : ∀ i, i < 5 → ∃ A c, cf (xm, 0) i = .slice A (colF (l.take k) (xm, 0) i).length c := fun i hi => own_form (HO3.out.g.rows (xm, 0) i hi)
            obtain ⟨A0, c0, s0⟩ := hfm 0 (by omega)
            obtain ⟨A1, c1, s1⟩ := hfm 1 (by omega)
            obtain ⟨A2, c2, s2⟩ := hfm 2 (by omega)
            obtain ⟨A3, c3, s3⟩ := hfm 3 (by omega)
            obtain ⟨A4, c4, s4⟩ := hfm 4 (by omega)
            have HLK : (Instr.lookup 56 (.map (some (w.heap.size + 1 + 1 + 1))) (.agg #[.int .i64 xm, .int .i64 0]) false).run Try.prog (w3.alloc (.cells #[.int .i64 xm, .int .i64 0] 60)) = .ok (.agg #[.slice A0 (colF (l.take k) (xm, 0) 0).length c0, .slice A1 (colF (l.take k) (xm, 0) 1).length c1, .slice A2 (colF (l.take k) (xm, 0) 2).length c2, .slice A3 (colF (l.take k) (xm, 0) 3).length c3, .slice A4 (colF (l.take k) (xm, 0) 4).length c4]) (w3.alloc (.cells #[.int .i64 xm, .int .i64 0] 60)) := by
              have h := HO4.out.g.look HDOM.out
              unfold agg5 at h
              rw [s0, s1, s2, s3, s4] at h
              exact h
            have h4z : (w3.alloc (.cells #[.int .i64 xm, .int .i64 0] 60)).heap.size = w3.heap.size + 1 := by simp
            have hfive : ∀ i, i < 5 → (#[.slice A0 (colF (l.take k) (xm, 0) 0).length c0, .slice A1 (colF (l.take k) (xm, 0) 1).length c1, .slice A2 (colF (l.take k) (xm, 0) 2).length c2, .slice A3 (colF (l.take k) (xm, 0) 3).length c3, .slice A4 (colF (l.take k) (xm, 0) 4).length c4] : Array Value)[i]? = some (cf (xm, 0) i) := fun i hi => by
              obtain rfl | rfl | rfl | rfl | rfl : i = 0 ∨ i = 1 ∨ i = 2 ∨ i = 3 ∨ i = 4 := by omega
              · rw [s0]; rfl
              · rw [s1]; rfl
              · rw [s2]; rfl
              · rw [s3]; rfl
              · rw [s4]; rfl
            have HB5 : Hid (Below (w3.alloc (.cells #[.int .i64 xm, .int .i64 0] 60)).heap.size (w3.alloc (.cells #[.int .i64 xm, .int .i64 0] 60)) ((w3.alloc (.cells #[.int .i64 xm, .int .i64 0] 60)).alloc (.cells #[.slice A0 (colF (l.take k) (xm, 0) 0).length c0, .slice A1 (colF (l.take k) (xm, 0) 1).length c1, .slice A2 (colF (l.take k) (xm, 0) 2).length c2, .slice A3 (colF (l.take k) (xm, 0) 3).length c3, .slice A4 (colF (l.take k) (xm, 0) 4).length c4] 62))) := Lib.hid ((Below.refl _ _).alloc (Nat.le_refl _) _)
            have z5 : ((w3.alloc (.cells #[.int .i64 xm, .int .i64 0] 60)).alloc (.cells #[.slice A0 (colF (l.take k) (xm, 0) 0).length c0, .slice A1 (colF (l.take k) (xm, 0) 1).length c1, .slice A2 (colF (l.take k) (xm, 0) 2).length c2, .slice A3 (colF (l.take k) (xm, 0) 3).length c3, .slice A4 (colF (l.take k) (xm, 0) 4).length c4] 62)).cell? ⟨bx, 0, none⟩ = some (.int .i64 (kn : Int)) := (cell_old _ _ _ (by rw [h4z]; omega)).trans z0'
            obtain ⟨Aj, cj, sj⟩ := hfm j hj5
            have hu5 : ((w3.alloc (.cells #[.int .i64 xm, .int .i64 0] 60)).alloc (.cells #[.slice A0 (colF (l.take k) (xm, 0) 0).length c0, .slice A1 (colF (l.take k) (xm, 0) 1).length c1, .slice A2 (colF (l.take k) (xm, 0) 2).length c2, .slice A3 (colF (l.take k) (xm, 0) 3).length c3, .slice A4 (colF (l.take k) (xm, 0) 4).length c4] 62)).cell? ⟨w3.heap.size + 1, j, none⟩ = some (.slice Aj (colF (l.take k) (xm, 0) j).length cj) := by rw [cell_new _ _ _ _ h4z.symm, hfive j hj5, sj]
            have HOW : Hid (((w3.alloc (.cells #[.int .i64 xm, .int .i64 0] 60)).alloc (.cells #[.slice A0 (colF (l.take k) (xm, 0) 0).length c0, .slice A1 (colF (l.take k) (xm, 0) 1).length c1, .slice A2 (colF (l.take k) (xm, 0) 2).length c2, .slice A3 (colF (l.take k) (xm, 0) 3).length c3, .slice A4 (colF (l.take k) (xm, 0) 4).length c4] 62)).ownsRow (w.heap.size + 4) 2 1 (.slice Aj (colF (l.take k) (xm, 0) j).length cj) (colF (l.take k) (xm, 0) j).length ((colF (l.take k) (xm, 0) j).map (Value.int .i64))) := Lib.hid (by rw [← sj]; exact own_below (HO4.out.g.rows (xm, 0) j hj5) HB5.out)
            have hnj := HCI.out (xm, 0) j
            have hj0 : (0 : Int) ≤ (j : Int) := by omega
            have hjb : (j : Int) < 5 := by omega
            have hs4 : w.heap.size + 4 ≤ w3.heap.size := HO3.out.sz
            have HOB : Hid (∀ g, (cf (xm, 0) j).ownBlock = some g → g < w3.heap.size) := Lib.hid fun g hg => ((HO3.out.g.rows (xm, 0) j hj5).lt g hg).2
            have HSR : Hid (∀ i, i < 5 → ∃ A c, cf (xm, 0) i = .slice A (colF (l.take k) (xm, 0) i).length c) := Lib.hid hfm
            clear hfm s0 s1 s2 s3 s4
            generalize (colF (l.take k) (xm, 0) 0).length = n0 at *
            generalize (colF (l.take k) (xm, 0) 1).length = n1 at *
            generalize (colF (l.take k) (xm, 0) 2).length = n2 at *
            generalize (colF (l.take k) (xm, 0) 3).length = n3 at *
            generalize (colF (l.take k) (xm, 0) 4).length = n4 at *
            obtain ⟨i0, hi0, hz0, hz1', hz2⟩ := info_parts i64_infoC
            go_wp2_with (at_builtin; go_must (refine wpList_append_own_at _ rfl _ _ 45 rfl (w.heap.size + 4) 2 i0 _ 1 8 Try.underlying45 hi0 hz0 hz1' hz2 rfl (by decide) _ (colF (l.take k) (xm, 0) j).length ((colF (l.take k) (xm, 0) j).map (Value.int .i64)) rfl (HOW.out.alloc _) ⟨w3.heap.size + 1 + 1, 0, none⟩ 1 1 [.int .i64 xn] rfl rfl (new_cells _ _ #[_] (by simp)) one_int (by simp only [maxLen]; omega) (by omega) (by simp; omega) ?_))
            intro v' w6 hown6 hgr6 _ hat6
            obtain ⟨A', c', rfl⟩ := own_form hown6
            have hgr6' : (((w3.alloc (.cells #[.int .i64 xm, .int .i64 0] 60)).alloc (.cells #[.slice A0 n0 c0, .slice A1 n1 c1, .slice A2 n2 c2, .slice A3 n3 c3, .slice A4 n4 c4] 62)).alloc (.cells #[.int .i64 xn] 2)).grownBy w6 (cf (xm, 0) j).ownBlock := by rw [sj]; exact hgr6
            have HAB : Hid (Below ((w3.alloc (.cells #[.int .i64 xm, .int .i64 0] 60)).alloc (.cells #[.slice A0 n0 c0, .slice A1 n1 c1, .slice A2 n2 c2, .slice A3 n3 c3, .slice A4 n4 c4] 62)).heap.size ((w3.alloc (.cells #[.int .i64 xm, .int .i64 0] 60)).alloc (.cells #[.slice A0 n0 c0, .slice A1 n1 c1, .slice A2 n2 c2, .slice A3 n3 c3, .slice A4 n4 c4] 62)) (((w3.alloc (.cells #[.int .i64 xm, .int .i64 0] 60)).alloc (.cells #[.slice A0 n0 c0, .slice A1 n1 c1, .slice A2 n2 c2, .slice A3 n3 c3, .slice A4 n4 c4] 62)).alloc (.cells #[.int .i64 xn] 2))) := Lib.hid ((Below.refl _ _).alloc (Nat.le_refl _) _)
            have HG := Lib.hid (HO4.out.grown hj5 rfl HAB.out hgr6')
            have hown6' : w6.ownsRow (w.heap.size + 4) 2 1 (.slice A' ((colF (l.take k) (xm, 0) j).length + 1) c') ((colF (l.take k) (xm, 0) j) ++ [xn]).length (((colF (l.take k) (xm, 0) j) ++ [xn]).map (Value.int .i64)) := by rw [List.length_append, List.map_append]; exact hown6
            obtain ⟨w8, hrun, ho8⟩ := HO4.out.step HDOM.out hj5 rfl HAB.out hgr6' hown6' (by rw [sj]; refine hat6.imp id fun e => ?_; rw [e]; simp)
            obtain ⟨v6, hv6⟩ : ∃ v6, v6 = Value.slice (A') ((colF (l.take k) (xm, 0) j).length + 1) c' := ⟨_, rfl⟩
            rw [← hv6] at hrun ho8
            have HO8 : Hid (∃ m' cf', OfI w (fun j => manyE (l.take (k + 1)) j) (colF (l.take (k + 1))) (k + 1) m' cf' w8) := Lib.hid ⟨_, _, by rw [HNF.out]; exact ho8⟩
            have g0 : w6.cell? ⟨w3.heap.size + 1, j, none⟩ = some (cf (xm, 0) j) := by have := HG.out.c j; rw [h4z] at this; rw [this]; exact hfive j hj5
            rw [sj] at g0
            have gf : ∀ i, w6.frozen? ⟨w3.heap.size + 1, i, none⟩ = false := fun i => by have := HG.out.f i; rwa [h4z] at this
            have gn : some w3.heap.size ≠ (cf (xm, 0) j).ownBlock := fun e => by have := HOB.out _ e.symm; omega
            have g1 := (HG.out.o w3.heap.size 0 (by rw [h4z]; omega) gn).trans t0
            have g2 := (HG.out.o w3.heap.size 1 (by rw [h4z]; omega) gn).trans t1
            have go : ∀ i, (w6.setCell ⟨w3.heap.size + 1, j, none⟩ v6).cell? ⟨w3.heap.size, i, none⟩ = w6.cell? ⟨w3.heap.size, i, none⟩ := fun i => World.cell?_setCell_other _ _ _ _ (fun e => by injection e with e _ _; omega)
            have k0 := (go 0).trans g1
            have k1 := (go 1).trans g2
            have kk : ∀ i, i < 5 → (w6.setCell ⟨w3.heap.size + 1, j, none⟩ v6).cell? ⟨w3.heap.size + 1, i, none⟩ = some (upd cf (xm, 0) j v6 (xm, 0) i) := fun i hi => by
              unfold upd
              by_cases e : i = j
              · subst e
                rw [if_pos ⟨rfl, rfl⟩]
                exact World.cell?_setCell_same' _ _ _ (by rw [g0]; rfl)
              · rw [if_neg (fun e' => e e'.2)]
                refine (World.cell?_setCell_other _ _ _ _ (fun e' => e (by injection e' with _ e' _; exact e'.symm))).trans ?_
                have := HG.out.c i
                rw [h4z] at this
                rw [this]
                exact hfive i hi
            have m0 := kk 0 (by omega)
            have m1 := kk 1 (by omega)
            have m2 := kk 2 (by omega)
            have m3 := kk 3 (by omega)
            have m4 := kk 4 (by omega)
            clear go kk gn g1 g2 hown6 hown6' hgr6 hgr6' hat6 HAB HG HOB HSR HO4 HB4 HB5 HOW HDOM HNF ho8 hfive z5 hu5
            unfold agg5 at hrun
            rw [h4z] at hrun
            generalize upd cf (xm, 0) j v6 (xm, 0) 0 = p0 at *
            generalize upd cf (xm, 0) j v6 (xm, 0) 1 = p1 at *
            generalize upd cf (xm, 0) j v6 (xm, 0) 2 = p2 at *
            generalize upd cf (xm, 0) j v6 (xm, 0) 3 = p3 at *
            generalize upd cf (xm, 0) j v6 (xm, 0) 4 = p4 at *
            rw [hv6] at hrun k0 k1 m0 m1 m2 m3 m4
            clear hv6
            go_wp2_with (at_mapUpdate; go_must (refine wpList_update_run rfl _ _ _ _ rfl rfl rfl rfl hrun ?_))
            go_roundw
            case rel => exact ⟨k + 1, by omega, by go_num, HO8⟩
            case measure => simp [intOf]; omega
          have b6 : ((kn : Int) == 6) = false := by simpa using (show (kn : Int) ≠ 6 by omega)
          have b15 : ((kn : Int) == 15) = false := by simpa using (show (kn : Int) ≠ 15 by omega)
          have b19 : ((kn : Int) == 19) = false := by simpa using (show (kn : Int) ≠ 19 by omega)
          have hsd : sideE ⟨(kn : Int), xm, xa, xn, xo⟩ = (xm, xa) := by unfold sideE; simp only; rw [if_neg (by omega)]
          have hct : ctr ⟨(kn : Int), xm, xa, xn, xo⟩ = [xn] := by unfold ctr; rw [if_neg (by simpa using (show (kn : Int) ≠ 6 by omega))]
          have HDOM := Lib.hid (side_dom HX.out)
          rw [hsd] at HDOM HNF
          rw [hct] at HNF
          clear hsd hct h6 h15 h19
          have t1 : (w3.alloc (.cells #[.int .i64 xm, .int .i64 xa] 60)).cell? ⟨w3.heap.size, 1, none⟩ = some (.int .i64 xa) := cell_new _ _ _ 1 rfl
          have t0 : (w3.alloc (.cells #[.int .i64 xm, .int .i64 xa] 60)).cell? ⟨w3.heap.size, 0, none⟩ = some (.int .i64 xm) := cell_new _ _ _ 0 rfl
          have z0' : (w3.alloc (.cells #[.int .i64 xm, .int .i64 xa] 60)).cell? ⟨bx, 0, none⟩ = some (.int .i64 (kn : Int)) := (cell_old _ _ _ hz3).trans z0
          have HB4 : Hid (Below w3.heap.size w3 (w3.alloc (.cells #[.int .i64 xm, .int .i64 xa] 60))) := Lib.hid ((Below.refl _ _).alloc (Nat.le_refl _) _)
          have HO4 := Lib.hid (HO3.out.below HB4.out)
          have hfm : ∀ i, i < 5 → ∃ A c, cf (xm, xa) i = .slice A (colF (l.take k) (xm, xa) i).length c := fun i hi => own_form (HO3.out.g.rows (xm, xa) i hi)
          obtain ⟨A0, c0, s0⟩ := hfm 0 (by omega)
          obtain ⟨A1, c1, s1⟩ := hfm 1 (by omega)
          obtain ⟨A2, c2, s2⟩ := hfm 2 (by omega)
          obtain ⟨A3, c3, s3⟩ := hfm 3 (by omega)
          obtain ⟨A4, c4, s4⟩ := hfm 4 (by omega)
          have HLK : (Instr.lookup 56 (.map (some (w.heap.size + 1 + 1 + 1))) (.agg #[.int .i64 xm, .int .i64 xa]) false).run Try.prog (w3.alloc (.cells #[.int .i64 xm, .int .i64 xa] 60)) = .ok (.agg #[.slice A0 (colF (l.take k) (xm, xa) 0).length c0, .slice A1 (colF (l.take k) (xm, xa) 1).length c1, .slice A2 (colF (l.take k) (xm, xa) 2).length c2, .slice A3 (colF (l.take k) (xm, xa) 3).length c3, .slice A4 (colF (l.take k) (xm, xa) 4).length c4]) (w3.alloc (.cells #[.int .i64 xm, .int .i64 xa] 60)) := by
            have h := HO4.out.g.look HDOM.out
            unfold agg5 at h
            rw [s0, s1, s2, s3, s4] at h
            exact h
          have h4z : (w3.alloc (.cells #[.int .i64 xm, .int .i64 xa] 60)).heap.size = w3.heap.size + 1 := by simp
          have hfive : ∀ i, i < 5 → (#[.slice A0 (colF (l.take k) (xm, xa) 0).length c0, .slice A1 (colF (l.take k) (xm, xa) 1).length c1, .slice A2 (colF (l.take k) (xm, xa) 2).length c2, .slice A3 (colF (l.take k) (xm, xa) 3).length c3, .slice A4 (colF (l.take k) (xm, xa) 4).length c4] : Array Value)[i]? = some (cf (xm, xa) i) := fun i hi => by
            obtain rfl | rfl | rfl | rfl | rfl : i = 0 ∨ i = 1 ∨ i = 2 ∨ i = 3 ∨ i = 4 := by omega
            · rw [s0]; rfl
            · rw [s1]; rfl
            · rw [s2]; rfl
            · rw [s3]; rfl
            · rw [s4]; rfl
          have HB5 : Hid (Below (w3.alloc (.cells #[.int .i64 xm, .int .i64 xa] 60)).heap.size (w3.alloc (.cells #[.int .i64 xm, .int .i64 xa] 60)) ((w3.alloc (.cells #[.int .i64 xm, .int .i64 xa] 60)).alloc (.cells #[.slice A0 (colF (l.take k) (xm, xa) 0).length c0, .slice A1 (colF (l.take k) (xm, xa) 1).length c1, .slice A2 (colF (l.take k) (xm, xa) 2).length c2, .slice A3 (colF (l.take k) (xm, xa) 3).length c3, .slice A4 (colF (l.take k) (xm, xa) 4).length c4] 62))) := Lib.hid ((Below.refl _ _).alloc (Nat.le_refl _) _)
          have z5 : ((w3.alloc (.cells #[.int .i64 xm, .int .i64 xa] 60)).alloc (.cells #[.slice A0 (colF (l.take k) (xm, xa) 0).length c0, .slice A1 (colF (l.take k) (xm, xa) 1).length c1, .slice A2 (colF (l.take k) (xm, xa) 2).length c2, .slice A3 (colF (l.take k) (xm, xa) 3).length c3, .slice A4 (colF (l.take k) (xm, xa) 4).length c4] 62)).cell? ⟨bx, 0, none⟩ = some (.int .i64 (kn : Int)) := (cell_old _ _ _ (by rw [h4z]; omega)).trans z0'
          obtain ⟨Aj, cj, sj⟩ := hfm j hj5
          have hu5 : ((w3.alloc (.cells #[.int .i64 xm, .int .i64 xa] 60)).alloc (.cells #[.slice A0 (colF (l.take k) (xm, xa) 0).length c0, .slice A1 (colF (l.take k) (xm, xa) 1).length c1, .slice A2 (colF (l.take k) (xm, xa) 2).length c2, .slice A3 (colF (l.take k) (xm, xa) 3).length c3, .slice A4 (colF (l.take k) (xm, xa) 4).length c4] 62)).cell? ⟨w3.heap.size + 1, j, none⟩ = some (.slice Aj (colF (l.take k) (xm, xa) j).length cj) := by rw [cell_new _ _ _ _ h4z.symm, hfive j hj5, sj]
          have HOW : Hid (((w3.alloc (.cells #[.int .i64 xm, .int .i64 xa] 60)).alloc (.cells #[.slice A0 (colF (l.take k) (xm, xa) 0).length c0, .slice A1 (colF (l.take k) (xm, xa) 1).length c1, .slice A2 (colF (l.take k) (xm, xa) 2).length c2, .slice A3 (colF (l.take k) (xm, xa) 3).length c3, .slice A4 (colF (l.take k) (xm, xa) 4).length c4] 62)).ownsRow (w.heap.size + 4) 2 1 (.slice Aj (colF (l.take k) (xm, xa) j).length cj) (colF (l.take k) (xm, xa) j).length ((colF (l.take k) (xm, xa) j).map (Value.int .i64))) := Lib.hid (by rw [← sj]; exact own_below (HO4.out.g.rows (xm, xa) j hj5) HB5.out)
          have hnj := HCI.out (xm, xa) j
          have hj0 : (0 : Int) ≤ (j : Int) := by omega
          have hjb : (j : Int) < 5 := by omega
          have hs4 : w.heap.size + 4 ≤ w3.heap.size := HO3.out.sz
          have HOB : Hid (∀ g, (cf (xm, xa) j).ownBlock = some g → g < w3.heap.size) := Lib.hid fun g hg => ((HO3.out.g.rows (xm, xa) j hj5).lt g hg).2
          have HSR : Hid (∀ i, i < 5 → ∃ A c, cf (xm, xa) i = .slice A (colF (l.take k) (xm, xa) i).length c) := Lib.hid hfm
          clear hfm s0 s1 s2 s3 s4
          generalize (colF (l.take k) (xm, xa) 0).length = n0 at *
          generalize (colF (l.take k) (xm, xa) 1).length = n1 at *
          generalize (colF (l.take k) (xm, xa) 2).length = n2 at *
          generalize (colF (l.take k) (xm, xa) 3).length = n3 at *
          generalize (colF (l.take k) (xm, xa) 4).length = n4 at *
          obtain ⟨i0, hi0, hz0, hz1', hz2⟩ := info_parts i64_infoC
          go_wp2_with (at_builtin; go_must (refine wpList_append_own_at _ rfl _ _ 45 rfl (w.heap.size + 4) 2 i0 _ 1 8 Try.underlying45 hi0 hz0 hz1' hz2 rfl (by decide) _ (colF (l.take k) (xm, xa) j).length ((colF (l.take k) (xm, xa) j).map (Value.int .i64)) rfl (HOW.out.alloc _) ⟨w3.heap.size + 1 + 1, 0, none⟩ 1 1 [.int .i64 xn] rfl rfl (new_cells _ _ #[_] (by simp)) one_int (by simp only [maxLen]; omega) (by omega) (by simp; omega) ?_))
          intro v' w6 hown6 hgr6 _ hat6
          obtain ⟨A', c', rfl⟩ := own_form hown6
          have hgr6' : (((w3.alloc (.cells #[.int .i64 xm, .int .i64 xa] 60)).alloc (.cells #[.slice A0 n0 c0, .slice A1 n1 c1, .slice A2 n2 c2, .slice A3 n3 c3, .slice A4 n4 c4] 62)).alloc (.cells #[.int .i64 xn] 2)).grownBy w6 (cf (xm, xa) j).ownBlock := by rw [sj]; exact hgr6
          have HAB : Hid (Below ((w3.alloc (.cells #[.int .i64 xm, .int .i64 xa] 60)).alloc (.cells #[.slice A0 n0 c0, .slice A1 n1 c1, .slice A2 n2 c2, .slice A3 n3 c3, .slice A4 n4 c4] 62)).heap.size ((w3.alloc (.cells #[.int .i64 xm, .int .i64 xa] 60)).alloc (.cells #[.slice A0 n0 c0, .slice A1 n1 c1, .slice A2 n2 c2, .slice A3 n3 c3, .slice A4 n4 c4] 62)) (((w3.alloc (.cells #[.int .i64 xm, .int .i64 xa] 60)).alloc (.cells #[.slice A0 n0 c0, .slice A1 n1 c1, .slice A2 n2 c2, .slice A3 n3 c3, .slice A4 n4 c4] 62)).alloc (.cells #[.int .i64 xn] 2))) := Lib.hid ((Below.refl _ _).alloc (Nat.le_refl _) _)
          have HG := Lib.hid (HO4.out.grown hj5 rfl HAB.out hgr6')
          have hown6' : w6.ownsRow (w.heap.size + 4) 2 1 (.slice A' ((colF (l.take k) (xm, xa) j).length + 1) c') ((colF (l.take k) (xm, xa) j) ++ [xn]).length (((colF (l.take k) (xm, xa) j) ++ [xn]).map (Value.int .i64)) := by rw [List.length_append, List.map_append]; exact hown6
          obtain ⟨w8, hrun, ho8⟩ := HO4.out.step HDOM.out hj5 rfl HAB.out hgr6' hown6' (by rw [sj]; refine hat6.imp id fun e => ?_; rw [e]; simp)
          obtain ⟨v6, hv6⟩ : ∃ v6, v6 = Value.slice (A') ((colF (l.take k) (xm, xa) j).length + 1) c' := ⟨_, rfl⟩
          rw [← hv6] at hrun ho8
          have HO8 : Hid (∃ m' cf', OfI w (fun j => manyE (l.take (k + 1)) j) (colF (l.take (k + 1))) (k + 1) m' cf' w8) := Lib.hid ⟨_, _, by rw [HNF.out]; exact ho8⟩
          have g0 : w6.cell? ⟨w3.heap.size + 1, j, none⟩ = some (cf (xm, xa) j) := by have := HG.out.c j; rw [h4z] at this; rw [this]; exact hfive j hj5
          rw [sj] at g0
          have gf : ∀ i, w6.frozen? ⟨w3.heap.size + 1, i, none⟩ = false := fun i => by have := HG.out.f i; rwa [h4z] at this
          have gn : some w3.heap.size ≠ (cf (xm, xa) j).ownBlock := fun e => by have := HOB.out _ e.symm; omega
          have g1 := (HG.out.o w3.heap.size 0 (by rw [h4z]; omega) gn).trans t0
          have g2 := (HG.out.o w3.heap.size 1 (by rw [h4z]; omega) gn).trans t1
          have go : ∀ i, (w6.setCell ⟨w3.heap.size + 1, j, none⟩ v6).cell? ⟨w3.heap.size, i, none⟩ = w6.cell? ⟨w3.heap.size, i, none⟩ := fun i => World.cell?_setCell_other _ _ _ _ (fun e => by injection e with e _ _; omega)
          have k0 := (go 0).trans g1
          have k1 := (go 1).trans g2
          have kk : ∀ i, i < 5 → (w6.setCell ⟨w3.heap.size + 1, j, none⟩ v6).cell? ⟨w3.heap.size + 1, i, none⟩ = some (upd cf (xm, xa) j v6 (xm, xa) i) := fun i hi => by
            unfold upd
            by_cases e : i = j
            · subst e
              rw [if_pos ⟨rfl, rfl⟩]
              exact World.cell?_setCell_same' _ _ _ (by rw [g0]; rfl)
            · rw [if_neg (fun e' => e e'.2)]
              refine (World.cell?_setCell_other _ _ _ _ (fun e' => e (by injection e' with _ e' _; exact e'.symm))).trans ?_
              have := HG.out.c i
              rw [h4z] at this
              rw [this]
              exact hfive i hi
          have m0 := kk 0 (by omega)
          have m1 := kk 1 (by omega)
          have m2 := kk 2 (by omega)
          have m3 := kk 3 (by omega)
          have m4 := kk 4 (by omega)
          clear go kk gn g1 g2 hown6 hown6' hgr6 hgr6' hat6 HAB HG HOB HSR HO4 HB4 HB5 HOW HDOM HNF ho8 hfive z5 hu5
          unfold agg5 at hrun
          rw [h4z] at hrun
          generalize upd cf (xm, xa) j v6 (xm, xa) 0 = p0 at *
          generalize upd cf (xm, xa) j v6 (xm, xa) 1 = p1 at *
          generalize upd cf (xm, xa) j v6 (xm, xa) 2 = p2 at *
          generalize upd cf (xm, xa) j v6 (xm, xa) 3 = p3 at *
          generalize upd cf (xm, xa) j v6 (xm, xa) 4 = p4 at *
          rw [hv6] at hrun k0 k1 m0 m1 m2 m3 m4
          clear hv6
          go_wp2_with (at_mapUpdate; go_must (refine wpList_update_run rfl _ _ _ _ rfl rfl rfl rfl hrun ?_))
          go_roundw
          case rel => exact ⟨k + 1, by omega, by go_num, HO8⟩
          case measure => simp [intOf]; omega
      · obtain rfl : k = l.length := by omega
        have hol := HO.out
        rw [List.take_length] at hol
        have HOL := Lib.hid hol
        have c0 := hol.c0
        have c1 := hol.c1
        have c2 := hol.c2
        have cz := hol.cz
        have k8 : wr.cell? ⟨w.heap.size + 1, 8, none⟩ = some (.int .i64 (manyE l 8)) := hol.k 8 (by omega)
        have hc8 : ∀ b j, b ≠ w.heap.size + 1 + 1 → (wr.setCell ⟨w.heap.size + 1 + 1, 1, none⟩ (.int .i64 (manyE l 8))).cell? ⟨b, j, none⟩ = wr.cell? ⟨b, j, none⟩ := fun b j hb => World.cell?_setCell_other _ _ _ _ (fun e => hb (by injection e with e _ _; exact e.symm))
        have HW1 : Hid (wr.grownBy (wr.setCell ⟨w.heap.size + 1 + 1, 1, none⟩ (.int .i64 (manyE l 8))) (some (w.heap.size + 1 + 1))) := Lib.hid ⟨rfl, rfl, rfl, by simp, fun k _ hk => RowKit.Below.heap_setCell _ _ _ _ (fun e => hk (by rw [e]))⟩
        have HTL : Hid (Calls Try.prog 23 #[.map (some (w.heap.size + 1 + 1 + 1))] (wr.setCell ⟨w.heap.size + 1 + 1, 1, none⟩ (.int .i64 (manyE l 8))) (GotTs (gE l) (wr.setCell ⟨w.heap.size + 1 + 1, 1, none⟩ (.int .i64 (manyE l 8))))) := Lib.hid (tallies_pre HSO.out (w.heap.size + 1 + 1 + 1) (w.heap.size + 4) m cf (colF l) (wr.setCell ⟨w.heap.size + 1 + 1, 1, none⟩ (.int .i64 (manyE l 8))) (HOL.out.g.kept HW1.out (fun g e => by cases e; exact ⟨by omega, by omega⟩)) (fun q j _ => col_I64 (fun x hx => (HI.out x hx).2.2.2.1) q j) (fun q j _ => by have := col_len l q j; omega) (by have := hol.len; omega))
        have y0 : (wr.setCell ⟨w.heap.size + 1 + 1, 1, none⟩ (.int .i64 (manyE l 8))).cell? ⟨w.heap.size, 0, none⟩ = some (.slice none 0 0) := (hc8 _ _ (by omega)).trans hol.r0
        have y1 : (wr.setCell ⟨w.heap.size + 1 + 1, 1, none⟩ (.int .i64 (manyE l 8))).cell? ⟨w.heap.size, 1, none⟩ = some (.int .i64 0) := (hc8 _ _ (by omega)).trans hol.r1
        have y2 : (wr.setCell ⟨w.heap.size + 1 + 1, 1, none⟩ (.int .i64 (manyE l 8))).cell? ⟨w.heap.size, 2, none⟩ = some (.slice none 0 0) := (hc8 _ _ (by omega)).trans hol.r2
        have yf : ∀ j, (wr.setCell ⟨w.heap.size + 1 + 1, 1, none⟩ (.int .i64 (manyE l 8))).frozen? ⟨w.heap.size, j, none⟩ = false := fun j => by rw [World.frozen?_setCell]; exact hol.rf j
        have v0 : (wr.setCell ⟨w.heap.size + 1 + 1, 1, none⟩ (.int .i64 (manyE l 8))).cell? ⟨w.heap.size + 1 + 1, 0, none⟩ = some (.slice (some ⟨w.heap.size + 1, 0, none⟩) 20 20) := (World.cell?_setCell_other _ _ _ _ (fun e => by injection e with _ e _; cases e)).trans hol.c0
        have v1 : (wr.setCell ⟨w.heap.size + 1 + 1, 1, none⟩ (.int .i64 (manyE l 8))).cell? ⟨w.heap.size + 1 + 1, 1, none⟩ = some (.int .i64 (manyE l 8)) := World.cell?_setCell_same' _ _ _ (by rw [show wr.cell? ⟨w.heap.size + 1 + 1, 1, none⟩ = some (.int .i64 0) from hol.c1]; rfl)
        have v2 : (wr.setCell ⟨w.heap.size + 1 + 1, 1, none⟩ (.int .i64 (manyE l 8))).cell? ⟨w.heap.size + 1 + 1, 2, none⟩ = some (.slice none 0 0) := (World.cell?_setCell_other _ _ _ _ (fun e => by injection e with _ e _; cases e)).trans hol.c2
        have vf : ∀ j, (wr.setCell ⟨w.heap.size + 1 + 1, 1, none⟩ (.int .i64 (manyE l 8))).frozen? ⟨w.heap.size + 1 + 1, j, none⟩ = false := fun j => by rw [World.frozen?_setCell]; exact hol.cz j
        have HKC : Hid (∀ j : Nat, j < 20 → (wr.setCell ⟨w.heap.size + 1 + 1, 1, none⟩ (.int .i64 (manyE l 8))).cell? ⟨w.heap.size + 1, j, none⟩ = some (.int .i64 (manyE l j))) := Lib.hid fun j hj => (hc8 _ _ (by omega)).trans (hol.k j hj)
        have hz1 : w.heap.size + 4 ≤ (wr.setCell ⟨w.heap.size + 1 + 1, 1, none⟩ (.int .i64 (manyE l 8))).heap.size := by simpa using hol.sz
        have HB1 : Hid (Below w.heap.size w (wr.setCell ⟨w.heap.size + 1 + 1, 1, none⟩ (.int .i64 (manyE l 8)))) := Lib.hid (hol.b.setCell (p := ⟨w.heap.size + 1 + 1, 1, none⟩) (by show w.heap.size ≤ w.heap.size + 1 + 1; omega) _)
        clear hol hc8 HW1
        go_wp2_with fail
        generalize (wr.setCell ⟨w.heap.size + 1 + 1, 1, none⟩ (.int .i64 (manyE l 8))) = w1 at *
        clear c0 c1 c2 cz k8 HOL HO
        refine HTL.out.mono ?_
        rintro e w3 ⟨hb3, hcase⟩
        have x0 := (hb3.cell (p := ⟨w.heap.size, 0, none⟩) (by show w.heap.size < _; omega)).trans y0
        have x1 := (hb3.cell (p := ⟨w.heap.size, 1, none⟩) (by show w.heap.size < _; omega)).trans y1
        have x2 := (hb3.cell (p := ⟨w.heap.size, 2, none⟩) (by show w.heap.size < _; omega)).trans y2
        have xf := fun j => (hb3.frozen (p := ⟨w.heap.size, j, none⟩) (by show w.heap.size < _; omega)).trans (yf j)
        have u0 := (hb3.cell (p := ⟨w.heap.size + 1 + 1, 0, none⟩) (by show w.heap.size + 1 + 1 < _; omega)).trans v0
        have u1 := (hb3.cell (p := ⟨w.heap.size + 1 + 1, 1, none⟩) (by show w.heap.size + 1 + 1 < _; omega)).trans v1
        have u2 := (hb3.cell (p := ⟨w.heap.size + 1 + 1, 2, none⟩) (by show w.heap.size + 1 + 1 < _; omega)).trans v2
        have uf := fun j => (hb3.frozen (p := ⟨w.heap.size + 1 + 1, j, none⟩) (by show w.heap.size + 1 + 1 < _; omega)).trans (vf j)
        have HKC3 : Hid (∀ j : Nat, j < 20 → w3.cell? ⟨w.heap.size + 1, j, none⟩ = some (.int .i64 (manyE l j))) := Lib.hid fun j hj => (hb3.cell (p := ⟨w.heap.size + 1, j, none⟩) (by show w.heap.size + 1 < _; omega)).trans (HKC.out j hj)
        have HB3 : Hid (Below w.heap.size w w3) := Lib.hid (HB1.out.trans (hb3.mono HB1.out.size))
        have hz3 := hb3.size
        clear y0 y1 y2 yf v0 v1 v2 vf HKC HB1 hb3 HTL
        rcases hcase with ⟨T, At, ct, hTF, hok, rfl, hown⟩ | ⟨hbad, rfl⟩
        · have HTF := Lib.hid hTF
          have HOKQ := Lib.hid hok
          have HOT := Lib.hid hown
          clear hTF hok hown
          go_wp2_with fail
          obtain ⟨w4, hw4⟩ : ∃ w4, w4 = (w3.setCell ⟨w.heap.size + 1 + 1, 2, none⟩ (Value.slice At T.length ct)) := ⟨_, rfl⟩
          obtain ⟨W5, hW5⟩ : ∃ W5, W5 = (((w4).setCell ⟨w.heap.size, 0, none⟩ (Value.slice (some ⟨w.heap.size + 1, 0, none⟩) 20 20)).setCell ⟨w.heap.size, 1, none⟩ (Value.int .i64 (manyE l 8))).setCell ⟨w.heap.size, 2, none⟩ (Value.slice At T.length ct) := ⟨_, rfl⟩
          rw [← hw4, ← hW5]
          have hgr4 := grown_set w3 (w.heap.size + 1 + 1) 2 (Value.slice At T.length ct)
          have hn4 : ∀ b, b ≠ w.heap.size + 1 + 1 → ∀ j, w4.cell? ⟨b, j, none⟩ = w3.cell? ⟨b, j, none⟩ := fun b hb j => by rw [hw4]; exact World.cell?_setCell_other _ _ _ _ (fun e => hb (by injection e with e _ _; exact e.symm))
          have HS5 := setAll_at (b := w.heap.size) [Value.slice (some ⟨w.heap.size + 1, 0, none⟩) 20 20, Value.int .i64 (manyE l 8), Value.slice At T.length ct] w4 0 (three_at ((hn4 _ (by omega) 0).trans x0) ((hn4 _ (by omega) 1).trans x1) ((hn4 _ (by omega) 2).trans x2) rfl)
          have hgr5 := setAll_grown (b := w.heap.size) [Value.slice (some ⟨w.heap.size + 1, 0, none⟩) 20 20, Value.int .i64 (manyE l 8), Value.slice At T.length ct] w4 0
          have s0 : W5.cell? ⟨w.heap.size, 0, none⟩ = some (Value.slice (some ⟨w.heap.size + 1, 0, none⟩) 20 20) := by rw [hW5]; exact HS5 0 (by simp)
          have s1 : W5.cell? ⟨w.heap.size, 1, none⟩ = some (Value.int .i64 (manyE l 8)) := by rw [hW5]; exact HS5 1 (by simp)
          have s2 : W5.cell? ⟨w.heap.size, 2, none⟩ = some (Value.slice At T.length ct) := by rw [hW5]; exact HS5 2 (by simp)
          have hkk : ∀ j : Nat, j < 20 → W5.cell? ⟨w.heap.size + 1, j, none⟩ = some (.int .i64 (manyE l j)) := fun j hj => by
            rw [hW5]
            exact (setAll_other (b := w.heap.size) (w.heap.size + 1) (by omega) j [Value.slice (some ⟨w.heap.size + 1, 0, none⟩) 20 20, Value.int .i64 (manyE l 8), Value.slice At T.length ct] w4 0).trans ((hn4 _ (by omega) j).trans (HKC3.out j hj))
          have HOW5 : Hid (W5.ownsRow w1.heap.size 42 7 (Value.slice At T.length ct) T.length (tlRows T)) := Lib.hid (by
            rw [hW5]
            have h4 : w4.ownsRow w1.heap.size 42 7 (Value.slice At T.length ct) T.length (tlRows T) := by rw [hw4]; exact HOT.out.kept hgr4 (.inr (own_not_low HOT.out (by omega)))
            exact h4.kept hgr5 (.inr (own_not_low HOT.out (by omega))))
          have HBX : Hid (Below w.heap.size w W5) := Lib.hid (by rw [hW5, hw4]; exact setAll_below (Nat.le_refl _) [Value.slice (some ⟨w.heap.size + 1, 0, none⟩) 20 20, Value.int .i64 (manyE l 8), Value.slice At T.length ct] _ 0 (HB3.out.setCell (p := ⟨w.heap.size + 1 + 1, 2, none⟩) (by show w.heap.size ≤ w.heap.size + 1 + 1; omega) _))
          clear HS5 hW5 hgr5 hgr4 hn4 hw4
          have HSK : Hid (Seg W5 W5.heap.size (some ⟨w.heap.size + 1, 0, none⟩) ((kindsL l).map (Value.int .i64))) := Lib.hid fun j u hu => by
            obtain ⟨hj, rfl⟩ := kindsL_at hu
            exact ⟨_, _, rfl, by have := HBX.out.size; have := World.block_lt_of_cell? W5 _ (hkk 0 (by omega)); exact this, by rw [Nat.zero_add]; exact hkk j hj⟩
          refine bodyPost_ret (v := .tuple #[.agg #[Value.slice (some ⟨w.heap.size + 1, 0, none⟩) 20 20, .int .i64 (manyE l 8), Value.slice At T.length ct], .int .i64 0]) (by simp [results, Try.results8, go_sem, s0, s1, s2]) rfl ?_
          exact ⟨kindsL l, manyE l 8, T, 0, _, .inr (.inr ⟨Nat.le_of_not_lt hbig, HOKQ.out, rfl, rfl, HTF.out, rfl⟩), rfl, ⟨_, 20, _, _, by rw [kindsL_len], HSK.out, Seg.of_own HOW5.out, own_nilT HOW5.out⟩, HBX.out⟩
        · have HBD := Lib.hid hbad
          clear hbad
          go_wp2_with fail
          obtain ⟨W5, hW5⟩ : ∃ W5, W5 = (((w3).setCell ⟨w.heap.size, 0, none⟩ (Value.slice none 0 0)).setCell ⟨w.heap.size, 1, none⟩ (Value.int .i64 0)).setCell ⟨w.heap.size, 2, none⟩ (Value.slice none 0 0) := ⟨_, rfl⟩
          rw [← hW5]
          have HS5 := setAll_at (b := w.heap.size) [Value.slice none 0 0, Value.int .i64 0, Value.slice none 0 0] w3 0 (three_at x0 x1 x2 rfl)
          have s0 : W5.cell? ⟨w.heap.size, 0, none⟩ = some (Value.slice none 0 0) := by rw [hW5]; exact HS5 0 (by simp)
          have s1 : W5.cell? ⟨w.heap.size, 1, none⟩ = some (Value.int .i64 0) := by rw [hW5]; exact HS5 1 (by simp)
          have s2 : W5.cell? ⟨w.heap.size, 2, none⟩ = some (Value.slice none 0 0) := by rw [hW5]; exact HS5 2 (by simp)
          have HBX : Hid (Below w.heap.size w W5) := Lib.hid (by rw [hW5]; exact setAll_below (Nat.le_refl _) [Value.slice none 0 0, Value.int .i64 0, Value.slice none 0 0] w3 0 HB3.out)
          clear HS5 hW5
          refine bodyPost_ret (v := .tuple #[.agg #[.slice none 0 0, .int .i64 0, .slice none 0 0], .int .i64 2]) (by simp [results, Try.results8, go_sem, s0, s1, s2]) rfl ?_
          exact ⟨[], 0, [], 2, _, .inr (.inl ⟨Nat.le_of_not_lt hbig, HBD.out, rfl, rfl, rfl, rfl⟩), rfl, ⟨none, 0, none, 0, rfl, Seg.nil, Seg.nil, fun _ => ⟨rfl, rfl⟩⟩, HBX.out⟩
theorem of_pre (HSORT : SortC) (l : List Ev) (A : Option Addr) (c : Nat) (w : World) (hs : Seg w w.heap.size A (evRows l)) (hI : ∀ x ∈ l, EvOk x) (hl : l.length ≤ 1000000) :
    Calls Try.prog 8 #[.slice A l.length c] w (GotC (OfR l) w) := (of_preN HSORT l A c w hs hI hl).mono fun _ _ h => h.plain
end Go.Proofs.Ytgkidjjijgegmaa
