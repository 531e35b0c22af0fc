/-
  What script.Read comes to, over this seat's translation: a contract for callers. (Printed by gen_se4.py.)
-/
import Derived.Test.YtmplokdbbhlomaaGreatDoorSe2
import Derived.Test.YtmplokdbbhlomaaGreatDoorSe3
import Derived.Test.YtmplokdbbhlomaaGreatDoorSd7
import Derived.RangeFuncBox
import Derived.RangeFuncWrites
namespace Go.Proofs.YtmplokdbbhlomaaGreatDoor
open Go.RowKit Go.Shelf
attribute [local go_sem] Oper.semAt_some

theorem scount_any (t : List UInt8) (w : World) : Calls Tryz.prog 40 #[.string (bs t), .string (bs [10])] w fun e w' => e = .returned (.int .i64 ((t.count 10 : Nat) : Int)) ∧ w' = w := Tryz.strings_Count_one (bs t) 10 w
theorem ssuffix_any (t : List UInt8) (hne : t ≠ []) (hl : t.length ≤ 1000000) (w : World) : Calls Tryz.prog 41 #[.string (bs t), .string (bs [10])] w fun e w' => e = .returned (.bool (ended t)) ∧ w' = w := by
  have h := Tryz.strings_HasSuffix (bs t) (bs [10]) w (by rw [bs_size]; omega)
  have e : Lib.hasSuffix (bs t).data.toList (bs [10]).data.toList = ended t := suffix_ended t hne
  rw [e] at h
  exact h
/-- The results' boxes, while lines are read. -/
structure RdO (w : World) (g tb : Nat) (acc : List St) (W : World) : Prop where
  c0 : ∃ v, Boxed W g 38 v ∧ W.ownsRow (tb + 1) TSt 9 v acc.length (stRows acc)
  c1 : Boxed W (g + 1) 3 (.int .i64 0)
  c2 : Boxed W (g + 1 + 1) 27 (.int .i64 0)
  b : Below w.heap.size w W
  sz : tb < W.heap.size
theorem RdO.keep {w W W' : World} {g tb : Nat} {acc : List St} {row : Option Nat} (h : RdO w g tb acc W) (hg : W.grownBy W' row) (hgt : g + 2 < tb) (hw : w.heap.size ≤ tb) (hrow : ∀ r, row = some r → tb ≤ r ∧ (r = tb ∨ ∃ o : Obj, W.heap[r]? = some o ∧ o.isCells = false)) : RdO w g tb acc W' := by
  have hn : ∀ k, k < tb → some k ≠ row := fun k hk e => by have := (hrow k e.symm).1; omega
  obtain ⟨v, hv, ho⟩ := h.c0
  refine ⟨⟨v, hv.kept hg (hn _ (by omega)), ho.kept hg ?_⟩, h.c1.kept hg (hn _ (by omega)), h.c2.kept hg (hn _ (by omega)), h.b.grown hg h.b.size (fun k hk => by have := (hrow k hk).1; omega), Nat.lt_of_lt_of_le h.sz hg.size⟩
  rcases ho.2 with ⟨rfl, _⟩ | ⟨g', cap, cur, rfl, hb, hgb, _⟩
  · exact .inl rfl
  · refine .inr fun e' => ?_
    obtain ⟨h1, h2⟩ := hrow g' (by simpa [Value.ownBlock] using e'.symm)
    rcases h2 with h2 | ⟨o, ho, hc⟩
    · omega
    · rw [hgb] at ho; cases ho; cases hc
/-- How the loop was left. -/
structure RdX (w : World) (g tb : Nat) (n : Int) (W : World) : Prop where
  c0 : Boxed W g 38 (.slice none 0 0)
  c1 : Boxed W (g + 1) 3 (.int .i64 n)
  c2 : Boxed W (g + 1 + 1) 27 (.int .i64 3)
  b : Below w.heap.size w W
  sz : tb < W.heap.size
theorem RdX.keep {w W W' : World} {g tb : Nat} {n : Int} {row : Option Nat} (h : RdX w g tb n W) (hg : W.grownBy W' row) (hgt : g + 2 < tb) (hw : w.heap.size ≤ tb) (hrow : ∀ r, row = some r → tb ≤ r) : RdX w g tb n W' := by
  have hn : ∀ k, k < tb → some k ≠ row := fun k hk e => by have := hrow k e.symm; omega
  exact ⟨h.c0.kept hg (hn _ (by omega)), h.c1.kept hg (hn _ (by omega)), h.c2.kept hg (hn _ (by omega)), h.b.grown hg h.b.size (fun k hk => by have := hrow k hk; omega), Nat.lt_of_lt_of_le h.sz hg.size⟩
def RdI (w : World) (g tb : Nat) (pre : List (Int × List UInt8)) (W : World) : Prop := RdO w g tb (pre.map fun x => stepL x.2) W ∧ ∀ x ∈ pre, okL x.2 = true
def RdE (w : World) (g tb : Nat) (c : Code) (pre : List (Int × List UInt8)) (W : World) : Prop := c = .ret ∧ ∃ pre' x, pre = pre' ++ [x] ∧ (∀ y ∈ pre', okL y.2 = true) ∧ okL x.2 = false ∧ RdX w g tb x.1 W
theorem rdI_own {w : World} {g tb B : Nat} (hgt : g + 2 < tb) (hw : w.heap.size ≤ tb) (hB : tb < B) : OwnFrom B (RdI w g tb) := fun _ _ _ _ hs hg hr => ⟨hs.1.keep hg hgt hw (fun r e => ⟨by have := (hr r e).1; omega, .inr (hr r e).2⟩), hs.2⟩
theorem rdI_ab {w : World} {g tb : Nat} (hgt : g + 2 < tb) (hw : w.heap.size ≤ tb) : AbT tb (RdI w g tb) := fun _ _ _ hs hg => ⟨hs.1.keep hg hgt hw (fun r e => by injection e with e; exact ⟨by omega, .inl e.symm⟩), hs.2⟩
theorem rdE_own {w : World} {g tb B : Nat} (hgt : g + 2 < tb) (hw : w.heap.size ≤ tb) (hB : tb < B) (c : Code) : OwnFrom B (RdE w g tb c) := fun _ _ _ _ hs hg hr => by
  obtain ⟨h1, p, x, h2, h3, h4, h5⟩ := hs
  exact ⟨h1, p, x, h2, h3, h4, h5.keep hg hgt hw (fun r e => by have := (hr r e).1; omega)⟩
theorem rdE_ab {w : World} {g tb : Nat} (hgt : g + 2 < tb) (hw : w.heap.size ≤ tb) (c : Code) : AbT tb (RdE w g tb c) := fun _ _ _ hs hg => by
  obtain ⟨h1, p, x, h2, h3, h4, h5⟩ := hs
  exact ⟨h1, p, x, h2, h3, h4, h5.keep hg hgt hw (fun r e => by injection e with e; omega)⟩
theorem keeps_belowR {W W' : World} (h : Below W.heap.size W W') : KeepsOthers W W' := ⟨h.size, fun k _ hk _ => (h.block k (Array.getElem?_eq_some_iff.1 hk).1).trans hk⟩
theorem own_mono {W : World} {b b' : Nat} {e : TypeId} {s : Nat} {v : Value} {n : Nat} {xs : List Value} (h : W.ownsRow b e s v n xs) (hb : b' ≤ b) : W.ownsRow b' e s v n xs := by
  refine ⟨h.1, ?_⟩
  rcases h.2 with h2 | ⟨g, cap, cur, h1, h2, h3⟩
  · exact .inl h2
  · exact .inr ⟨g, cap, cur, h1, Nat.le_trans hb h2, h3⟩
theorem ts_ne : (38 : TypeId) ≠ TSt := by decide
/-- A line's step is appended. -/
theorem RdO.app {w A w5 : World} {g tb : Nat} {acc : List St} {st : St} {v v' : Value} {tmp : Obj} (hI : RdO w g tb acc A) (hv : Boxed A g 38 v) (ho : A.ownsRow (tb + 1) TSt 9 v acc.length (stRows acc))
    (hown : w5.ownsRow (tb + 1) TSt 9 v' (acc.length + 1) (stRows acc ++ (stCells st).toList)) (hgr : (A.alloc tmp).grownBy w5 v.ownBlock) (hgt : g + 2 < tb) (hw : w.heap.size ≤ g) (hmx : 1 < w.heap.size) :
    (Boxed w5 g 38 v) ∧ RdO w g tb (acc ++ [st]) (w5.setCell ⟨g, 0, none⟩ v') ∧ KeepsOthers A (w5.setCell ⟨g, 0, none⟩ v') ∧ KpT tb A (w5.setCell ⟨g, 0, none⟩ v') := by
  have hAsz := hI.sz
  obtain ⟨a1, a2, a3, a4, a5⟩ := hv.appended ts_ne (own_mono ho (b' := g) (by omega)) (by omega) (Nat.le_refl g) (own_mono hown (b' := g) (by omega)) hgr
  have hnr : ∀ k, k < tb + 1 → some k ≠ v.ownBlock := fun k hk e => by
    have := own_base ho k e.symm
    omega
  have hk : ∀ k, k < tb + 1 → k ≠ g → (w5.setCell ⟨g, 0, none⟩ v').heap[k]? = A.heap[k]? := fun k hk hkg => by
    have h1 : (w5.setCell ⟨g, 0, none⟩ v').heap[k]? = w5.heap[k]? := Below.heap_setCell _ _ _ k hkg
    have h2 := hgr.block k (by simp; omega) (hnr k hk)
    have h3 : (A.alloc tmp).heap[k]? = A.heap[k]? := Below.heap_alloc _ _ _ (by omega)
    exact h1.trans (h2.trans h3)
  have hsz : A.heap.size ≤ (w5.setCell ⟨g, 0, none⟩ v').heap.size := by
    have := hgr.size
    simp at this ⊢
    omega
  refine ⟨a1, ⟨⟨v', a2, ?_⟩, ?_, ?_, ?_, by omega⟩, a4, hsz, hk tb (by omega) (by omega), hk _ (by omega) (by omega)⟩
  · rw [List.length_append, stRows_snoc]
    exact hown.kept (grownBy_setCell' w5 g v') (.inr (a1.not_row ts_ne hown).symm)
  · exact (hk (g + 1) (by omega) (by omega)).trans hI.c1
  · exact (hk (g + 1 + 1) (by omega) (by omega)).trans hI.c2
  · exact hI.b.trans (a5.mono hw)
/-- The results, once a line is none. -/
theorem RdO.bad {w A : World} {g tb : Nat} {acc : List St} {n : Int} (hI : RdO w g tb acc A) (hw : w.heap.size ≤ g) :
    RdX w g tb n (((A.setCell ⟨g, 0, none⟩ (.slice none 0 0)).setCell ⟨g + 1, 0, none⟩ (.int .i64 n)).setCell ⟨g + 1 + 1, 0, none⟩ (.int .i64 3)) := by
  obtain ⟨v, hv, _⟩ := hI.c0
  have hs := hI.sz
  have n1 : some g ≠ some (g + 1) := fun e => by injection e; omega
  have n2 : some g ≠ some (g + 1 + 1) := fun e => by injection e; omega
  have n3 : some (g + 1) ≠ some (g + 1 + 1) := fun e => by injection e; omega
  refine ⟨((hv.set _).kept (grownBy_setCell' _ _ _) n1).kept (grownBy_setCell' _ _ _) n2, ((hI.c1.kept (grownBy_setCell' _ _ _) n1.symm).set _).kept (grownBy_setCell' _ _ _) n3, ((hI.c2.kept (grownBy_setCell' _ _ _) n2.symm).kept (grownBy_setCell' _ _ _) n3.symm).set _, ?_, by simp; omega⟩
  exact ((hI.b.setCell (p := ⟨g, 0, none⟩) hw _).setCell (p := ⟨g + 1, 0, none⟩) (by show w.heap.size ≤ g + 1; omega) _).setCell (p := ⟨g + 1 + 1, 0, none⟩) (by show w.heap.size ≤ g + 1 + 1; omega) _
theorem results33 {tmps : Array Value} {g : Nat} {W : World} {A : Option Addr} {n c : Nat} {z e : Int} (h2 : tmps[2]? = some (.pointer (some ⟨g, 0, none⟩))) (h3 : tmps[3]? = some (.pointer (some ⟨g + 1, 0, none⟩))) (h4 : tmps[4]? = some (.pointer (some ⟨g + 1 + 1, 0, none⟩)))
    (b0 : Boxed W g 38 (.slice A n c)) (b1 : Boxed W (g + 1) 3 (.int .i64 z)) (b2 : Boxed W (g + 1 + 1) 27 (.int .i64 e)) : (results Tryz.f14 tmps).run Tryz.prog W = .ok (.tuple #[.slice A n c, .int .i64 z, .int .i64 e]) W := by
  have e0 := b0.cell
  have e1 := b1.cell
  have e2 := b2.cell
  simp [results, Tryz.results14, go_sem, h2, h3, h4, e0, e1, e2]
/-- The results behind the loop. -/
theorem RdO.fin {w W : World} {g tb : Nat} {acc : List St} {v : Value} (hI : RdO w g tb acc W) (hv : Boxed W g 38 v) (ho : W.ownsRow (tb + 1) TSt 9 v acc.length (stRows acc)) (hgt : g + 2 < tb) (hw : w.heap.size ≤ g) (D : Nat) (o o' : Obj) (hD : tb < D) (hK : W.heap[D]? = some o) (hc : o.isCells = false) :
    (((W.setCell ⟨g, 0, none⟩ v).setCell ⟨g + 1, 0, none⟩ (.int .i64 0)).setCell ⟨g + 1 + 1, 0, none⟩ (.int .i64 0)).heap[D]? = some o ∧
    Boxed ((((W.setCell ⟨g, 0, none⟩ v).setCell ⟨g + 1, 0, none⟩ (.int .i64 0)).setCell ⟨g + 1 + 1, 0, none⟩ (.int .i64 0)).putObj D o') g 38 v ∧
    Boxed ((((W.setCell ⟨g, 0, none⟩ v).setCell ⟨g + 1, 0, none⟩ (.int .i64 0)).setCell ⟨g + 1 + 1, 0, none⟩ (.int .i64 0)).putObj D o') (g + 1) 3 (.int .i64 0) ∧
    Boxed ((((W.setCell ⟨g, 0, none⟩ v).setCell ⟨g + 1, 0, none⟩ (.int .i64 0)).setCell ⟨g + 1 + 1, 0, none⟩ (.int .i64 0)).putObj D o') (g + 1 + 1) 27 (.int .i64 0) ∧
    ((((W.setCell ⟨g, 0, none⟩ v).setCell ⟨g + 1, 0, none⟩ (.int .i64 0)).setCell ⟨g + 1 + 1, 0, none⟩ (.int .i64 0)).putObj D o').ownsRow (tb + 1) TSt 9 v acc.length (stRows acc) ∧
    Below w.heap.size w ((((W.setCell ⟨g, 0, none⟩ v).setCell ⟨g + 1, 0, none⟩ (.int .i64 0)).setCell ⟨g + 1 + 1, 0, none⟩ (.int .i64 0)).putObj D o') := by
  have n1 : some g ≠ some (g + 1) := fun e => by injection e; omega
  have n2 : some g ≠ some (g + 1 + 1) := fun e => by injection e; omega
  have n3 : some (g + 1) ≠ some (g + 1 + 1) := fun e => by injection e; omega
  have b0 := ((hv.set v).kept (grownBy_setCell' _ (g + 1) (.int .i64 0)) n1).kept (grownBy_setCell' _ (g + 1 + 1) (.int .i64 0)) n2
  have b1 := ((hI.c1.kept (grownBy_setCell' W g v) n1.symm).set (.int .i64 0)).kept (grownBy_setCell' _ (g + 1 + 1) (.int .i64 0)) n3
  have b2 := ((hI.c2.kept (grownBy_setCell' W g v) n2.symm).kept (grownBy_setCell' _ (g + 1) (.int .i64 0)) n3.symm).set (.int .i64 0)
  have hr : ∀ k, k ≤ tb → some k ≠ v.ownBlock := fun k hk e => by have := own_base ho k e.symm; omega
  have o3 := (((ho.kept (grownBy_setCell' W g v) (.inr (hr g (by omega)).symm)).kept (grownBy_setCell' _ (g + 1) (.int .i64 0)) (.inr (hr (g + 1) (by omega)).symm)).kept (grownBy_setCell' _ (g + 1 + 1) (.int .i64 0)) (.inr (hr (g + 1 + 1) (by omega)).symm))
  have hb := ((hI.b.setCell (p := ⟨g, 0, none⟩) hw v).setCell (p := ⟨g + 1, 0, none⟩) (by show w.heap.size ≤ g + 1; omega) (.int .i64 0)).setCell (p := ⟨g + 1 + 1, 0, none⟩) (by show w.heap.size ≤ g + 1 + 1; omega) (.int .i64 0)
  have hd : (((W.setCell ⟨g, 0, none⟩ v).setCell ⟨g + 1, 0, none⟩ (.int .i64 0)).setCell ⟨g + 1 + 1, 0, none⟩ (.int .i64 0)).heap[D]? = some o :=
    (Below.heap_setCell _ _ _ D (by show D ≠ g + 1 + 1; omega)).trans ((Below.heap_setCell _ _ _ D (by show D ≠ g + 1; omega)).trans ((Below.heap_setCell _ _ _ D (by show D ≠ g; omega)).trans hK))
  have np : ∀ k, k ≤ tb → some k ≠ some D := fun k hk e => by injection e; omega
  exact ⟨hd, b0.kept (grownBy_putObj' _ D o') (np g (by omega)), b1.kept (grownBy_putObj' _ D o') (np _ (by omega)), b2.kept (grownBy_putObj' _ D o') (np _ (by omega)), ownsRow_putObj o3 o' hd hc, hb.grown (grownBy_putObj' _ D o') hb.size (fun k e => by injection e with e; omega)⟩
theorem lnsT_piece (t : List UInt8) : ∀ p ∈ lnsT t, p.length ≤ t.length := fun p hp => splitL_piece 10 t p (List.dropLast_subset _ hp)
set_option maxRecDepth 100000 in
set_option maxHeartbeats 12800000 in
theorem sread33_any (t : List UInt8) (hl : t.length ≤ 10000) (w : World) (he : EnvZ w) : Calls Tryz.prog 14 #[.string (bs t)] w (GotRT (readT t) w) := by
  have hsz := bs_size t
  obtain ⟨R, HR⟩ : ∃ R, Hid (readT t = R) := ⟨_, Lib.hid rfl⟩
  rw [HR.out]
  have HE := Lib.hid he
  clear he
  have HB3 : Hid (Below w.heap.size w (((w.alloc (.cells #[.slice none 0 0] 38)).alloc (.cells #[.int .i64 0] 3)).alloc (.cells #[.int .i64 0] 27))) := Lib.hid ((((Below.refl _ _).alloc (Nat.le_refl _) _).alloc (by simp) _).alloc (by simp; omega) _)
  have HCO := Lib.hid (fun W => scount_any t W)
  by_cases hbig : 1024 < t.count 10
  · have HQ : Hid (R = ([], 0, 6)) := Lib.hid (by rw [← HR.out]; exact readT_many hbig)
    have hcm : t.count 10 ≤ t.length := List.count_le_length
    obtain ⟨m, hm⟩ : ∃ m, m = t.count 10 := ⟨_, rfl⟩
    rw [← hm] at HCO hbig hcm
    clear hm HR
    have hb : decide ((m : Int) > 1024) = true := decide_eq_true (by omega)
    go_enter Tryz.func14, Tryz.ntmps14
    go_wp2_with (go_at_call 40; refine (HCO.out _).mono ?_; rintro e w1 ⟨rfl, hw1⟩; obtain rfl := hw1)
    refine bodyPost_ret (by simp [results, Tryz.results14, go_sem]; try rfl) rfl ?_
    rw [HQ.out]
    exact ⟨none, 0, rfl, Seg.nil, ((((Below.refl _ _).alloc (Nat.le_refl _) _).alloc (by simp) _).alloc (by simp; omega) _)⟩
  have hcm : t.count 10 ≤ 1024 := by omega
  obtain ⟨m, hm⟩ : ∃ m, m = t.count 10 := ⟨_, rfl⟩
  have HCM : Hid (m = t.count 10) := Lib.hid hm
  rw [← hm] at HCO hcm
  have hb : decide ((m : Int) > 1024) = false := decide_eq_false (by omega)
  clear hm hbig
  cases hen : ended t with
  | false =>
    have hne : t ≠ [] := fun h => by rw [h] at hen; cases hen
    have hbn : t.isEmpty = false := by simpa using hne
    have HQ : Hid (R = ([], 0, 3)) := Lib.hid (by rw [← HR.out]; exact readT_form (by rw [← HCM.out]; omega) hen)
    have HSU := Lib.hid (fun W => ssuffix_any t hne (by omega) W)
    rw [hen] at HSU
    go_enter Tryz.func14, Tryz.ntmps14
    go_wp2_with (first | (go_at_call 40; refine (HCO.out _).mono ?_; rintro e w1 ⟨rfl, hw1⟩; obtain rfl := hw1) | (go_at_call 41; refine (HSU.out _).mono ?_; rintro e w1 ⟨rfl, hw1⟩; obtain rfl := hw1))
    refine bodyPost_ret (by simp [results, Tryz.results14, go_sem]; try rfl) rfl ?_
    rw [HQ.out]
    exact ⟨none, 0, rfl, Seg.nil, ((((Below.refl _ _).alloc (Nat.le_refl _) _).alloc (by simp) _).alloc (by simp; omega) _)⟩
  | true =>
  by_cases hnil : t = []
  · subst hnil
    refine (callsIn_wide (n := 9)).1 ?_
    refine callsIn_of_wp_marks Tryz.func14 rfl trivial ?_ rfl
    simp only [Tryz.ntmps14, List.size_toArray, List.length_cons, List.length_nil, Nat.reduceAdd, Nat.reduceSub, Array.replicate_succ, Array.replicate_zero, List.push_toArray, List.append_toArray, List.nil_append, List.cons_append]
    gi_wp2
    refine ⟨trivial, ?_⟩
    refine (callsIn_wide.2 (HCO.out _)).mono ?_
    rintro e w1 ⟨rfl, hw1⟩
    rw [hw1]
    clear hw1
    have hW3s : (((w.alloc (.cells #[.slice none 0 0] 38)).alloc (.cells #[.int .i64 0] 3)).alloc (.cells #[.int .i64 0] 27)).heap.size = w.heap.size + 3 := by simp
    have HB4 : Hid (Below w.heap.size w ((((w.alloc (.cells #[.slice none 0 0] 38)).alloc (.cells #[.int .i64 0] 3)).alloc (.cells #[.int .i64 0] 27)).alloc (.cells #[.string (bs [])] 9))) := Lib.hid (HB3.out.alloc HB3.out.size _)
    have hT4 : TbAt (w.heap.size + 3) [] ((((w.alloc (.cells #[.slice none 0 0] 38)).alloc (.cells #[.int .i64 0] 3)).alloc (.cells #[.int .i64 0] 27)).alloc (.cells #[.string (bs [])] 9)) := by
      obtain ⟨mm, hmm⟩ := HE.out.max
      refine ⟨?_, ?_, mm, ?_⟩
      · have := cell_new (((w.alloc (.cells #[.slice none 0 0] 38)).alloc (.cells #[.int .i64 0] 3)).alloc (.cells #[.int .i64 0] 27)) #[.string (bs [])] 9 0 (b := w.heap.size + 3) (by rw [hW3s])
        exact this.trans rfl
      · go_simp
      · rw [HB4.out.cell (p := ⟨1, 0, none⟩) (World.block_lt_of_cell? w _ hmm)]
        exact hmm
    have hmx : 1 < w.heap.size := by
      obtain ⟨mm, hmm⟩ := HE.out.max
      exact World.block_lt_of_cell? w _ hmm
    have hI0 : RdO w w.heap.size (w.heap.size + 3) [] ((((w.alloc (.cells #[.slice none 0 0] 38)).alloc (.cells #[.int .i64 0] 3)).alloc (.cells #[.int .i64 0] 27)).alloc (.cells #[.string (bs [])] 9)) := by
      refine ⟨⟨.slice none 0 0, ?_, World.ownsRow_nil _ _ _ _⟩, ?_, ?_, HB4.out, by simp⟩
      · exact (((Boxed.new w 38 (.slice none 0 0)).alloc _).alloc _).alloc _
      · have h := (((Boxed.new (w.alloc (.cells #[.slice none 0 0] 38)) 3 (.int .i64 0)).alloc (.cells #[.int .i64 0] 27)).alloc (.cells #[.string (bs [])] 9))
        rw [World.size_alloc] at h
        exact h
      · have h := ((Boxed.new ((w.alloc (.cells #[.slice none 0 0] 38)).alloc (.cells #[.int .i64 0] 3)) 27 (.int .i64 0)).alloc (.cells #[.string (bs [])] 9))
        rw [World.size_alloc, World.size_alloc] at h
        exact h
    have HLA := Lib.hid (lines_any [] (((w.alloc (.cells #[.slice none 0 0] 38)).alloc (.cells #[.int .i64 0] 3)).alloc (.cells #[.int .i64 0] 27)))
    rw [hW3s] at HLA
    gi_wp2
    refine ⟨trivial, ?_⟩
    gi_wp2
    refine ⟨trivial, ?_⟩
    refine (callsIn_wide.2 HLA.out).mono ?_
    rintro e w4 ⟨rfl, hw4⟩
    rw [← hw4] at hT4 HB4 hI0
    have hsz4 : w4.heap.size = w.heap.size + 4 := by rw [hw4]; simp
    clear hw4 HLA
    gi_wp2
    refine wpIn_rangeFunc_text (β := Int × List UInt8) rfl (by omega) (gf := 67) (lb := #[.pointer (some ⟨w.heap.size + 3, 0, none⟩)]) rfl trivial (enters_of Tryz.func67 (by kernel_rfl) rfl)
      (lines_hands 8 (by omega) (w.heap.size + 3) [] w4 hT4 (by omega) hen (by omega) (by omega) (by omega)) kpT_t (kpT_b (by omega) (by omega)) (Below.refl _ _) (by omega) (fun _ => rfl)
      (RdI w w.heap.size (w.heap.size + 3)) (RdE w w.heap.size (w.heap.size + 3)) (rdI_own (by omega) (by omega) (by omega)) (rdE_own (by omega) (by omega) (by omega)) (rdI_ab (by omega) (by omega)) (rdE_ab (by omega) (by omega))
      ⟨hI0, fun x hx => by cases hx⟩ ?a1z ?assignz ?bodyz ?donez ?stopz
    case assignz =>
      intro l x W K hK
      unfold encT
      gi_wp2
      exact hK
    case bodyz =>
      rintro l pre x W ⟨hI, hok⟩ hpf
      obtain ⟨hx1, more, hls⟩ := numb_next hpf
      simp [lnsT, splitL] at hls
    case donez =>
      rintro D W hD ⟨hI, hok⟩ hK
      have hmp : (numb 1 (lnsT [])).map (fun x => stepL x.2) = (lnsT []).map stepL := by
        conv => rhs; rw [← numb_map 1 (lnsT []), List.map_map]
        rfl
      have HQ : Hid (R = ((lnsT []).map stepL, 0, 0)) := Lib.hid (by
        rw [← HR.out]
        unfold readT
        rw [if_neg (by rw [← HCM.out]; omega), if_pos hen]
        exact readLs_ok fun p hp => by
          rw [← numb_map 1 (lnsT [])] at hp
          obtain ⟨x, hx, rfl⟩ := List.mem_map.1 hp
          exact hok x hx)
      rw [hmp] at hI
      have HI := Lib.hid hI
      obtain ⟨v, hv, ho⟩ := hI.c0
      obtain ⟨Au, cu, hu⟩ := own_form ho
      subst hu
      have HO := Lib.hid ho
      have e0 := hv.cell
      have f0 := hv.frozen
      have e1 := hI.c1.cell
      have f1 := hI.c1.frozen
      have e2 := hI.c2.cell
      have f2 := hI.c2.frozen
      clear hmp hok hI ho
      generalize (lnsT []).map stepL = acc at *
      obtain ⟨hK3, k0, k1, k2, k3, k4⟩ := HI.out.fin hv HO.out (by omega) (Nat.le_refl _) D _ (.deferred none) (by omega) hK rfl
      have HF := Lib.hid (And.intro k0 (And.intro k1 (And.intro k2 (And.intro k3 k4))))
      clear k0 k1 k2 k3 k4
      gi_wp2
      refine ⟨by simp, .inl ⟨_, _, rfl, run_takeDeferred hK3, ?_⟩⟩
      exact ⟨_, results33 rfl rfl rfl HF.out.1 HF.out.2.1 HF.out.2.2.1, by rw [HQ.out]; exact ⟨Au, cu, rfl, Seg.of_own HF.out.2.2.2.1, HF.out.2.2.2.2⟩⟩
    case stopz =>
      rintro D c pre W hD hpf ⟨rfl, pre', x, rfl, hok, hbad, hX⟩ hK
      obtain ⟨hx1, more, hls⟩ := numb_next hpf
      have HQ : Hid (R = ([], x.1, 3)) := Lib.hid (by
        rw [← HR.out]
        unfold readT
        rw [if_neg (by rw [← HCM.out]; omega), if_pos hen, hls, readLs_bad more (fun p hp => by
          obtain ⟨y, hy, rfl⟩ := List.mem_map.1 hp
          exact hok y hy) hbad, List.length_map, hx1])
      have hX2 := hX.keep (grownBy_putObj' W D (.deferred none)) (by omega) (by omega) (fun r e => by injection e with e; omega)
      have HF := Lib.hid hX2
      have e0 := hX.c0.cell
      have e1 := hX.c1.cell
      have e2 := hX.c2.cell
      clear hX hX2 hok hbad hls hx1
      gi_wp2
      refine ⟨by simp, .inl ⟨_, _, rfl, run_takeDeferred hK, ?_⟩⟩
      exact ⟨_, results33 rfl rfl rfl HF.out.c0 HF.out.c1 HF.out.c2, by rw [HQ.out]; exact ⟨none, 0, rfl, Seg.nil, HF.out.b⟩⟩
  · have hbn : t.isEmpty = false := by simpa using hnil
    have HSU := Lib.hid (fun W => ssuffix_any t hnil (by omega) W)
    rw [hen] at HSU
    refine (callsIn_wide (n := 9)).1 ?_
    refine callsIn_of_wp_marks Tryz.func14 rfl trivial ?_ rfl
    simp only [Tryz.ntmps14, List.size_toArray, List.length_cons, List.length_nil, Nat.reduceAdd, Nat.reduceSub, Array.replicate_succ, Array.replicate_zero, List.push_toArray, List.append_toArray, List.nil_append, List.cons_append]
    gi_wp2
    refine ⟨trivial, ?_⟩
    refine (callsIn_wide.2 (HCO.out _)).mono ?_
    rintro e w1 ⟨rfl, hw1⟩
    rw [hw1]
    clear hw1
    gi_wp2
    refine ⟨trivial, ?_⟩
    refine (callsIn_wide.2 (HSU.out _)).mono ?_
    rintro e w1 ⟨rfl, hw1⟩
    rw [hw1]
    clear hw1
    have hW3s : (((w.alloc (.cells #[.slice none 0 0] 38)).alloc (.cells #[.int .i64 0] 3)).alloc (.cells #[.int .i64 0] 27)).heap.size = w.heap.size + 3 := by simp
    have HB4 : Hid (Below w.heap.size w ((((w.alloc (.cells #[.slice none 0 0] 38)).alloc (.cells #[.int .i64 0] 3)).alloc (.cells #[.int .i64 0] 27)).alloc (.cells #[.string (bs t)] 9))) := Lib.hid (HB3.out.alloc HB3.out.size _)
    have hT4 : TbAt (w.heap.size + 3) t ((((w.alloc (.cells #[.slice none 0 0] 38)).alloc (.cells #[.int .i64 0] 3)).alloc (.cells #[.int .i64 0] 27)).alloc (.cells #[.string (bs t)] 9)) := by
      obtain ⟨mm, hmm⟩ := HE.out.max
      refine ⟨?_, ?_, mm, ?_⟩
      · have := cell_new (((w.alloc (.cells #[.slice none 0 0] 38)).alloc (.cells #[.int .i64 0] 3)).alloc (.cells #[.int .i64 0] 27)) #[.string (bs t)] 9 0 (b := w.heap.size + 3) (by rw [hW3s])
        exact this.trans rfl
      · go_simp
      · rw [HB4.out.cell (p := ⟨1, 0, none⟩) (World.block_lt_of_cell? w _ hmm)]
        exact hmm
    have hmx : 1 < w.heap.size := by
      obtain ⟨mm, hmm⟩ := HE.out.max
      exact World.block_lt_of_cell? w _ hmm
    have hI0 : RdO w w.heap.size (w.heap.size + 3) [] ((((w.alloc (.cells #[.slice none 0 0] 38)).alloc (.cells #[.int .i64 0] 3)).alloc (.cells #[.int .i64 0] 27)).alloc (.cells #[.string (bs t)] 9)) := by
      refine ⟨⟨.slice none 0 0, ?_, World.ownsRow_nil _ _ _ _⟩, ?_, ?_, HB4.out, by simp⟩
      · exact (((Boxed.new w 38 (.slice none 0 0)).alloc _).alloc _).alloc _
      · have h := (((Boxed.new (w.alloc (.cells #[.slice none 0 0] 38)) 3 (.int .i64 0)).alloc (.cells #[.int .i64 0] 27)).alloc (.cells #[.string (bs t)] 9))
        rw [World.size_alloc] at h
        exact h
      · have h := ((Boxed.new ((w.alloc (.cells #[.slice none 0 0] 38)).alloc (.cells #[.int .i64 0] 3)) 27 (.int .i64 0)).alloc (.cells #[.string (bs t)] 9))
        rw [World.size_alloc, World.size_alloc] at h
        exact h
    have HLA := Lib.hid (lines_any t (((w.alloc (.cells #[.slice none 0 0] 38)).alloc (.cells #[.int .i64 0] 3)).alloc (.cells #[.int .i64 0] 27)))
    rw [hW3s] at HLA
    gi_wp2
    refine ⟨trivial, ?_⟩
    refine (callsIn_wide.2 HLA.out).mono ?_
    rintro e w4 ⟨rfl, hw4⟩
    rw [← hw4] at hT4 HB4 hI0
    have hsz4 : w4.heap.size = w.heap.size + 4 := by rw [hw4]; simp
    clear hw4 HLA
    gi_wp2
    refine wpIn_rangeFunc_text (β := Int × List UInt8) rfl (by omega) (gf := 67) (lb := #[.pointer (some ⟨w.heap.size + 3, 0, none⟩)]) rfl trivial (enters_of Tryz.func67 (by kernel_rfl) rfl)
      (lines_hands 8 (by omega) (w.heap.size + 3) t w4 hT4 (by omega) hen (by omega) (by omega) (by omega)) kpT_t (kpT_b (by omega) (by omega)) (Below.refl _ _) (by omega) (fun _ => rfl)
      (RdI w w.heap.size (w.heap.size + 3)) (RdE w w.heap.size (w.heap.size + 3)) (rdI_own (by omega) (by omega) (by omega)) (rdE_own (by omega) (by omega) (by omega)) (rdI_ab (by omega) (by omega)) (rdE_ab (by omega) (by omega))
      ⟨hI0, fun x hx => by cases hx⟩ ?a1 ?assign ?body ?done ?stop
    case assign =>
      intro l x W K hK
      unfold encT
      gi_wp2
      exact hK
    case body =>
      rintro l pre x W ⟨hI, hok⟩ hpf
      obtain ⟨hx1, more, hls⟩ := numb_next hpf
      have hpl : x.2.length ≤ t.length := lnsT_piece t x.2 (by rw [hls]; simp)
      have hprl : pre.length ≤ t.length := by
        have h := congrArg List.length hls
        rw [lnsT_length, List.length_append, List.length_map] at h
        have := List.count_le_length (a := (10 : UInt8)) (l := t)
        omega
      have HI := Lib.hid hI
      have HOK := Lib.hid hok
      have HPA := Lib.hid (sparse_any x.2 (by omega) W (HE.out.below hI.b))
      obtain ⟨n, p⟩ := x
      simp only at hx1 hpl HPA
      have hxn : n ≤ 100000 := by omega
      have hxp : 0 ≤ n := by omega
      obtain ⟨st, er, hP⟩ : ∃ st er, parseP p = (st, er) := ⟨_, _, rfl⟩
      have HOL : Hid (okL p = decide (er = 0)) := Lib.hid (by unfold okL; rw [hP])
      have HST : Hid (stepL p = st) := Lib.hid (by unfold stepL; rw [hP])
      have HBD : Hid (er ≠ 0 → er = 3) := Lib.hid (fun h => by
        have := parseP_bad (line := p) (by rw [hP]; exact h)
        rw [hP] at this
        injection this)
      rw [hP] at HPA
      simp only at HPA
      unfold stV stCells at HPA
      clear hP hI hok hls hx1
      gi_wp2
      refine ⟨trivial, ?_⟩
      refine (CallsIn.inRound l (callsIn_wide.2 HPA.out)).mono ?_
      rintro e w2 ⟨rfl, hb2⟩
      have HI2 : Hid (RdO w w.heap.size (w.heap.size + 3) (pre.map fun x => stepL x.2) (w2.alloc (.cells #[.int .i64 st.k, .int .i64 st.c.k, .int .i64 st.c.i, .int .i64 st.c.m, .int .i64 st.c.o, .int .i64 st.c.s, .int .i64 st.c.q, .int .i64 st.c.p, .int .i64 st.n] TSt))) := Lib.hid ((HI.out.keep (row := none) ⟨hb2.os, hb2.tape, hb2.output, hb2.size, fun k hk _ => hb2.block k hk⟩ (by omega) (by omega) (fun r e => by cases e)).keep (World.grownBy_alloc _ _ none) (by omega) (by omega) (fun r e => by cases e))
      have HKO : Hid (KeepsOthers W (w2.alloc (.cells #[.int .i64 st.k, .int .i64 st.c.k, .int .i64 st.c.i, .int .i64 st.c.m, .int .i64 st.c.o, .int .i64 st.c.s, .int .i64 st.c.q, .int .i64 st.c.p, .int .i64 st.n] TSt))) := Lib.hid ((keeps_belowR hb2).trans (KeepsOthers.alloc _ _))
      have HKT : Hid (KpT (w.heap.size + 3) W (w2.alloc (.cells #[.int .i64 st.k, .int .i64 st.c.k, .int .i64 st.c.i, .int .i64 st.c.m, .int .i64 st.c.o, .int .i64 st.c.s, .int .i64 st.c.q, .int .i64 st.c.p, .int .i64 st.n] TSt))) := Lib.hid (by
        have h1 := HI.out.sz
        have h2 := ((Below.refl W.heap.size w2).alloc hb2.size (.cells #[.int .i64 st.k, .int .i64 st.c.k, .int .i64 st.c.i, .int .i64 st.c.m, .int .i64 st.c.o, .int .i64 st.c.s, .int .i64 st.c.q, .int .i64 st.c.p, .int .i64 st.n] TSt))
        have h3 := hb2.trans h2
        have h4 := HI.out.b.size
        exact ⟨h3.size, h3.block _ h1, h3.block _ (by omega)⟩)
      have HX : Hid (CsAt (w2.alloc (.cells #[.int .i64 st.k, .int .i64 st.c.k, .int .i64 st.c.i, .int .i64 st.c.m, .int .i64 st.c.o, .int .i64 st.c.s, .int .i64 st.c.q, .int .i64 st.c.p, .int .i64 st.n] TSt)) w2.heap.size (stCells st)) := Lib.hid (CsAt.made _ _ _)
      have hal : (pre.map fun x => stepL x.2).length ≤ 100000 := by rw [List.length_map]; omega
      have HPM : Hid ((pre ++ [(n, p)]).map (fun x => stepL x.2) = (pre.map fun x => stepL x.2) ++ [st]) := Lib.hid (by rw [List.map_append, List.map_singleton, ← HST.out])
      have HI1 : Hid (RdO w w.heap.size (w.heap.size + 3) (pre.map fun x => stepL x.2) w2) := Lib.hid (HI.out.keep (row := none) ⟨hb2.os, hb2.tape, hb2.output, hb2.size, fun k hk _ => hb2.block k hk⟩ (by omega) (by omega) (fun r e => by cases e))
      have HK1 : Hid (KeepsOthers W w2) := Lib.hid (keeps_belowR hb2)
      clear HI hb2 HPA HST
      by_cases hx : er = 0
      case neg =>
        obtain rfl := HBD.out hx
        have HOL2 : Hid (okL p = false) := Lib.hid (by rw [HOL.out]; rfl)
        obtain ⟨v, hv, ho⟩ := HI1.out.c0
        have e1 := HI1.out.c1.cell
        have f1 := HI1.out.c1.frozen
        have e2 := HI1.out.c2.cell
        have f2 := HI1.out.c2.frozen
        have e0 := hv.cell
        have f0 := hv.frozen
        have hgz : w.heap.size + 3 < w2.heap.size := HI1.out.sz
        have hg0 : w.heap.size < w2.heap.size := by omega
        have hg1 : w.heap.size + 1 < w2.heap.size := by omega
        have hg2 : w.heap.size + 1 + 1 < w2.heap.size := by omega
        clear hx HOL HBD HPM hv ho HI2 HKO HKT HX hal
        gi_wp2
        exact ⟨(HK1.out.trans (((KeepsOthers.setCell _ _ _).trans (KeepsOthers.setCell _ _ _)).trans (KeepsOthers.setCell _ _ _))).trans (KeepsOthers.alloc _ _), rfl, pre, (n, p), rfl, HOK.out, HOL2.out, (HI1.out.bad (Nat.le_refl _)).keep (World.grownBy_alloc _ _ none) (by omega) (by omega) (fun r e => by cases e)⟩
      obtain ⟨v, hv, ho⟩ := HI2.out.c0
      have e1 := HI2.out.c1.cell
      have f1 := HI2.out.c1.frozen
      have e2 := HI2.out.c2.cell
      have f2 := HI2.out.c2.frozen
      have e0 := hv.cell
      have f0 := hv.frozen
      have HV := Lib.hid hv
      have HO := Lib.hid ho
      clear hv ho
      generalize (pre.map fun x => stepL x.2) = acc at *
      have q0 := HX.out.cell 0
      have q1 := HX.out.cell 1
      have q2 := HX.out.cell 2
      have q3 := HX.out.cell 3
      have q4 := HX.out.cell 4
      have q5 := HX.out.cell 5
      have q6 := HX.out.cell 6
      have q7 := HX.out.cell 7
      have q8 := HX.out.cell 8
      subst hx
      have HOL2 : Hid (okL p = true) := Lib.hid (by rw [HOL.out]; rfl)
      clear HOL HBD
      obtain ⟨Au, cu, hu⟩ := own_form HO.out
      subst hu
      have hone := st_one st
      have hcc : stCells st = #[.int .i64 st.k, .int .i64 st.c.k, .int .i64 st.c.i, .int .i64 st.c.m, .int .i64 st.c.o, .int .i64 st.c.s, .int .i64 st.c.q, .int .i64 st.c.p, .int .i64 st.n] := rfl
      rw [hcc] at hone
      obtain ⟨i0, hi0, hz0, hz1', hz2'⟩ := info_parts st_info
      gi_wp2_with (gi_at_builtin; refine wpListIn_append_own _ rfl _ _ 38 rfl (w.heap.size + 3 + 1) TSt i0 _ 9 72 Tryz.underlying38 hi0 hz0 hz1' hz2' rfl (by decide) _ acc.length (stRows acc) rfl (HO.out.alloc _) ⟨w2.heap.size + 1, 0, none⟩ 1 1 [.int .i64 st.k, .int .i64 st.c.k, .int .i64 st.c.i, .int .i64 st.c.m, .int .i64 st.c.o, .int .i64 st.c.s, .int .i64 st.c.q, .int .i64 st.c.p, .int .i64 st.n] rfl rfl (new_cells _ _ #[_, _, _, _, _, _, _, _, _] (by simp)) hone (by simp only [maxLen]; omega) (by omega) (by have := HI2.out.sz; simp at this ⊢; omega) ?_; intro v' w5 hown5 hgr5 _; obtain ⟨hbx, hR, hK1, hK2⟩ := HI2.out.app (st := st) HV.out HO.out hown5 hgr5 (by omega) (Nat.le_refl _) hmx; obtain ⟨g9, cap9, hv9⟩ := ownsRow_succ hown5; subst hv9; have e5 := hbx.cell; have f5 := hbx.frozen; have HR5 := Lib.hid hR; have HK5 := Lib.hid (HKO.out.trans hK1); have HK6 := Lib.hid (kpT_t HKT.out hK2); clear hown5 hgr5 hbx hR hK1 hK2 HI2 HKO HKT HX HV HO q0 q1 q2 q3 q4 q5 q6 q7 q8 e0 f0 e1 f1 e2 f2)
      exact ⟨HK5.out, HK6.out, by rw [HPM.out]; exact HR5.out, fun x hx => by
        rcases List.mem_append.1 hx with hx | hx
        · exact HOK.out x hx
        · rw [List.mem_singleton.1 hx]; exact HOL2.out⟩
    case done =>
      rintro D W hD ⟨hI, hok⟩ hK
      have hmp : (numb 1 (lnsT t)).map (fun x => stepL x.2) = (lnsT t).map stepL := by
        conv => rhs; rw [← numb_map 1 (lnsT t), List.map_map]
        rfl
      have HQ : Hid (R = ((lnsT t).map stepL, 0, 0)) := Lib.hid (by
        rw [← HR.out]
        unfold readT
        rw [if_neg (by rw [← HCM.out]; omega), if_pos hen]
        exact readLs_ok fun p hp => by
          rw [← numb_map 1 (lnsT t)] at hp
          obtain ⟨x, hx, rfl⟩ := List.mem_map.1 hp
          exact hok x hx)
      rw [hmp] at hI
      have HI := Lib.hid hI
      obtain ⟨v, hv, ho⟩ := hI.c0
      obtain ⟨Au, cu, hu⟩ := own_form ho
      subst hu
      have HO := Lib.hid ho
      have e0 := hv.cell
      have f0 := hv.frozen
      have e1 := hI.c1.cell
      have f1 := hI.c1.frozen
      have e2 := hI.c2.cell
      have f2 := hI.c2.frozen
      clear hmp hok hI ho
      generalize (lnsT t).map stepL = acc at *
      obtain ⟨hK3, k0, k1, k2, k3, k4⟩ := HI.out.fin hv HO.out (by omega) (Nat.le_refl _) D _ (.deferred none) (by omega) hK rfl
      have HF := Lib.hid (And.intro k0 (And.intro k1 (And.intro k2 (And.intro k3 k4))))
      clear k0 k1 k2 k3 k4
      gi_wp2
      refine ⟨by simp, .inl ⟨_, _, rfl, run_takeDeferred hK3, ?_⟩⟩
      exact ⟨_, results33 rfl rfl rfl HF.out.1 HF.out.2.1 HF.out.2.2.1, by rw [HQ.out]; exact ⟨Au, cu, rfl, Seg.of_own HF.out.2.2.2.1, HF.out.2.2.2.2⟩⟩
    case stop =>
      rintro D c pre W hD hpf ⟨rfl, pre', x, rfl, hok, hbad, hX⟩ hK
      obtain ⟨hx1, more, hls⟩ := numb_next hpf
      have HQ : Hid (R = ([], x.1, 3)) := Lib.hid (by
        rw [← HR.out]
        unfold readT
        rw [if_neg (by rw [← HCM.out]; omega), if_pos hen, hls, readLs_bad more (fun p hp => by
          obtain ⟨y, hy, rfl⟩ := List.mem_map.1 hp
          exact hok y hy) hbad, List.length_map, hx1])
      have hX2 := hX.keep (grownBy_putObj' W D (.deferred none)) (by omega) (by omega) (fun r e => by injection e with e; omega)
      have HF := Lib.hid hX2
      have e0 := hX.c0.cell
      have e1 := hX.c1.cell
      have e2 := hX.c2.cell
      clear hX hX2 hok hbad hls hx1
      gi_wp2
      refine ⟨by simp, .inl ⟨_, _, rfl, run_takeDeferred hK, ?_⟩⟩
      exact ⟨_, results33 rfl rfl rfl HF.out.c0 HF.out.c1 HF.out.c2, by rw [HQ.out]; exact ⟨none, 0, rfl, Seg.nil, HF.out.b⟩⟩
end Go.Proofs.YtmplokdbbhlomaaGreatDoor
