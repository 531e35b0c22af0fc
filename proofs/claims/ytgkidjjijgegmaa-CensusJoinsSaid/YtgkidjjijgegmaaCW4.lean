/-
  What census.tallies comes to, given the sort's contract: a contract for callers.
-/
import Derived.Test.YtgkidjjijgegmaaCnLaw
import Derived.Test.YtgkidjjijgegmaaTwo
import Derived.Maps.AppendAt
namespace Go.Proofs.Ytgkidjjijgegmaa
open Go.RowKit Go.Maps

theorem tl_one (t : Tl) : ∀ u ∈ t.cells, u.oneCell' = true := by
  intro u hu
  simp [Tl.cells] at hu
  rcases hu with rfl | rfl | rfl | rfl | rfl | rfl | rfl <;> rfl
theorem tlRows_snoc (l : List Tl) (x : Tl) : tlRows (l ++ [x]) = tlRows l ++ x.cells := by simp [tlRows]
theorem tl_info : (Try.prog.info? 42).map (fun i => (i.zero, i.size, i.bytes)) = some (some (.agg #[.int .i64 0, .int .i64 0, .int .i64 0, .int .i64 0, .int .i64 0, .int .i64 0, .int .i64 0]), 7, 56) := by kernel_rfl
/-- What slices.SortFunc does to tallies of one's own. -/
def SortC : Prop := ∀ (T0 : List Tl) (A : Option Addr) (cap base : Nat) (W : World), W.ownsRow base 42 7 (.slice A T0.length cap) T0.length (tlRows T0) → T0.length ≤ 1000000 →
  Calls Try.prog 32 #[.slice A T0.length cap, .func (.func 33) #[] #[]] W fun e w' => e = .returned (.tuple #[]) ∧
    ∃ T, T.Perm T0 ∧ T.Pairwise (fun a b => ¬ sideLt b.q a.q) ∧ w'.ownsRow base 42 7 (.slice A T0.length cap) T0.length (tlRows T) ∧ W.grownBy w' (Value.slice A T0.length cap).ownBlock
/-- Tallies have come back, or the error. -/
def GotTs (g : Int × Int → Nat → Int) (w : World) (e : Ending) (w' : World) : Prop :=
  Below w.heap.size w w' ∧ ((∃ T A c, TalF g T ∧ (∀ q, okR (g q) = true) ∧ e = .returned (.tuple #[.slice A T.length c, .int .i64 0]) ∧ w'.ownsRow w.heap.size 42 7 (.slice A T.length c) T.length (tlRows T)) ∨
    ((∃ q, okR (g q) = false) ∧ e = .returned (.tuple #[.slice none 0 0, .int .i64 2])))
theorem Gr5.off_key {w : World} {base b : Nat} {m : List ((Int × Int) × Value)} {cf : Int × Int → Nat → Value} {f : Int × Int → Nat → List Int} (h : Gr5 w base b m cf f) {done : List (Int × Int)} (hd : ∀ p ∈ m, p.1 ∈ done) (q : Int × Int) (hq : q ∉ done) (j : Nat) : sumI (f q j) = 0 := by
  rw [(h.off q (fun p hp e => hq (e ▸ hd p hp)) j).2]
  rfl
theorem okR_zero {g : Nat → Int} (h : ∀ j, g j = 0) : okR g = true := okR_good fun j _ => by rw [h j]; unfold I64; omega
set_option maxRecDepth 100000 in
set_option maxHeartbeats 6400000 in
theorem tallies_pre (HSORT : SortC) (b base : Nat) (m : List ((Int × Int) × Value)) (cf : Int × Int → Nat → Value) (f : Int × Int → Nat → List Int) (w : World) (h : Gr5 w base b m cf f) (hI : ∀ q j, j < 5 → ∀ x ∈ f q j, I64 x) (hn : ∀ q j, j < 5 → (f q j).length ≤ 1000000) (hm : m.length ≤ 1000000) :
    Calls Try.prog 23 #[.map (some b)] w (GotTs (fun q j => sumI (f q j)) w) := by
  obtain ⟨i0, hi0, hz0, hz1', hz2⟩ := info_parts tl_info
  have HG := Lib.hid h
  have HI := Lib.hid hI
  have HN := Lib.hid hn
  have HS : Hid SortC := Lib.hid HSORT
  clear h hI hn HSORT
  obtain ⟨g, hg⟩ : ∃ g : Int × Int → Nat → Int, g = fun q j => sumI (f q j) := ⟨_, rfl⟩
  rw [← hg]
  have HGQ : Hid (∀ q, g q = fun j => sumI (f q j)) := Lib.hid fun q => by rw [hg]
  have HOFF : Hid (∀ done : List (Int × Int), (∀ p ∈ m, p.1 ∈ done) → ∀ q, q ∉ done → ∀ j, g q j = 0) := Lib.hid fun done hd q hq j => by rw [hg]; exact HG.out.off_key hd q hq j
  clear hg
  go_enter Try.func23, Try.ntmps23
  go_wp2_with (at_range; refine wpList_range_it _ rfl _ _ rfl Try.underlying56 rfl HG.out.map HG.out.stm ?_; intro w1 hit hb1 hz1)
  have HIT := Lib.hid hit
  have HB1 := Lib.hid hb1
  have hlt1 : w.heap.size < w1.heap.size := by omega
  clear hit hb1 hz1
  go_wp2_with fail
  go_frame
  go_loopw [4, 5, 6, 7, 8, 9] (fun u wv _ _ _ _ wr => ∃ (done : List (Int × Int)) (ev : Int), wv = .int .i64 ev ∧ Hid (ev = if badB g done then 2 else 0) ∧ Hid (ItAt Try.prog 60 encS wr b w.heap.size m done) ∧ Hid (wr.ownsRow w1.heap.size 42 7 u (outL g done).length (tlRows (outL g done))) ∧ Hid (Below w.heap.size w wr ∧ w1.heap.size ≤ wr.heap.size)) (fun _ _ _ _ _ _ wr => m.length - seenAt wr w.heap.size)
  case atStart => exact ⟨[], 0, rfl, rfl, HIT, World.ownsRow_nil _ _ _ _, HB1.out, Nat.le_refl _⟩
  case round =>
    obtain ⟨done, ev, rfl, HEV, HIT, HO, HB⟩ := hrel
    go_wp2_with (at_next; refine wpList_next_it _ encS_inj rfl _ rfl rfl HIT.out ?_ ?_)
    · intro hall0
      have hall : ∀ p ∈ m, p.1 ∈ done := fun p hp => hall0 p.1.1 p.1.2 p.2 hp
      clear hall0
      have hct := HIT.out.count
      have hol : (outL g done).length ≤ 1000000 := by have := outL_len g done; omega
      have HND := Lib.hid HIT.out.once
      cases hbd : badB g done with
      | true =>
        have hev : ev = 2 := by rw [HEV.out, hbd]; rfl
        subst hev
        have HX : Hid (∃ q, okR (g q) = false) := Lib.hid (by
          unfold badB at hbd
          obtain ⟨q, _, hq⟩ := List.any_eq_true.1 hbd
          exact ⟨q, by simpa using hq⟩)
        clear HIT HO HEV HND hbd
        go_wp2_with fail
        go_ret2
        exact ⟨HB.out.1, .inr ⟨HX.out, rfl⟩⟩
      | false =>
        have hev : ev = 0 := by rw [HEV.out, hbd]; rfl
        subst hev
        have HOK : Hid (∀ q, okR (g q) = true) := Lib.hid fun q => by
          by_cases hq : q ∈ done
          · unfold badB at hbd
            rw [List.any_eq_false] at hbd
            simpa using hbd q hq
          · exact okR_zero (HOFF.out done hall q hq)
        have HTF : Hid (∀ T, T.Perm (outL g done) → T.Pairwise (fun a b => ¬ sideLt b.q a.q) → TalF g T) := Lib.hid fun T h1 h2 => talF_of HND.out hbd (HOFF.out done hall) h1 h2
        obtain ⟨A, c, rfl⟩ := own_form HO.out
        have HSC := Lib.hid (HS.out (outL g done) A c w1.heap.size wr HO.out hol)
        clear HIT HEV HND hbd
        go_wp2_with fail
        refine HSC.out.mono ?_
        rintro e w2 ⟨rfl, T, hp, hs, ho, hgr⟩
        have hTL := hp.length_eq
        have HT := Lib.hid (HTF.out T hp hs)
        have HB2 : Hid (Below w.heap.size w w2) := Lib.hid (HB.out.1.grown hgr HB.out.1.size (fun j hj => by have := own_base HO.out j hj; omega))
        have HO2 : Hid (w2.ownsRow w.heap.size 42 7 (.slice A T.length c) T.length (tlRows T)) := Lib.hid (by
          rw [hTL]
          refine ⟨ho.1, ho.2.imp id ?_⟩
          rintro ⟨g, cap, cur, h1, h2, h3⟩
          exact ⟨g, cap, cur, h1, by omega, h3⟩)
        clear hp hs ho hgr HSC HO HB HTF
        go_wp2_with fail
        go_ret2
        exact ⟨HB2.out, .inl ⟨T, A, c, HT.out, HOK.out, by rw [hTL]; rfl, HO2.out⟩⟩
    · intro q1 q2 v w2 hq hnd hit hgr hsz hen
      obtain rfl : v = agg5 (cf (q1, q2)) := HG.out.val _ hq
      have HTC : Hid (∀ W, Below w.heap.size w W → Calls Try.prog 30 #[.agg #[.int .i64 q1, .int .i64 q2], .agg #[cf (q1, q2) 0, cf (q1, q2) 1, cf (q1, q2) 2, cf (q1, q2) 3, cf (q1, q2) 4]] W fun e w' => e = .returned (.tuple #[(tlV (q1, q2) (g (q1, q2))).val, .int .i64 (tlE (g (q1, q2)))]) ∧ Below W.heap.size W w') := Lib.hid fun W hW => by
        rw [HGQ.out (q1, q2)]
        refine tally_any (q1, q2) (cf (q1, q2)) (f (q1, q2)) W (fun j hj => ?_) (fun j hj => HI.out _ j hj) (fun j hj => Nat.le_trans (HN.out _ j hj) (by omega))
        have ho := HG.out.rows (q1, q2) j hj
        obtain ⟨A, c, e⟩ := own_form ho
        rw [e] at ho
        exact ⟨A, c, e, ((Seg.of_own ho).below hW).mono hW.size⟩
      have HIT2 := Lib.hid hit
      have HB2 : Hid (Below w.heap.size w w2) := Lib.hid (HB.out.1.grown hgr HB.out.1.size (fun k hk => by cases hk; exact Nat.le_refl _))
      have hw1 : w1.heap.size ≤ w2.heap.size := by have := HB.out.2; omega
      have HO2 : Hid (w2.ownsRow w1.heap.size 42 7 u4 (outL g done).length (tlRows (outL g done))) := Lib.hid (HO.out.kept hgr (by
        cases hk : u4.ownBlock with
        | none => exact .inl rfl
        | some k => exact .inr (by rw [← hk]; exact own_not_low HO.out (by omega))))
      have hsn : seenAt w2 w.heap.size = done.length + 1 := by rw [hit.seen]; simp
      have hsn0 := HIT.out.seen
      have hct := hit.count
      clear HIT HB HO hit hgr hsz hq hnd
      simp only [encS] at hen
      unfold agg5 at hen
      have e1 : encS (q1, q2) = .agg #[.int .i64 q1, .int .i64 q2] := rfl
      rw [e1]
      unfold agg5
      have hfm : ∀ j, j < 5 → ∃ A c, cf (q1, q2) j = .slice A (f (q1, q2) j).length c := fun j hj => own_form (HG.out.rows (q1, q2) j hj)
      obtain ⟨A0, c0, s0⟩ := hfm 0 (by omega)
      obtain ⟨A1, c1, s1⟩ := hfm 1 (by omega)
      obtain ⟨A2, c2, s2⟩ := hfm 2 (by omega)
      obtain ⟨A3, c3, s3⟩ := hfm 3 (by omega)
      obtain ⟨A4, c4, s4⟩ := hfm 4 (by omega)
      rw [s0, s1, s2, s3, s4] at HTC hen ⊢
      clear hfm s0 s1 s2 s3 s4 e1
      generalize (f (q1, q2) 0).length = n0 at *
      generalize (f (q1, q2) 1).length = n1 at *
      generalize (f (q1, q2) 2).length = n2 at *
      generalize (f (q1, q2) 3).length = n3 at *
      generalize (f (q1, q2) 4).length = n4 at *
      go_wp2_with fail
      have HB3 : Hid (Below w2.heap.size w2 ((w2.alloc (.cells #[.int .i64 q1, .int .i64 q2] 60)).alloc (.cells #[.slice A0 n0 c0, .slice A1 n1 c1, .slice A2 n2 c2, .slice A3 n3 c3, .slice A4 n4 c4] 62))) := Lib.hid (((Below.refl _ _).alloc (Nat.le_refl _) _).alloc (by simp) _)
      generalize ((w2.alloc (.cells #[.int .i64 q1, .int .i64 q2] 60)).alloc (.cells #[.slice A0 n0 c0, .slice A1 n1 c1, .slice A2 n2 c2, .slice A3 n3 c3, .slice A4 n4 c4] 62)) = w3 at *
      refine (HTC.out w3 (HB2.out.trans (HB3.out.mono HB2.out.size))).mono ?_
      rintro e w4 ⟨rfl, hb4⟩
      have HB4 : Hid (Below w2.heap.size w2 w4) := Lib.hid (HB3.out.trans (hb4.mono HB3.out.size))
      clear HTC HB3 hb4
      have HIT4 := Lib.hid (HIT2.out.below (Nat.le_refl _) HB4.out)
      have HO4 := Lib.hid (own_below HO2.out HB4.out)
      have HBW4 : Hid (Below w.heap.size w w4) := Lib.hid (HB2.out.trans (HB4.out.mono HB2.out.size))
      have hw4 : w1.heap.size ≤ w4.heap.size := Nat.le_trans hw1 HB4.out.size
      have hsn4 : ∀ W, Below w4.heap.size w4 W → seenAt W w.heap.size = done.length + 1 := fun W hW => by
        rw [(HIT4.out.below (Nat.le_refl _) hW).seen]; simp
      clear HIT2 HO2 HB2 HB4 hw1 hsn
      by_cases hok : okR (g (q1, q2)) = true
      · have HT : Hid (tlV (q1, q2) (g (q1, q2)) = tlOf (q1, q2) (g (q1, q2))) := Lib.hid (by unfold tlV; rw [if_pos hok])
        have HE : tlE (g (q1, q2)) = 0 := by unfold tlE; rw [if_pos hok]
        rw [HE, HT.out]
        unfold tlOf Tl.val
        go_wp2_with fail
        have HX := Lib.hid fun j => cell_new w4 #[.int .i64 q1, .int .i64 q2, .int .i64 (g (q1, q2) 0), .int .i64 (g (q1, q2) 1), .int .i64 (g (q1, q2) 2), .int .i64 (g (q1, q2) 3), .int .i64 (g (q1, q2) 4)] 42 (b := w4.heap.size) j rfl
        have HB5 : Hid (Below w4.heap.size w4 (w4.alloc (.cells #[.int .i64 q1, .int .i64 q2, .int .i64 (g (q1, q2) 0), .int .i64 (g (q1, q2) 1), .int .i64 (g (q1, q2) 2), .int .i64 (g (q1, q2) 3), .int .i64 (g (q1, q2) 4)] 42))) := Lib.hid ((Below.refl _ _).alloc (Nat.le_refl _) _)
        have hx5 : w4.heap.size < (w4.alloc (.cells #[.int .i64 q1, .int .i64 q2, .int .i64 (g (q1, q2) 0), .int .i64 (g (q1, q2) 1), .int .i64 (g (q1, q2) 2), .int .i64 (g (q1, q2) 3), .int .i64 (g (q1, q2) 4)] 42)).heap.size := by simp
        generalize (w4.alloc (.cells #[.int .i64 q1, .int .i64 q2, .int .i64 (g (q1, q2) 0), .int .i64 (g (q1, q2) 1), .int .i64 (g (q1, q2) 2), .int .i64 (g (q1, q2) 3), .int .i64 (g (q1, q2) 4)] 42)) = w5 at *
        have x0 : w5.cell? ⟨w4.heap.size, 0, none⟩ = some (.int .i64 q1) := HX.out 0
        have x1 : w5.cell? ⟨w4.heap.size, 1, none⟩ = some (.int .i64 q2) := HX.out 1
        have x2 : w5.cell? ⟨w4.heap.size, 2, none⟩ = some (.int .i64 (g (q1, q2) 0)) := HX.out 2
        have x3 : w5.cell? ⟨w4.heap.size, 3, none⟩ = some (.int .i64 (g (q1, q2) 1)) := HX.out 3
        have x4 : w5.cell? ⟨w4.heap.size, 4, none⟩ = some (.int .i64 (g (q1, q2) 2)) := HX.out 4
        have x5 : w5.cell? ⟨w4.heap.size, 5, none⟩ = some (.int .i64 (g (q1, q2) 3)) := HX.out 5
        have x6 : w5.cell? ⟨w4.heap.size, 6, none⟩ = some (.int .i64 (g (q1, q2) 4)) := HX.out 6
        have HNA := Lib.hid (none_any (tlOf (q1, q2) (g (q1, q2))) w5)
        unfold tlOf Tl.val at HNA
        refine HNA.out.mono ?_
        rintro e w6 ⟨rfl, hb6⟩
        have y0 := (hb6.cell (p := ⟨w4.heap.size, 0, none⟩) hx5).trans x0
        have y1 := (hb6.cell (p := ⟨w4.heap.size, 1, none⟩) hx5).trans x1
        have y2 := (hb6.cell (p := ⟨w4.heap.size, 2, none⟩) hx5).trans x2
        have y3 := (hb6.cell (p := ⟨w4.heap.size, 3, none⟩) hx5).trans x3
        have y4 := (hb6.cell (p := ⟨w4.heap.size, 4, none⟩) hx5).trans x4
        have y5 := (hb6.cell (p := ⟨w4.heap.size, 5, none⟩) hx5).trans x5
        have y6 := (hb6.cell (p := ⟨w4.heap.size, 6, none⟩) hx5).trans x6
        have HB6 : Hid (Below w4.heap.size w4 w6) := Lib.hid (HB5.out.trans (hb6.mono HB5.out.size))
        have hx6 : w4.heap.size < w6.heap.size := Nat.lt_of_lt_of_le hx5 hb6.size
        clear hb6 HB5 HX HNA hx5 x0 x1 x2 x3 x4 x5 x6
        have HBD : Hid (badB g (done ++ [(q1, q2)]) = badB g done) := Lib.hid (by rw [badB_snoc, hok]; simp)
        by_cases hno : tlNone (tlOf (q1, q2) (g (q1, q2))) = true
        · have hno' : tlNone ⟨(q1, q2), g (q1, q2) 0, g (q1, q2) 1, g (q1, q2) 2, g (q1, q2) 3, g (q1, q2) 4⟩ = true := hno
          rw [hno']
          go_wp2_with fail
          go_roundw
          case rel =>
            refine ⟨done ++ [(q1, q2)], ev, rfl, ?_, HIT4.out.below (Nat.le_refl _) HB6.out, ?_, HBW4.out.trans (HB6.out.mono HBW4.out.size), Nat.le_trans hw4 HB6.out.size⟩
            · show ev = _
              rw [HBD.out]
              exact HEV.out
            · show World.ownsRow _ _ _ _ _ _ _
              rw [outL_snoc_not (.inr hno)]
              exact own_below HO4.out HB6.out
          case measure => rw [hsn4 _ HB6.out, hsn0]; simp at hct; omega
        · have hnf : tlNone (tlOf (q1, q2) (g (q1, q2))) = false := by simpa using hno
          have hno' : tlNone ⟨(q1, q2), g (q1, q2) 0, g (q1, q2) 1, g (q1, q2) 2, g (q1, q2) 3, g (q1, q2) 4⟩ = false := hnf
          rw [hno']
          have hol : (outL g done).length ≤ 1000000 := by have := outL_len g done; simp at hct; omega
          have HOS := Lib.hid (outL_snoc_keep (done := done) hok hnf)
          have HRW : Hid (tlRows (outL g (done ++ [(q1, q2)])) = tlRows (outL g done) ++ [.int .i64 q1, .int .i64 q2, .int .i64 (g (q1, q2) 0), .int .i64 (g (q1, q2) 1), .int .i64 (g (q1, q2) 2), .int .i64 (g (q1, q2) 3), .int .i64 (g (q1, q2) 4)]) := Lib.hid (by rw [HOS.out, tlRows_snoc]; rfl)
          have HLN : Hid ((outL g (done ++ [(q1, q2)])).length = (outL g done).length + 1) := Lib.hid (by rw [HOS.out]; simp)
          have HO6 := Lib.hid (own_below HO4.out HB6.out)
          have HIT6 := Lib.hid (HIT4.out.below (Nat.le_refl _) HB6.out)
          clear HO4 HIT4 HOS hno hnf hno' HT HE
          generalize (outL g done).length = ol at *
          generalize tlRows (outL g done) = orw at *
          go_wp2_with (at_builtin; refine wpList_append_own _ rfl _ _ 25 rfl w1.heap.size 42 i0 _ 7 56 Try.underlying25 hi0 hz0 hz1' hz2 rfl (by decide) _ ol orw rfl (HO6.out.alloc _) ⟨w6.heap.size, 0, none⟩ 1 1 [.int .i64 q1, .int .i64 q2, .int .i64 (g (q1, q2) 0), .int .i64 (g (q1, q2) 1), .int .i64 (g (q1, q2) 2), .int .i64 (g (q1, q2) 3), .int .i64 (g (q1, q2) 4)] rfl rfl (new_cells _ _ #[_, _, _, _, _, _, _] (by simp)) (tl_one (tlOf (q1, q2) (g (q1, q2)))) (by simp only [maxLen]; omega) (by omega) (by simp; omega) ?_)
          intro v' w7 hown1 hgrow1 hat1
          have HBA := Lib.hid ((Below.refl w6.heap.size w6).alloc (Nat.le_refl _) (.cells #[.int .i64 q1, .int .i64 q2, .int .i64 (g (q1, q2) 0), .int .i64 (g (q1, q2) 1), .int .i64 (g (q1, q2) 2), .int .i64 (g (q1, q2) 3), .int .i64 (g (q1, q2) 4)] 42))
          have hn1 : some b ≠ u4.ownBlock := fun e => own_not_low HO6.out (g := b) (by have := HG.out.lt; omega) e.symm
          have hn2 : some w.heap.size ≠ u4.ownBlock := fun e => own_not_low HO6.out (g := w.heap.size) hlt1 e.symm
          have HIT7 := Lib.hid ((HIT6.out.below (Nat.le_refl _) HBA.out).kept hgrow1 hn1 hn2)
          have HBW6 := Lib.hid (HBW4.out.trans (HB6.out.mono HBW4.out.size))
          have HBW7 : Hid (Below w.heap.size w w7) := Lib.hid ((HBW6.out.trans (HBA.out.mono HBW6.out.size)).grown hgrow1 (Nat.le_trans HBW6.out.size HBA.out.size) (fun j hj => by have := own_base HO6.out j hj; omega))
          have hw7 : w1.heap.size ≤ w7.heap.size := Nat.le_trans (Nat.le_trans hw4 HB6.out.size) (Nat.le_trans HBA.out.size hgrow1.size)
          have hsn7 : seenAt w7 w.heap.size = done.length + 1 := by rw [HIT7.out.seen]; simp
          have HO7 : Hid (w7.ownsRow w1.heap.size 42 7 v' (outL g (done ++ [(q1, q2)])).length (tlRows (outL g (done ++ [(q1, q2)])))) := Lib.hid (by rw [HRW.out, HLN.out]; exact hown1)
          clear hown1 hgrow1 hat1 HO6 HIT6 HBA HBW6 HBW4 HB6 hn1 hn2 HRW HLN
          go_wp2_with fail
          go_roundw
          case rel => exact ⟨done ++ [(q1, q2)], ev, rfl, Lib.hid (by rw [HBD.out]; exact HEV.out), HIT7, HO7, HBW7.out, hw7⟩
          case measure => rw [hsn7, hsn0]; simp at hct; omega
      · have HT : Hid (tlV (q1, q2) (g (q1, q2)) = noTl) := Lib.hid (by unfold tlV; rw [if_neg hok])
        have HE : tlE (g (q1, q2)) = 2 := by unfold tlE; rw [if_neg hok]
        rw [HE, HT.out]
        unfold noTl Tl.val
        have hokf : okR (g (q1, q2)) = false := by simpa using hok
        go_wp2_with fail
        have HB5 := Lib.hid (((Below.refl w4.heap.size w4).alloc (Nat.le_refl _) (.cells #[.int .i64 0, .int .i64 0, .int .i64 0, .int .i64 0, .int .i64 0, .int .i64 0, .int .i64 0] 42)))
        go_roundw
        case rel =>
          refine ⟨done ++ [(q1, q2)], 2, rfl, ?_, HIT4.out.below (Nat.le_refl _) HB5.out, ?_, HBW4.out.trans (HB5.out.mono HBW4.out.size), Nat.le_trans hw4 HB5.out.size⟩
          · show (2 : Int) = _
            rw [badB_snoc, hokf]
            simp
          · show World.ownsRow _ _ _ _ _ _ _
            rw [outL_snoc_not (.inl hokf)]
            exact own_below HO4.out HB5.out
        case measure => rw [hsn4 _ HB5.out, hsn0]; simp at hct; omega
end Go.Proofs.Ytgkidjjijgegmaa
