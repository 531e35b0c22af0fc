/-
  What script.Get comes to, over this seat's translation: a contract for callers.
-/
import Derived.Test.YtmplokdbbhlomaaDoorSc13
namespace Go.Proofs.YtmplokdbbhlomaaDoor
open Go.RowKit

/-- What stands ahead, and what is read behind it. -/
def appL (acc : List St) (T : List St × Int × Rd) : List St × Int × Rd := if T.2.1 = 0 then (acc ++ T.1, 0, T.2.2) else ([], T.2.1, T.2.2)
theorem appL_nil (T : List St × Int × Rd) (h : T.2.1 ≠ 0 → T.1 = []) : appL [] T = T := by
  obtain ⟨l, e, r⟩ := T
  unfold appL
  by_cases he : e = 0
  · subst he
    simp
  · have := h he
    simp only at this
    subst this
    simp [he]
theorem readL_off : ∀ (n : Nat) (r : Rd), (readL n r).2.1 ≠ 0 → (readL n r).1 = []
  | 0, _, h => absurd rfl h
  | n + 1, r, h => by
    unfold readL at h ⊢
    repeat' split
    all_goals first | rfl | skip
    rename_i h1 h2
    rw [if_pos h1, if_pos h2] at h
    exact absurd rfl h
theorem appL_ok {acc : List St} {n : Nat} {r : Rd} (h : (readS r).2.1 = 0) : appL acc (readL (n + 1) r) = appL (acc ++ [(readS r).1]) (readL n (readS r).2.2) := by
  rw [readL, if_pos h]
  by_cases h2 : (readL n (readS r).2.2).2.1 = 0
  · rw [if_pos h2]
    unfold appL
    simp [h2]
  · rw [if_neg h2]
    unfold appL
    simp [h2]
theorem appL_bad {acc : List St} {n : Nat} {r : Rd} (h : (readS r).2.1 ≠ 0) : appL acc (readL (n + 1) r) = ([], (readS r).2.1, (readS r).2.2) := by
  rw [readL, if_neg h]
  unfold appL
  simp [h]
/-- A script that has come back. -/
def GotS (R : List St × Int) (w : World) (e : Ending) (w' : World) : Prop := ∃ A c, e = .returned (.tuple #[.slice A R.1.length c, .int .i64 R.2]) ∧ Seg w' w'.heap.size A (stRows R.1) ∧ Below w.heap.size w w'
theorem st_info : (Tryd.prog.info? TSt).map (fun i => (i.zero, i.size, i.bytes)) = some (some (.agg #[.int .i64 0, .int .i64 0, .int .i64 0, .int .i64 0, .int .i64 0, .int .i64 0, .int .i64 0, .int .i64 0, .int .i64 0]), 9, 72) := by kernel_rfl
theorem st_one (x : St) : ∀ u ∈ (stCells x).toList, u.oneCell' = true := by
  intro u hu
  simp [stCells] at hu
  rcases hu with rfl | rfl | rfl | rfl | rfl | rfl | rfl | rfl | rfl <;> rfl
theorem stRows_snoc (l : List St) (x : St) : stRows (l ++ [x]) = stRows l ++ (stCells x).toList := by simp [stRows]
theorem own_low {w : World} {base : Nat} {e : TypeId} {size n : Nat} {v : Value} {xs : List Value} (h : w.ownsRow base e size v n xs) {g : Nat} (hg : g < base) : v.ownBlock ≠ some g := fun e => by
  have := (h.lt _ e).1
  omega
set_option maxRecDepth 100000 in
set_option maxHeartbeats 6400000 in
theorem sget_any (s : List UInt8) (w : World) (hl : s.length ≤ 1000000) : Calls Tryd.prog 8 #[.string (bs s)] w (GotS (getL s) w) := by
  obtain ⟨R, HR⟩ : ∃ R, Hid (R = getL s) := ⟨_, Lib.hid rfl⟩
  rw [← HR.out]
  unfold getL at HR
  have HUI := rUpto_in 1024 (by omega) ⟨s, 0⟩
  go_enter Tryd.func8, Tryd.ntmps8
  go_wp2_with (go_at_call 20; refine (new_any s w hl).mono ?_)
  rintro e w1 ⟨rfl, hr1, hb1⟩
  have HR1 := Lib.hid hr1
  have HB1 : Hid (Below w.heap.size w w1) := Lib.hid hb1
  clear hr1 hb1
  have HU := Lib.hid (upto_any w.heap.size ⟨s, 0⟩ 1024 w1 HR1.out)
  generalize rUpto 1024 ⟨s, 0⟩ = U at *
  obtain ⟨n, r1⟩ := U
  simp only at HR HUI HU
  go_wp2_with (go_at_call 21; refine HU.out.mono ?_)
  rintro e w2 ⟨rfl, hr2, hg2⟩
  have HR2 : Hid (RdAt w2 w.heap.size r1) := Lib.hid hr2
  have HB2 : Hid (Below w.heap.size w w2) := Lib.hid (HB1.out.grown hg2 HB1.out.size (fun k hk => by injection hk with hk; omega))
  have hz2 : w.heap.size < w2.heap.size := HR2.out.lt
  clear hr2 hg2 HU HR1 HB1
  have HE2 := Lib.hid (err_any w.heap.size r1 w2 HR2.out)
  by_cases h1 : r1.e = 0
  case neg =>
    have hb : (r1.e != 0) = true := by simpa using h1
    have HQ : Hid (R = ([], r1.e)) := Lib.hid (by rw [HR.out, if_neg h1])
    clear HR
    go_wp2_with (go_at_call 22; refine HE2.out.mono ?_; rintro e we ⟨rfl, hwe⟩; obtain rfl := hwe.symm)
    go_ret2
    rw [HQ.out]
    exact ⟨none, 0, rfl, Seg.nil, HB2.out⟩
  have hb : (r1.e != 0) = false := by simpa using h1
  obtain ⟨N, rfl⟩ : ∃ N : Nat, n = (N : Int) := ⟨n.toNat, by omega⟩
  have HT : Hid (R = if (readL N r1).2.1 = 0 then (if rEnd (readL N r1).2.2 = 0 then ((readL N r1).1, 0) else ([], rEnd (readL N r1).2.2)) else ([], (readL N r1).2.1)) := Lib.hid (by rw [HR.out, if_pos h1, Int.toNat_natCast])
  clear HR
  have hA0 := appL_nil (readL N r1) (readL_off N r1)
  obtain ⟨T, hT⟩ : ∃ T, T = readL N r1 := ⟨_, rfl⟩
  rw [← hT] at HT hA0
  have HA0 : Hid (T = appL [] (readL N r1)) := Lib.hid (by rw [← hT]; exact hA0.symm)
  clear hT hA0
  obtain ⟨i0, hi0, hz0, hz1', hz2'⟩ := info_parts st_info
  go_wp2_with (go_at_call 22; refine HE2.out.mono ?_; rintro e we ⟨rfl, hwe⟩; obtain rfl := hwe.symm)
  clear HE2
  go_loopw [7, 8, 9, 21] (fun u _ _ i wr => ∃ (k : Nat) (acc : List St) (r : Rd), k ≤ N ∧ i = .int .i64 k ∧ acc.length = k ∧ Hid (T = appL acc (readL (N - k) r)) ∧ Hid (RdAt wr w.heap.size r) ∧ Hid (wr.ownsRow (w.heap.size + 1) TSt 9 u acc.length (stRows acc)) ∧ Hid (Below w.heap.size w wr)) (fun _ _ _ i _ => N - (intOf i).toNat)
  case atStart => exact ⟨0, [], r1, Nat.zero_le _, rfl, rfl, HA0, HR2, World.ownsRow_nil _ _ _ _, HB2⟩
  case round =>
    clear HA0 HR2 HB2
    obtain ⟨k, acc, r, hk, rfl, hal, HA, HRD, HO, HB⟩ := hrel
    have hsz := HB.out.size
    by_cases hlt : k < N
    · have hm : N - k = (N - (k + 1)) + 1 := by omega
      have HRS := Lib.hid (sread_any w.heap.size r wr HRD.out)
      have HAO : Hid ((readS r).2.1 = 0 → T = appL (acc ++ [(readS r).1]) (readL (N - (k + 1)) (readS r).2.2)) := Lib.hid (fun h => by rw [HA.out, hm]; exact appL_ok h)
      have HAB : Hid ((readS r).2.1 ≠ 0 → T = ([], (readS r).2.1, (readS r).2.2)) := Lib.hid (fun h => by rw [HA.out, hm]; exact appL_bad h)
      have hk0 : (0 : Int) ≤ (k : Int) := by omega
      have hkb : (k : Int) < (N : Int) := by omega
      clear hm HA
      generalize readS r = Q at *
      obtain ⟨x, ex, r'⟩ := Q
      simp only at HRS HAO HAB
      unfold stV at HRS
      go_wp2_with (go_at_call 23; refine HRS.out.mono ?_)
      rintro e w3 ⟨rfl, hr3, hg3⟩
      have HR3 : Hid (RdAt w3 w.heap.size r') := Lib.hid hr3
      have HO3 := Lib.hid (HO.out.kept hg3 (.inr (own_low HO.out (by omega))))
      have HB3 : Hid (Below w.heap.size w w3) := Lib.hid (HB.out.grown hg3 hsz (fun k hk => by injection hk with hk; omega))
      have hsz3 := HB3.out.size
      have hz3 : w.heap.size < w3.heap.size := HR3.out.lt
      clear hr3 hg3 HRS HRD HO HB
      have HBX : Hid (Below w3.heap.size w3 (w3.alloc (.cells (stCells x) TSt))) := Lib.hid ((Below.refl _ _).alloc (Nat.le_refl _) _)
      have HX4 : Hid (CsAt (w3.alloc (.cells (stCells x) TSt)) w3.heap.size (stCells x)) := Lib.hid (CsAt.made _ _ _)
      have HR4 := Lib.hid (HR3.out.below HBX.out)
      have HO4 := Lib.hid (own_keepS HO3.out HBX.out)
      have HB4 : Hid (Below w.heap.size w (w3.alloc (.cells (stCells x) TSt))) := Lib.hid (HB3.out.trans (HBX.out.mono hsz3))
      have hcc : stCells x = #[.int .i64 x.k, .int .i64 x.c.k, .int .i64 x.c.i, .int .i64 x.c.m, .int .i64 x.c.o, .int .i64 x.c.s, .int .i64 x.c.q, .int .i64 x.c.p, .int .i64 x.n] := rfl
      rw [hcc] at HX4 HR4 HO4 HB4 ⊢
      by_cases hx : ex = 0
      case neg =>
        have hbx : (ex != 0) = true := by simpa using hx
        have HT2 := Lib.hid (HAB.out hx)
        have HQ : Hid (R = ([], ex)) := Lib.hid (by rw [HT.out, HT2.out]; exact if_neg hx)
        clear HAO HAB HT HT2 hcc
        go_wp2_with fail
        go_ret2
        rw [HQ.out]
        exact ⟨none, 0, rfl, Seg.nil, HB4.out⟩
      subst hx
      have HT2 := Lib.hid (HAO.out rfl)
      have hz4 : w.heap.size + 1 ≤ (w3.alloc (.cells #[.int .i64 x.k, .int .i64 x.c.k, .int .i64 x.c.i, .int .i64 x.c.m, .int .i64 x.c.o, .int .i64 x.c.s, .int .i64 x.c.q, .int .i64 x.c.p, .int .i64 x.n] TSt)).heap.size := by simp; omega
      clear HAO HAB HT
      have q0 := HX4.out.cell 0
      have q1 := HX4.out.cell 1
      have q2 := HX4.out.cell 2
      have q3 := HX4.out.cell 3
      have q4 := HX4.out.cell 4
      have q5 := HX4.out.cell 5
      have q6 := HX4.out.cell 6
      have q7 := HX4.out.cell 7
      have q8 := HX4.out.cell 8
      have hone := st_one x
      rw [hcc] at hone
      go_wp2_with (at_builtin; refine wpList_append_own _ rfl _ _ 22 rfl (w.heap.size + 1) TSt i0 _ 9 72 Tryd.underlying22 hi0 hz0 hz1' hz2' rfl (by decide) _ acc.length (stRows acc) rfl (HO4.out.alloc _) ⟨w3.heap.size + 1, 0, none⟩ 1 1 [.int .i64 x.k, .int .i64 x.c.k, .int .i64 x.c.i, .int .i64 x.c.m, .int .i64 x.c.o, .int .i64 x.c.s, .int .i64 x.c.q, .int .i64 x.c.p, .int .i64 x.n] rfl rfl (new_cells _ _ #[_, _, _, _, _, _, _, _, _] (by simp)) hone (by simp only [maxLen]; omega) (by omega) (by simp; omega) ?_)
      intro v' w5 hown5 hgr5 _
      have HO5 : Hid (w5.ownsRow (w.heap.size + 1) TSt 9 v' (acc ++ [x]).length (stRows (acc ++ [x]))) := Lib.hid (by rw [stRows_snoc, List.length_append, hal]; exact hown5)
      have hne : some w.heap.size ≠ u7.ownBlock := fun e => own_low HO4.out (g := w.heap.size) (by omega) e.symm
      have HR5 : Hid (RdAt w5 w.heap.size r') := Lib.hid ((HR4.out.below ((Below.refl _ _).alloc (Nat.le_refl _) _)).kept hgr5 hne)
      have HB5 : Hid (Below w.heap.size w w5) := Lib.hid ((HB4.out.alloc (by omega) _).grown hgr5 (by simp; omega) (fun j hj => by have := own_base HO4.out j hj; omega))
      clear hown5 hgr5 hne HR4 HB4 HO4 q0 q1 q2 q3 q4 q5 q6 q7 q8 HX4 HBX HO3 HB3 HR3 hone hcc
      go_wp2_with fail
      go_roundw
      case rel => exact ⟨k + 1, acc ++ [x], r', by omega, by go_num, by rw [List.length_append, hal]; rfl, HT2, HR5, HO5, HB5⟩
      case measure => simp [intOf]; omega
    · obtain rfl : k = N := by omega
      have HT2 : Hid (T = (acc, 0, r)) := Lib.hid (by rw [HA.out, Nat.sub_self]; simp [appL, readL])
      have HQ : Hid (R = if rEnd r = 0 then (acc, 0) else ([], rEnd r)) := Lib.hid (by rw [HT.out, HT2.out]; exact if_pos rfl)
      have HEN := Lib.hid (end_any w.heap.size r wr HRD.out)
      obtain ⟨Au, cu, hu⟩ : ∃ Au cu, u7 = .slice Au acc.length cu := by
        rcases HO.out.2 with ⟨hv, h0⟩ | ⟨g, cap, cur, hv, _⟩
        · exact ⟨none, 0, by rw [hv, h0]⟩
        · exact ⟨_, _, hv⟩
      subst hu
      clear HT HA HT2
      generalize rEnd r = en at *
      by_cases he : en = 0
      · subst he
        have HQ2 : Hid (R = (acc, 0)) := Lib.hid (by rw [HQ.out]; rfl)
        go_wp2_with (go_at_call 24; refine HEN.out.mono ?_; rintro e we ⟨rfl, hwe⟩; obtain rfl := hwe.symm)
        go_ret2
        rw [HQ2.out]
        exact ⟨Au, cu, by simp only [hal]; rfl, Seg.of_own HO.out, HB.out⟩
      · have hbe : (en != 0) = true := by simpa using he
        have HQ2 : Hid (R = ([], en)) := Lib.hid (by rw [HQ.out, if_neg he])
        go_wp2_with (go_at_call 24; refine HEN.out.mono ?_; rintro e we ⟨rfl, hwe⟩; obtain rfl := hwe.symm)
        go_ret2
        rw [HQ2.out]
        exact ⟨none, 0, rfl, Seg.nil, HB.out⟩
end Go.Proofs.YtmplokdbbhlomaaDoor
