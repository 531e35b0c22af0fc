/-
  What complineref33.Get and Same come to, over this seat's translation: contracts for callers.
-/
import Derived.Test.YtmplokdbbhlomaaDoorSr9
namespace Go.Proofs.YtmplokdbbhlomaaDoor
open Go.RowKit

theorem readS_zero {r : Rd} (h : (readS r).2.1 = 0) : (readS r).2.2 = rsOut r := by
  have h1 := (readS_got h).2.2.1
  have hr : ∀ R : St × Int × Rd, R.2.1 = 0 → R.2.2.e = 0 → R.2.2 = Rd.mk R.2.2.s R.2.1 := by
    rintro ⟨_, _, ⟨_, _⟩⟩ h h'
    simp only at h h'
    rw [h, h']
  exact hr _ h h1
theorem readS_err {r : Rd} : (rsOut r).e = (readS r).2.1 := rfl
/-- Where the document's loop over a script is. -/
structure G33 (N : Nat) (T : List St × Int × Rd) (k : Nat) (acc : List St) (r : Rd) : Prop where
  ok : r.e = 0 → T = appL acc (readL (N - k) r)
  no : r.e ≠ 0 → T.2.1 = r.e
theorem G33.step {N k : Nat} {T : List St × Int × Rd} {acc : List St} {r : Rd} (h : G33 N T k acc r) (h0 : r.e = 0) (hk : k < N) : G33 N T (k + 1) (acc ++ [(readS r).1]) (rsOut r) := by
  have hm : N - k = (N - (k + 1)) + 1 := by omega
  have h1 := h.ok h0
  rw [hm] at h1
  refine ⟨fun he => ?_, fun he => ?_⟩
  · have he2 : (readS r).2.1 = 0 := he
    rw [h1, appL_ok he2, readS_zero he2]
  · have he2 : (readS r).2.1 ≠ 0 := he
    rw [h1, appL_bad he2]
    rfl
theorem rEnd_err {r : Rd} (h : r.e ≠ 0) : rEnd r = r.e := by
  unfold rEnd
  rw [if_neg (fun hh => h hh.1)]
set_option maxRecDepth 100000 in
set_option maxHeartbeats 6400000 in
theorem srget_any (s : List UInt8) (w : World) (hl : s.length ≤ 1000000) : Calls Tryd.prog 12 #[.string (bs s)] w (GotS (getL s) w) := by
  obtain ⟨R, HR⟩ : ∃ R, Hid (R = getL s) := ⟨_, Lib.hid rfl⟩
  rw [← HR.out]
  unfold getL at HR
  have HUI := rUpto_in 1024 (by omega) ⟨s, 0⟩
  have HUO : Hid ((rUpto 1024 ⟨s, 0⟩).2.e ≠ 0 → (rUpto 1024 ⟨s, 0⟩).1 = 0) := Lib.hid rUpto_off
  have HR1 := Lib.hid (RdAt.made w s hl 60)
  have HB1 : Hid (Below w.heap.size w (w.alloc (.cells #[.string (bs s), .int .i64 0] 60))) := Lib.hid ((Below.refl _ _).alloc (Nat.le_refl _) _)
  go_enter Tryd.func12, Tryd.ntmps12
  go_wp2_with fail
  generalize w.alloc (.cells #[.string (bs s), .int .i64 0] 60) = w1 at *
  have HU := Lib.hid (rupto_any w.heap.size ⟨s, 0⟩ 1024 w1 HR1.out)
  generalize rUpto 1024 ⟨s, 0⟩ = U at *
  obtain ⟨n, r1⟩ := U
  simp only at HR HUI HU HUO
  refine HU.out.mono ?_
  rintro e w2 ⟨rfl, hr2, hg2⟩
  have HR2 : Hid (RdAt w2 w.heap.size r1) := Lib.hid hr2
  have HB2 : Hid (Below w.heap.size w w2) := Lib.hid (HB1.out.grown hg2 HB1.out.size (fun k hk => by injection hk with hk; omega))
  have hz2 : w.heap.size < w2.heap.size := HR2.out.lt
  clear hr2 hg2 HU HR1 HB1
  obtain ⟨N, rfl⟩ : ∃ N : Nat, n = (N : Int) := ⟨n.toNat, by omega⟩
  obtain ⟨T, HTE⟩ : ∃ T : List St × Int × Rd, Hid (T = if r1.e = 0 then readL N r1 else ([], r1.e, r1)) := ⟨_, Lib.hid rfl⟩
  have HT : Hid (R = if T.2.1 = 0 then (if rEnd T.2.2 = 0 then (T.1, 0) else ([], rEnd T.2.2)) else ([], T.2.1)) := Lib.hid (by
    by_cases h1 : r1.e = 0
    · rw [HR.out, if_pos h1, Int.toNat_natCast, HTE.out, if_pos h1]
    · rw [HR.out, if_neg h1, HTE.out, if_neg h1, if_neg h1])
  have HG0 : Hid (G33 N T 0 [] r1) := Lib.hid ⟨fun h1 => by rw [HTE.out, if_pos h1]; exact (appL_nil (readL N r1) (readL_off N r1)).symm, fun h1 => by rw [HTE.out, if_neg h1]⟩
  clear HR HTE HUO
  obtain ⟨i0, hi0, hz0, hz1', hz2'⟩ := info_parts st_info
  go_wp2_with fail
  go_loopw [6, 7] (fun u i wr => ∃ (k : Nat) (acc : List St) (r : Rd), k ≤ N ∧ i = .int .i64 k ∧ acc.length = k ∧ Hid (G33 N T k acc r) ∧ Hid (RdAt wr w.heap.size r) ∧ Hid (wr.ownsRow (w.heap.size + 1) TSt 9 u acc.length (stRows acc)) ∧ Hid (Below w.heap.size w wr)) (fun _ i _ => N - (intOf i).toNat)
  case atStart => exact ⟨0, [], r1, Nat.zero_le _, rfl, rfl, HG0, HR2, World.ownsRow_nil _ _ _ _, HB2⟩
  case round =>
    clear HG0 HR2 HB2
    obtain ⟨k, acc, r, hk, rfl, hal, HA, HRD, HO, HB⟩ := hrel
    have hsz := HB.out.size
    have e1 : wr.cell? ⟨w.heap.size, 1, none⟩ = some (.int .i64 r.e) := HRD.out.c1
    by_cases hgo : k < N ∧ r.e = 0
    · obtain ⟨hlt, h0⟩ := hgo
      have hb0 : (r.e == 0) = true := by simpa using h0
      have HRS := Lib.hid (srread_any w.heap.size r wr HRD.out)
      have HA2 := Lib.hid (HA.out.step h0 hlt)
      generalize (readS r).1 = x at *
      generalize rsOut r = r' at *
      unfold stV at HRS
      clear HA h0
      go_wp2_with (go_at_call 29; refine HRS.out.mono ?_)
      rintro e w3 ⟨rfl, hr3, hg3⟩
      have HR3 : Hid (RdAt w3 w.heap.size r') := Lib.hid hr3
      have HO3 := Lib.hid (HO.out.kept hg3 (.inr (own_low HO.out (by omega))))
      have HB3 : Hid (Below w.heap.size w w3) := Lib.hid (HB.out.grown hg3 hsz (fun k hk => by injection hk with hk; omega))
      have hsz3 := HB3.out.size
      have hz3 : w.heap.size < w3.heap.size := HR3.out.lt
      clear hr3 hg3 HRS HRD HO HB e1
      have hcc : stCells x = #[.int .i64 x.k, .int .i64 x.c.k, .int .i64 x.c.i, .int .i64 x.c.m, .int .i64 x.c.o, .int .i64 x.c.s, .int .i64 x.c.q, .int .i64 x.c.p, .int .i64 x.n] := rfl
      have hone := st_one x
      rw [hcc] at hone ⊢
      go_wp2_with (at_builtin; refine wpList_append_own _ rfl _ _ 22 rfl (w.heap.size + 1) TSt i0 _ 9 72 Tryd.underlying22 hi0 hz0 hz1' hz2' rfl (by decide) _ acc.length (stRows acc) rfl (HO3.out.alloc _) ⟨w3.heap.size, 0, none⟩ 1 1 [.int .i64 x.k, .int .i64 x.c.k, .int .i64 x.c.i, .int .i64 x.c.m, .int .i64 x.c.o, .int .i64 x.c.s, .int .i64 x.c.q, .int .i64 x.c.p, .int .i64 x.n] rfl rfl (new_cells _ _ #[_, _, _, _, _, _, _, _, _] rfl) hone (by simp only [maxLen]; omega) (by omega) (by simp; omega) ?_)
      intro v' w5 hown5 hgr5 _
      have HO5 : Hid (w5.ownsRow (w.heap.size + 1) TSt 9 v' (acc ++ [x]).length (stRows (acc ++ [x]))) := Lib.hid (by rw [stRows_snoc, List.length_append, hal]; exact hown5)
      have hne : some w.heap.size ≠ u6.ownBlock := fun e => own_low HO3.out (g := w.heap.size) (by omega) e.symm
      have HR5 : Hid (RdAt w5 w.heap.size r') := Lib.hid ((HR3.out.below ((Below.refl _ _).alloc (Nat.le_refl _) _)).kept hgr5 hne)
      have HB5 : Hid (Below w.heap.size w w5) := Lib.hid ((HB3.out.alloc (by omega) _).grown hgr5 (by simp; omega) (fun j hj => by have := own_base HO3.out j hj; omega))
      clear hown5 hgr5 hne HR3 HB3 HO3 hone hcc
      go_wp2_with fail
      go_roundw
      case rel => exact ⟨k + 1, acc ++ [x], r', by omega, by go_num, by rw [List.length_append, hal]; rfl, HA2, HR5, HO5, HB5⟩
      case measure => simp [intOf]; omega
    · have HEN := Lib.hid (rend_any w.heap.size r wr HRD.out)
      have HQ : Hid (R = if rEnd r = 0 then (acc, 0) else ([], rEnd r)) := Lib.hid (by
        by_cases h0 : r.e = 0
        · obtain rfl : k = N := by
            apply Classical.byContradiction
            intro hh
            exact hgo ⟨by omega, h0⟩
          have hT := HA.out.ok h0
          rw [Nat.sub_self] at hT
          have hT2 : T = (acc, 0, r) := by rw [hT]; simp [appL, readL]
          rw [HT.out, hT2]
          exact if_pos rfl
        · have hT := HA.out.no h0
          have h3 := rEnd_err h0
          rw [HT.out, if_neg (by rw [hT]; exact h0), h3, if_neg h0, hT])
      obtain ⟨Au, cu, hu⟩ : ∃ Au cu, u6 = .slice Au acc.length cu := by
        rcases HO.out.2 with ⟨hv, h0⟩ | ⟨g, cap, cur, hv, _⟩
        · exact ⟨none, 0, by rw [hv, h0]⟩
        · exact ⟨_, _, hv⟩
      subst hu
      clear HT HA
      have HTL : Hid (∀ Q : Prop, (¬ k < N → Q) → (k < N → (r.e == 0) = false → Q) → Q) := Lib.hid fun Q f g => by
        by_cases hlt : k < N
        · exact g hlt (by simpa using fun h0 => hgo ⟨hlt, h0⟩)
        · exact f hlt
      clear hgo
      generalize rEnd r = en at *
      refine HTL.out _ (fun hd => ?_) (fun hd hb0 => ?_)
      all_goals
        by_cases he : en = 0
        · subst he
          have HQ2 : Hid (R = (acc, 0)) := Lib.hid (by rw [HQ.out]; rfl)
          go_wp2_with (go_at_call 30; refine HEN.out.mono ?_; rintro e we ⟨rfl, hwe⟩; obtain rfl := hwe.symm)
          go_ret2
          rw [HQ2.out]
          exact ⟨Au, cu, by simp only [hal]; rfl, Seg.of_own HO.out, HB.out⟩
        · have hbe : (en != 0) = true := by simpa using he
          have HQ2 : Hid (R = ([], en)) := Lib.hid (by rw [HQ.out, if_neg he])
          go_wp2_with (go_at_call 30; refine HEN.out.mono ?_; rintro e we ⟨rfl, hwe⟩; obtain rfl := hwe.symm)
          go_ret2
          rw [HQ2.out]
          exact ⟨none, 0, rfl, Seg.nil, HB.out⟩
end Go.Proofs.YtmplokdbbhlomaaDoor
