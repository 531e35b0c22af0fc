/-
  What phase.follow comes to, over this seat's translation: a contract for callers.
-/
import Derived.Test.YtikcodnmlenpeaaDoorPhase
namespace Go.Proofs.YtikcodnmlenpeaaDoor
open Go.RowKit

theorem wpOp_insert {P : Program} {ops : Array Oper} {Q : Exit → Act → World → Prop} {K : Act → World → Prop} {a : Act} {W : World} {i : Nat} {o : Oper} (ho : ops[i]? = some o) (hg : o.guard = none) (t : TypeId) (mo xo vo : Operand) (hop : o.op = Op.insert t mo xo vo) (hd : o.dst = none)
    {k e : TypeId} {enc : Int × Int → Value} {Dom : Int × Int → Prop} (E : EncOk P k enc Dom) (ht : P.underlying t = some (.map k e)) {b : Nat} {q : Int × Int} {v : Value} (hm : a.eval mo = .map (some b)) (hx : a.eval xo = enc q) (hv : a.eval vo = v)
    {m : List ((Int × Int) × Value)} (hM : MapAt P k enc W b m) (hD : ∀ p ∈ m, Dom p.1) (hq : Dom q) (h : ∀ W', MapAt P k enc W' b (putM q v m) → W.grownBy W' (some b) → K a W') : wpOp P ops Q i K a W := by
  obtain ⟨W', hrun, r1, r2⟩ := hM.store E ht hD hq v
  unfold wpOp
  simp only [ho]
  have hw : Region.wanted o (yielded ops a.tmps) = true := by simp [Region.wanted, hg]
  rw [if_pos hw]
  left
  unfold Oper.wp
  simp [execOp, hop, hm, hx, hv, hrun, Result.andThen, Oper.upon, hd, Act.put]
  exact h W' r1 r2

/-- What follows, by what is short and what is last. -/
def folF (s l : Bool) (p : Int × Int) : Option Int := if l = true ∧ p = (4, 5) then some 5 else if s = true ∧ p = (2, 3) then some 3 else tgtF p
/-- A map has come back. -/
def FolP (s l : Bool) (w : World) : Ending → World → Prop := fun e w' => ∃ b m, e = .returned (.map (some b)) ∧ MapAt Tryd.prog 78 encII w' b m ∧ (∀ p ∈ m, DomII p.1) ∧ (∀ p, getM p m = (folF s l p).map (.int .i64)) ∧ Below w.heap.size w w'
theorem FolP.get {m : List ((Int × Int) × Value)} {f : Int × Int → Option Int} (h : ∀ p, getM p m = (f p).map (.int .i64)) (q : Int × Int) (n : Int) : ∀ p, getM p (putM q (.int .i64 n) m) = ((fun p => if p = q then some n else f p) p).map (.int .i64) := fun p => by
  by_cases c : q = p
  · subst c
    rw [get_put_same]
    simp
  · rw [get_put_other c, h p]
    have c' : ¬ p = q := fun e => c e.symm
    simp [c']
set_option maxHeartbeats 1600000 in
set_option maxRecDepth 100000 in
theorem follow_any (s l : Bool) (w : World) : Calls Tryd.prog 43 #[.bool s, .bool l] w (FolP s l w) := by
  have hmm := @run_makeMap Tryd.prog
  go_enter Tryd.func43, Tryd.ntmps43
  go_wp2_with fail
  refine wp_region_held_drew (S := fun _ => True) (by kernel_rfl) trivial (fun hHeld => ?_)
  refine wpAnyH_take (i := 1) (v := .agg #[.int .i64 1, .int .i64 1]) rfl (by kernel_rfl) (by kernel_rfl) (by kernel_rfl) (fun _ _ _ h => h) (Or.inl ⟨by rfl, fun w' hSw => by go_simp⟩) hHeld ?_
  refine wpAnyH_take (i := 3) (v := .agg #[.int .i64 2, .int .i64 2]) rfl (by kernel_rfl) (by kernel_rfl) (by kernel_rfl) (fun _ _ _ h => h) (Or.inl ⟨by rfl, fun w' hSw => by go_simp⟩) hHeld ?_
  refine wpAnyH_take (i := 5) (v := .agg #[.int .i64 2, .int .i64 3]) rfl (by kernel_rfl) (by kernel_rfl) (by kernel_rfl) (fun _ _ _ h => h) (Or.inl ⟨by rfl, fun w' hSw => by go_simp⟩) hHeld ?_
  refine wpAnyH_take (i := 7) (v := .agg #[.int .i64 3, .int .i64 4]) rfl (by kernel_rfl) (by kernel_rfl) (by kernel_rfl) (fun _ _ _ h => h) (Or.inl ⟨by rfl, fun w' hSw => by go_simp⟩) hHeld ?_
  refine wpAnyH_take (i := 9) (v := .agg #[.int .i64 4, .int .i64 4]) rfl (by kernel_rfl) (by kernel_rfl) (by kernel_rfl) (fun _ _ _ h => h) (Or.inl ⟨by rfl, fun w' hSw => by go_simp⟩) hHeld ?_
  refine wpAnyH_take (i := 11) (v := .agg #[.int .i64 4, .int .i64 5]) rfl (by kernel_rfl) (by kernel_rfl) (by kernel_rfl) (fun _ _ _ h => h) (Or.inl ⟨by rfl, fun w' hSw => by go_simp⟩) hHeld ?_
  refine wpAnyH_ready (rs := [0]) (by kernel_rfl) (by simp) ?_
  refine AllReadyH.cons rfl (fun K hK => ?_) AllReadyH.nil
  go_simp
  refine hK.out _ _ trivial (fun hHeld => ?_)
  clear hK K
  refine wpAnyH_inv _ (fun listed W => ∃ b0 b1 b2 b3 b4 b5 m, listed = #[true, true, b0, true, b1, true, b2, true, b3, true, b4, true, b5, false, false] ∧ MapAt Tryd.prog 78 encII W w.heap.size m ∧ Part6 m b0 b1 b2 b3 b4 b5 ∧ Below w.heap.size w W) (fun listed => listed = #[true, true, true, true, true, true, true, true, true, true, true, true, true, false, false]) ?_ ?_ _ _ _ (of_decide_eq_true (by kernel_rfl)) ⟨false, false, false, false, false, false, [], rfl, (MapAt.made _ _ _ w).drew, Part6.start, ((Below.refl _ _).alloc (Nat.le_refl _) _).drew⟩
  · rintro listed W ⟨b0, b1, b2, b3, b4, b5, m, rfl, hM, hP, hB⟩ hE
    have hsz := hB.size
    refine ⟨?_, fun i hi => ?_⟩
    · revert hE
      clear hM hP hB hsz
      revert b0 b1 b2 b3 b4 b5
      decide +kernel
    have hc : ((i == 2 && !b0) || ((i == 4 && !b1) || ((i == 6 && !b2) || ((i == 8 && !b3) || ((i == 10 && !b4) || (i == 12 && !b5)))))) = true := by
      refine (List.all_eq_true (p := fun i => ((i == 2 && !b0) || ((i == 4 && !b1) || ((i == 6 && !b2) || ((i == 8 && !b3) || ((i == 10 && !b4) || (i == 12 && !b5)))))))).1 ?_ i hi
      clear hM hP hB hsz hi
      revert hE
      revert b0 b1 b2 b3 b4 b5
      decide +kernel
    simp only [Bool.or_eq_true, Bool.and_eq_true, beq_iff_eq, Bool.not_eq_true'] at hc
    rcases hc with ⟨rfl, rfl⟩ | ⟨rfl, rfl⟩ | ⟨rfl, rfl⟩ | ⟨rfl, rfl⟩ | ⟨rfl, rfl⟩ | ⟨rfl, rfl⟩
    · refine wpOp_insert rfl rfl _ _ _ _ rfl rfl ev_enc Tryd.underlying75 (b := w.heap.size) (q := (1, 1)) (v := .int .i64 2) rfl rfl rfl hM hP.dom (by unfold DomII I64; simp) ?_
      intro W' hM' hg
      exact ⟨trivial, rfl, true, b1, b2, b3, b4, b5, _, rfl, hM', hP.put (n := 2) rfl (by unfold DomII I64; simp) true b1 b2 b3 b4 b5 (fun _ => .inr rfl) (fun h => .inl h) (fun h => .inl h) (fun h => .inl h) (fun h => .inl h) (fun h => .inl h), hB.grown hg hsz (fun k hk => by injection hk with hk; omega)⟩
    · refine wpOp_insert rfl rfl _ _ _ _ rfl rfl ev_enc Tryd.underlying75 (b := w.heap.size) (q := (2, 2)) (v := .int .i64 2) rfl rfl rfl hM hP.dom (by unfold DomII I64; simp) ?_
      intro W' hM' hg
      exact ⟨trivial, rfl, b0, true, b2, b3, b4, b5, _, rfl, hM', hP.put (n := 2) rfl (by unfold DomII I64; simp) b0 true b2 b3 b4 b5 (fun h => .inl h) (fun _ => .inr rfl) (fun h => .inl h) (fun h => .inl h) (fun h => .inl h) (fun h => .inl h), hB.grown hg hsz (fun k hk => by injection hk with hk; omega)⟩
    · refine wpOp_insert rfl rfl _ _ _ _ rfl rfl ev_enc Tryd.underlying75 (b := w.heap.size) (q := (2, 3)) (v := .int .i64 4) rfl rfl rfl hM hP.dom (by unfold DomII I64; simp) ?_
      intro W' hM' hg
      exact ⟨trivial, rfl, b0, b1, true, b3, b4, b5, _, rfl, hM', hP.put (n := 4) rfl (by unfold DomII I64; simp) b0 b1 true b3 b4 b5 (fun h => .inl h) (fun h => .inl h) (fun _ => .inr rfl) (fun h => .inl h) (fun h => .inl h) (fun h => .inl h), hB.grown hg hsz (fun k hk => by injection hk with hk; omega)⟩
    · refine wpOp_insert rfl rfl _ _ _ _ rfl rfl ev_enc Tryd.underlying75 (b := w.heap.size) (q := (3, 4)) (v := .int .i64 4) rfl rfl rfl hM hP.dom (by unfold DomII I64; simp) ?_
      intro W' hM' hg
      exact ⟨trivial, rfl, b0, b1, b2, true, b4, b5, _, rfl, hM', hP.put (n := 4) rfl (by unfold DomII I64; simp) b0 b1 b2 true b4 b5 (fun h => .inl h) (fun h => .inl h) (fun h => .inl h) (fun _ => .inr rfl) (fun h => .inl h) (fun h => .inl h), hB.grown hg hsz (fun k hk => by injection hk with hk; omega)⟩
    · refine wpOp_insert rfl rfl _ _ _ _ rfl rfl ev_enc Tryd.underlying75 (b := w.heap.size) (q := (4, 4)) (v := .int .i64 4) rfl rfl rfl hM hP.dom (by unfold DomII I64; simp) ?_
      intro W' hM' hg
      exact ⟨trivial, rfl, b0, b1, b2, b3, true, b5, _, rfl, hM', hP.put (n := 4) rfl (by unfold DomII I64; simp) b0 b1 b2 b3 true b5 (fun h => .inl h) (fun h => .inl h) (fun h => .inl h) (fun h => .inl h) (fun _ => .inr rfl) (fun h => .inl h), hB.grown hg hsz (fun k hk => by injection hk with hk; omega)⟩
    · refine wpOp_insert rfl rfl _ _ _ _ rfl rfl ev_enc Tryd.underlying75 (b := w.heap.size) (q := (4, 5)) (v := .int .i64 1) rfl rfl rfl hM hP.dom (by unfold DomII I64; simp) ?_
      intro W' hM' hg
      exact ⟨trivial, rfl, b0, b1, b2, b3, b4, true, _, rfl, hM', hP.put (n := 1) rfl (by unfold DomII I64; simp) b0 b1 b2 b3 b4 true (fun h => .inl h) (fun h => .inl h) (fun h => .inl h) (fun h => .inl h) (fun h => .inl h) (fun _ => .inr rfl), hB.grown hg hsz (fun k hk => by injection hk with hk; omega)⟩
  · rintro listed W ⟨b0, b1, b2, b3, b4, b5, m, rfl, hM, hP, hB⟩ hE fuel hf
    obtain ⟨rfl, rfl, rfl, rfl, rfl, rfl⟩ : b0 = true ∧ b1 = true ∧ b2 = true ∧ b3 = true ∧ b4 = true ∧ b5 = true := by simpa using hE
    have h2 : 2 ≤ fuel := Nat.le_trans (of_decide_eq_true (by kernel_rfl)) hf
    obtain ⟨fuel, rfl⟩ : ∃ f, fuel = f + 2 := ⟨fuel - 2, by omega⟩
    clear hf h2 hE
    refine wpAnyH_take (i := 13) (v := .map (some w.heap.size)) rfl (by kernel_rfl) (by kernel_rfl) (by kernel_rfl) (fun _ _ _ h => h) (Or.inl ⟨by rfl, fun w' hSw => by go_simp⟩) trivial ?_
    refine wpAnyH_take (i := 14) (v := .map (some w.heap.size)) rfl (by kernel_rfl) (by kernel_rfl) (by kernel_rfl) (fun _ _ _ h => h) (Or.inl ⟨by rfl, fun w' hSw => by go_simp⟩) trivial ?_
    refine wpAnyH_done (by kernel_rfl) ?_ _
    have hG := hP.all
    have hD := hP.dom
    have HM := Lib.hid hM
    have HD := Lib.hid hD
    have HG := Lib.hid hG
    have HB := Lib.hid hB
    clear hM hP hB hG hD hHeld hmm
    cases s
    · cases l
      ·
        go_wp2_with fail
        go_ret
        exact ⟨_, _, rfl, HM.out, HD.out, fun p => by rw [HG.out p]; simp [folF], HB.out⟩
      ·
        go_wp2_with (at_mapUpdate; refine wpList_store _ rfl _ _ _ _ rfl ev_enc Tryd.underlying75 (b := w.heap.size) (q := (4, 5)) (v := .int .i64 5) rfl rfl rfl HM.out HD.out (by unfold DomII I64; simp) ?_)
        intro W1 hM' hg
        have HM1 := Lib.hid hM'
        have HB1 : Hid (Below w.heap.size w W1) := HB.out.grown hg HB.out.size (fun k hk => by injection hk with hk; omega)
        have HD1 : Hid (∀ p ∈ putM (4, 5) (.int .i64 5) _, DomII p.1) := fun p hp => by
          rcases putM_keys hp with rfl | hp
          · unfold DomII I64; simp
          · exact HD.out p hp
        have HG1 := Lib.hid (FolP.get HG.out (4, 5) 5)
        clear hM' hg
        go_wp2_with fail
        go_ret
        exact ⟨_, _, rfl, HM1.out, HD1.out, fun p => by rw [HG1.out p]; simp [folF], HB1.out⟩
    · cases l
      ·
        go_wp2_with (at_mapUpdate; refine wpList_store _ rfl _ _ _ _ rfl ev_enc Tryd.underlying75 (b := w.heap.size) (q := (2, 3)) (v := .int .i64 3) rfl rfl rfl HM.out HD.out (by unfold DomII I64; simp) ?_)
        intro W1 hM' hg
        have HM1 := Lib.hid hM'
        have HB1 : Hid (Below w.heap.size w W1) := HB.out.grown hg HB.out.size (fun k hk => by injection hk with hk; omega)
        have HD1 : Hid (∀ p ∈ putM (2, 3) (.int .i64 3) _, DomII p.1) := fun p hp => by
          rcases putM_keys hp with rfl | hp
          · unfold DomII I64; simp
          · exact HD.out p hp
        have HG1 := Lib.hid (FolP.get HG.out (2, 3) 3)
        clear hM' hg
        go_wp2_with fail
        go_ret
        exact ⟨_, _, rfl, HM1.out, HD1.out, fun p => by rw [HG1.out p]; simp [folF], HB1.out⟩
      ·
        go_wp2_with (at_mapUpdate; refine wpList_store _ rfl _ _ _ _ rfl ev_enc Tryd.underlying75 (b := w.heap.size) (q := (2, 3)) (v := .int .i64 3) rfl rfl rfl HM.out HD.out (by unfold DomII I64; simp) ?_)
        intro W1 hM' hg
        have HM1 := Lib.hid hM'
        have HB1 : Hid (Below w.heap.size w W1) := HB.out.grown hg HB.out.size (fun k hk => by injection hk with hk; omega)
        have HD1 : Hid (∀ p ∈ putM (2, 3) (.int .i64 3) _, DomII p.1) := fun p hp => by
          rcases putM_keys hp with rfl | hp
          · unfold DomII I64; simp
          · exact HD.out p hp
        have HG1 := Lib.hid (FolP.get HG.out (2, 3) 3)
        clear hM' hg
        go_wp2_with (at_mapUpdate; refine wpList_store _ rfl _ _ _ _ rfl ev_enc Tryd.underlying75 (b := w.heap.size) (q := (4, 5)) (v := .int .i64 5) rfl rfl rfl HM1.out HD1.out (by unfold DomII I64; simp) ?_)
        intro W2 hM' hg
        have HM2 := Lib.hid hM'
        have HB2 : Hid (Below w.heap.size w W2) := HB1.out.grown hg HB1.out.size (fun k hk => by injection hk with hk; omega)
        have HD2 : Hid (∀ p ∈ putM (4, 5) (.int .i64 5) _, DomII p.1) := fun p hp => by
          rcases putM_keys hp with rfl | hp
          · unfold DomII I64; simp
          · exact HD1.out p hp
        have HG2 := Lib.hid (FolP.get HG1.out (4, 5) 5)
        clear hM' hg
        go_wp2_with fail
        go_ret
        exact ⟨_, _, rfl, HM2.out, HD2.out, fun p => by rw [HG2.out p]; simp [folF], HB2.out⟩
end Go.Proofs.YtikcodnmlenpeaaDoor
