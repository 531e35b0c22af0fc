/-
  Two sheets side by side, the program's and the document's: what a call on both comes to, over this seat's translation.
-/
import Derived.Test.YtkjkkcaiddeggaaObRef4
namespace Go.Proofs.Ytkjkkcaiddeggaa
open Go.RowKit

/-- Two sheets that read alike, each with a row of its own. -/
structure Two (w : World) (bs bq base : Nat) (v vq : Value) (L : List Ob) : Prop where
  s : ShAt w bs base v L
  q : RfAt w bq base vq L
  ne : ∀ j, v.ownBlock = some j → vq.ownBlock ≠ some j
/-- Only the two sheets' own blocks have turned. -/
structure Only2 (bs bq : Nat) (v vq : Value) (w w' : World) : Prop where
  os : w'.os = w.os
  tape : w'.tape = w.tape
  output : w'.output = w.output
  size : w.heap.size ≤ w'.heap.size
  block : ∀ k, k < w.heap.size → k ≠ bs → k ≠ bq → some k ≠ v.ownBlock → some k ≠ vq.ownBlock → w'.heap[k]? = w.heap[k]?
theorem Only2.below {bs bq B : Nat} {v vq : Value} {w w' : World} (h : Only2 bs bq v vq w w') (h1 : B ≤ bs) (h2 : B ≤ bq) (h3 : ∀ k, v.ownBlock = some k → B ≤ k) (h4 : ∀ k, vq.ownBlock = some k → B ≤ k) (h5 : B ≤ w.heap.size) : Below B w w' :=
  ⟨h.os, h.tape, h.output, h.size, fun k hk => h.block k (by omega) (by omega) (by omega) (fun e => by have := h3 k e.symm; omega) (fun e => by have := h4 k e.symm; omega)⟩
theorem Only2.of_below {bs bq : Nat} {v vq : Value} {w w1 w' : World} (h0 : Below w.heap.size w w1) (h : Only2 bs bq v vq w1 w') : Only2 bs bq v vq w w' :=
  ⟨h.os.trans h0.os, h.tape.trans h0.tape, h.output.trans h0.output, Nat.le_trans h0.size h.size, fun k hk a b c d => (h.block k (Nat.lt_of_lt_of_le hk h0.size) a b c d).trans (h0.block k hk)⟩
theorem own_block_far {w w' : World} {base : Nat} {e : TypeId} {size n : Nat} {v : Value} {xs : List Value} (h : w.ownsRow base e size v n xs) (hb : ∀ k, v.ownBlock = some k → w'.heap[k]? = w.heap[k]?) : w'.ownsRow base e size v n xs := by
  rcases h.2 with ⟨rfl, rfl⟩ | ⟨g, cap, cur, rfl, hg, hh, hnc, hcm, hcs, htk⟩
  · exact ⟨h.1, Or.inl ⟨rfl, rfl⟩⟩
  · exact ⟨h.1, Or.inr ⟨g, cap, cur, rfl, hg, (hb g rfl).trans hh, hnc, hcm, hcs, htk⟩⟩
theorem own_lt {w : World} {base : Nat} {e : TypeId} {size n : Nat} {v : Value} {xs : List Value} (h : w.ownsRow base e size v n xs) {k : Nat} (hk : v.ownBlock = some k) : k < w.heap.size := (h.lt k hk).2
section
variable {w w' : World} {bs bq base : Nat} {v vq : Value} {L : List Ob}
theorem RfAt.only (h : RfAt w bq base vq L) (ho : Only bs v w w') (h1 : bq ≠ bs) (h2 : some bq ≠ v.ownBlock) (h3 : vq.ownBlock ≠ some bs) (h4 : ∀ j, v.ownBlock = some j → vq.ownBlock ≠ some j) : RfAt w' bq base vq L :=
  ⟨(ho.block _ h.lt h1 h2).trans h.s, own_block_far h.own fun k hk => ho.block k (own_lt h.own hk) (fun e => h3 (e ▸ hk)) (fun e => h4 k e.symm hk)⟩
theorem ShAt.only (h : ShAt w bs base v L) (ho : Only bq vq w w') (h1 : bs ≠ bq) (h2 : some bs ≠ vq.ownBlock) (h3 : v.ownBlock ≠ some bq) (h4 : ∀ j, v.ownBlock = some j → vq.ownBlock ≠ some j) : ShAt w' bs base v L :=
  ⟨(ho.block _ h.lt h1 h2).trans h.s, own_block_far h.own fun k hk => ho.block k (own_lt h.own hk) (fun e => h3 (e ▸ hk)) (fun e => h4 k hk e.symm)⟩
theorem Two.far (h : Two w bs bq base v vq L) : bs ≠ bq ∧ v.ownBlock ≠ some bq ∧ vq.ownBlock ≠ some bs := by
  refine ⟨fun e => ?_, own_ne h.s.own h.q.s (by decide), own_ne h.q.own h.s.s (by decide)⟩
  have h1 := h.s.s
  rw [e, h.q.s] at h1
  injection h1 with h1
  injection h1 with _ h2
  exact absurd h2 (by decide)
theorem Two.below (h : Two w bs bq base v vq L) (hb : Below w.heap.size w w') : Two w' bs bq base v vq L := ⟨h.s.below hb, h.q.below hb, h.ne⟩
theorem Two.mid (h : Two w bs bq base v vq L) (ho : Only bs v w w') : RfAt w' bq base vq L := by
  obtain ⟨h1, h2, h3⟩ := h.far
  exact h.q.only ho (Ne.symm h1) (fun e => h2 e.symm) h3 h.ne
end
/-- What a call on both has left. -/
def DoesP (bs bq base : Nat) (v vq : Value) (L' : List Ob) (w : World) (e : Ending) (w' : World) : Prop :=
  ∃ v' vq', e = .returned (.bool true) ∧ Two w' bs bq base v' vq' L' ∧ Only2 bs bq v vq w w' ∧ From w v v' ∧ From w vq vq'
theorem two_step {w w1 w2 : World} {bs bq base : Nat} {v vq v' vq' : Value} {L L' : List Ob} (h : Two w bs bq base v vq L) (h1 : ShAt w1 bs base v' L') (o1 : Only bs v w w1) (f1 : From w v v') (h2 : RfAt w2 bq base vq' L') (o2 : Only bq vq w1 w2) (f2 : From w1 vq vq') :
    Two w2 bs bq base v' vq' L' ∧ Only2 bs bq v vq w w2 ∧ From w v v' ∧ From w vq vq' := by
  obtain ⟨a1, a2, a3⟩ := h.far
  have hz1 := o1.size
  have hnew : ∀ j, v'.ownBlock = some j → vq.ownBlock ≠ some j := fun j hj e => by
    rcases f1 j hj with h3 | h3
    · exact h.ne j h3 e
    · have := own_lt h.q.own e; omega
  refine ⟨⟨h1.only o2 a1 (fun e => a3 e.symm) ?_ hnew, h2, ?_⟩, ?_, f1, ?_⟩
  · intro e
    rcases f1 bq e with h3 | h3
    · exact a2 h3
    · have := h.q.lt; omega
  · intro j hj e
    rcases f2 j e with h3 | h3
    · exact hnew j hj h3
    · have := own_lt h1.own hj; omega
  · refine ⟨o2.os.trans o1.os, o2.tape.trans o1.tape, o2.output.trans o1.output, Nat.le_trans o1.size o2.size, ?_⟩
    intro k hk b1 b2 b3 b4
    exact (o2.block k (by omega) b2 b4).trans (o1.block k hk b1 b3)
  · intro j hj
    rcases f2 j hj with h3 | h3
    · exact .inl h3
    · exact .inr (by omega)

/-- What a call makes of a sheet. -/
def actL (x : ActD) (L : List Ob) : List Ob := if x.kind = 0 then openL x.st x.nets L else if x.kind = 1 then payL x.m x.a x.n L else if x.kind = 2 then takeL x.m x.a x.n L else markL x.m x.a x.st x.n L
theorem fine_act {L : List Ob} (x : ActD) (h : Fine L) (hn : ∀ y ∈ x.nets, I64 y.n) : Fine (actL x L) := by
  unfold actL
  split
  · exact (fine_open _ _ h hn).1
  · split
    · exact (fine_pay _ _ _ h).1
    · split
      · exact (fine_take _ _ _ h).1
      · exact (fine_mark _ _ _ _ h).1
def ActD.val (x : ActD) : Value := .agg #[.int .i64 x.kind, .slice x.A x.nets.length x.cap, .int .i64 x.m, .int .i64 x.a, .int .i64 x.st, .int .i64 x.n]
/-- A call lies in a box. -/
def BoxAt (w : World) (bx : Nat) (x : ActD) : Prop := w.heap[bx]? = some (.cells #[.int .i64 x.kind, .slice x.A x.nets.length x.cap, .int .i64 x.m, .int .i64 x.a, .int .i64 x.st, .int .i64 x.n] 31 (0, 0))
section
variable {w w' : World} {bx bs bq base : Nat} {v : Value} {L : List Ob} {x : ActD}
theorem BoxAt.cells (h : BoxAt w bx x) : w.cell? ⟨bx, 0, none⟩ = some (.int .i64 x.kind) ∧ w.cell? ⟨bx, 1, none⟩ = some (.slice x.A x.nets.length x.cap) ∧ w.cell? ⟨bx, 2, none⟩ = some (.int .i64 x.m) ∧ w.cell? ⟨bx, 3, none⟩ = some (.int .i64 x.a) ∧ w.cell? ⟨bx, 4, none⟩ = some (.int .i64 x.st) ∧ w.cell? ⟨bx, 5, none⟩ = some (.int .i64 x.n) :=
  ⟨cell_of_row _ _ _ _ _ (0, 0) h, cell_of_row _ _ _ _ _ (0, 0) h, cell_of_row _ _ _ _ _ (0, 0) h, cell_of_row _ _ _ _ _ (0, 0) h, cell_of_row _ _ _ _ _ (0, 0) h, cell_of_row _ _ _ _ _ (0, 0) h⟩
theorem BoxAt.only_s (h : BoxAt w bx x) (hs : ShAt w bs base v L) (o : Only bs v w w') : BoxAt w' bx x := by
  refine (o.block bx (Array.getElem?_eq_some_iff.1 h).1 (fun e => ?_) (fun e => own_ne hs.own h (by decide) e.symm)).trans h
  have h1 := hs.s
  rw [← e, show w.heap[bx]? = _ from h] at h1
  injection h1 with h1
  injection h1 with _ h2
  exact absurd h2 (by decide)
theorem BoxAt.only_q (h : BoxAt w bx x) (hs : RfAt w bs base v L) (o : Only bs v w w') : BoxAt w' bx x := by
  refine (o.block bx (Array.getElem?_eq_some_iff.1 h).1 (fun e => ?_) (fun e => own_ne hs.own h (by decide) e.symm)).trans h
  have h1 := hs.s
  rw [← e, show w.heap[bx]? = _ from h] at h1
  injection h1 with h1
  injection h1 with _ h2
  exact absurd h2 (by decide)
end

set_option maxRecDepth 100000 in
set_option maxHeartbeats 1600000 in
theorem does_any (L : List Ob) (x : ActD) (v vq : Value) (bs bq base : Nat) (w : World) (h : Two w bs bq base v vq L) (hL : Fine L) (hx : ActOk w base x) (h30 : x.nets.length ≤ 30) (hb1 : base ≤ bs) (hb2 : base ≤ bq) :
    Calls Try.prog 15 #[.pointer (some ⟨bs, 0, none⟩), .pointer (some ⟨bq, 0, none⟩), x.val] w (DoesP bs bq base v vq (actL x L) w) := by
  have hbw : base ≤ w.heap.size := by have := h.s.lt; omega
  obtain ⟨kind, nets, A, cap, m, a, st, n⟩ := x
  obtain ⟨x1, x2, x3, x4, x5, x6⟩ := hx
  simp only at *
  have hW0 : Below w.heap.size w (w.alloc (.cells #[.int .i64 kind, .slice A nets.length cap, .int .i64 m, .int .i64 a, .int .i64 st, .int .i64 n] 31)).drew := ((Below.refl _ _).alloc (Nat.le_refl _) _).drew
  have hzd : w.heap.size + 1 = (w.alloc (.cells #[.int .i64 kind, .slice A nets.length cap, .int .i64 m, .int .i64 a, .int .i64 st, .int .i64 n] 31)).drew.heap.size := by show _ = (World.alloc _ _).heap.size; simp
  have HX : Hid (BoxAt (w.alloc (.cells #[.int .i64 kind, .slice A nets.length cap, .int .i64 m, .int .i64 a, .int .i64 st, .int .i64 n] 31)).drew w.heap.size ⟨kind, nets, A, cap, m, a, st, n⟩) := heap_alloc_new w _
  have HX0 : Hid (BoxAt (w.alloc (.cells #[.int .i64 kind, .slice A nets.length cap, .int .i64 m, .int .i64 a, .int .i64 st, .int .i64 n] 31)) w.heap.size ⟨kind, nets, A, cap, m, a, st, n⟩) := heap_alloc_new w _
  have HT := Lib.hid (h.below hW0)
  have HSG : Hid (Seg (w.alloc (.cells #[.int .i64 kind, .slice A nets.length cap, .int .i64 m, .int .i64 a, .int .i64 st, .int .i64 n] 31)).drew (w.alloc (.cells #[.int .i64 kind, .slice A nets.length cap, .int .i64 m, .int .i64 a, .int .i64 st, .int .i64 n] 31)).drew.heap.size A (lgRows nets)) := (x1.below (hW0.mono hbw)).mono (by omega)
  have HSN : Hid (∀ w1, Only bs v (w.alloc (.cells #[.int .i64 kind, .slice A nets.length cap, .int .i64 m, .int .i64 a, .int .i64 st, .int .i64 n] 31)).drew w1 → Seg w1 w1.heap.size A (lgRows nets)) := fun w1 o1 =>
    ((x1.below (hW0.mono hbw)).below (o1.below hb1 (own_base HT.out.s.own) (by omega))).mono (by have := o1.size; omega)
  have HLO : Hid (nets ≠ [] → ∀ p, A = some p → p.block ≠ bs ∧ some p.block ≠ v.ownBlock) := fun hne p hp => by
    have h1 := x2 hne p hp
    exact ⟨by omega, fun e => by have := own_base HT.out.s.own _ e.symm; omega⟩
  have HLQ : Hid (nets ≠ [] → ∀ p, A = some p → p.block ≠ bq ∧ some p.block ≠ vq.ownBlock) := fun hne p hp => by
    have h1 := x2 hne p hp
    exact ⟨by omega, fun e => by have := own_base HT.out.q.own _ e.symm; omega⟩
  have HEND : Hid (∀ L' v1 v2 w2, Two w2 bs bq base v1 v2 L' ∧ Only2 bs bq v vq (w.alloc (.cells #[.int .i64 kind, .slice A nets.length cap, .int .i64 m, .int .i64 a, .int .i64 st, .int .i64 n] 31)).drew w2 ∧ From (w.alloc (.cells #[.int .i64 kind, .slice A nets.length cap, .int .i64 m, .int .i64 a, .int .i64 st, .int .i64 n] 31)).drew v v1 ∧ From (w.alloc (.cells #[.int .i64 kind, .slice A nets.length cap, .int .i64 m, .int .i64 a, .int .i64 st, .int .i64 n] 31)).drew vq v2 → DoesP bs bq base v vq L' w (.returned (.bool true)) w2) := fun L' v1 v2 w2 ⟨t1, t2, t3, t4⟩ => by
    refine ⟨v1, v2, rfl, t1, Only2.of_below hW0 t2, fun j hj => ?_, fun j hj => ?_⟩
    · rcases t3 j hj with h | h
      · exact .inl h
      · exact .inr (by omega)
    · rcases t4 j hj with h | h
      · exact .inl h
      · exact .inr (by omega)
  have HBD : Hid (base ≤ (w.alloc (.cells #[.int .i64 kind, .slice A nets.length cap, .int .i64 m, .int .i64 a, .int .i64 st, .int .i64 n] 31)).drew.heap.size) := by show _ ≤ _; omega
  have HBE : Hid (∀ w1, Only bs v (w.alloc (.cells #[.int .i64 kind, .slice A nets.length cap, .int .i64 m, .int .i64 a, .int .i64 st, .int .i64 n] 31)).drew w1 → base ≤ w1.heap.size) := fun w1 o1 => by have := o1.size; omega
  have HL := Lib.hid hL
  have HX5 := Lib.hid x5
  have HX6 := Lib.hid x6.2
  clear h hW0 hzd x1 x2 x4 hL x5 x6
  unfold actL ActD.val
  simp only
  by_cases h0 : kind = 0
  · subst h0
    rw [if_pos rfl]
    go_enter Try.func15, Try.ntmps15
    go_wp2_with fail
    generalize w.alloc (.cells #[.int .i64 0, .slice A nets.length cap, .int .i64 m, .int .i64 a, .int .i64 st, .int .i64 n] 31) = W0 at *
    generalize w.heap.size = bx at *
    obtain ⟨d0, d1, d2, d3, d4, d5⟩ := HX0.out.cells
    go_region_held3 (fun w' => w'.cell? ⟨bx, 0, none⟩ = some (.int .i64 0) ∧ w'.cell? ⟨bx, 1, none⟩ = some (.slice A nets.length cap) ∧ w'.cell? ⟨bx, 2, none⟩ = some (.int .i64 m) ∧ w'.cell? ⟨bx, 3, none⟩ = some (.int .i64 a) ∧ w'.cell? ⟨bx, 4, none⟩ = some (.int .i64 st) ∧ w'.cell? ⟨bx, 5, none⟩ = some (.int .i64 n)) (first | exact HX.out.cells | exact HX1.out.cells | exact HX2.out.cells)
      (first | (go_at_call 10; refine (open_any L st nets A cap v bs base _ HT.out.s HL.out HSG.out HLO.out HBD.out (by omega) x3 HX5.out).mono ?_; rintro e w1 ⟨v1, rfl, s1, o1, f1⟩; have HS1 := Lib.hid s1; have HF1 := Lib.hid f1; have HO1 := Lib.hid o1; have HM1 := Lib.hid (HT.out.mid o1); have HX1 := Lib.hid (HX.out.only_s HT.out.s o1); clear s1 f1 o1) | (go_at_call 31; refine (ropen_any L st nets A cap vq bq base _ HM1.out HL.out (HSN.out _ HO1.out) HLQ.out (HBE.out _ HO1.out) (by omega)).mono ?_; rintro e w2 ⟨v2, rfl, s2, o2, f2⟩; have HS2 := Lib.hid s2; have HF2 := Lib.hid f2; have HO2 := Lib.hid o2; have HX2 := Lib.hid (HX1.out.only_q HM1.out o2); clear s2 f2 o2))
    have HFIN := Lib.hid (two_step HT.out HS1.out HO1.out HF1.out HS2.out HO2.out HF2.out)
    clear d0 d1 d2 d3 d4 d5
    go_wp2_with fail
    go_ret
    exact HEND.out _ _ _ _ HFIN.out
  · rw [if_neg h0]
    by_cases h1 : kind = 1
    · subst h1
      rw [if_pos rfl]
      go_enter Try.func15, Try.ntmps15
      go_wp2_with fail
      generalize w.alloc (.cells #[.int .i64 1, .slice A nets.length cap, .int .i64 m, .int .i64 a, .int .i64 st, .int .i64 n] 31) = W0 at *
      generalize w.heap.size = bx at *
      obtain ⟨d0, d1, d2, d3, d4, d5⟩ := HX0.out.cells
      go_region_held3 (fun w' => w'.cell? ⟨bx, 0, none⟩ = some (.int .i64 1) ∧ w'.cell? ⟨bx, 1, none⟩ = some (.slice A nets.length cap) ∧ w'.cell? ⟨bx, 2, none⟩ = some (.int .i64 m) ∧ w'.cell? ⟨bx, 3, none⟩ = some (.int .i64 a) ∧ w'.cell? ⟨bx, 4, none⟩ = some (.int .i64 st) ∧ w'.cell? ⟨bx, 5, none⟩ = some (.int .i64 n)) (first | exact HX.out.cells | exact HX1.out.cells | exact HX2.out.cells)
        (first | (go_at_call 11; refine (pay_any L m a n v bs base _ HT.out.s HL.out HX6.out).mono ?_; rintro e w1 ⟨v1, rfl, s1, o1, f1⟩; have HS1 := Lib.hid s1; have HF1 := Lib.hid f1; have HO1 := Lib.hid o1; have HM1 := Lib.hid (HT.out.mid o1); have HX1 := Lib.hid (HX.out.only_s HT.out.s o1); clear s1 f1 o1) | (go_at_call 32; refine (rpay_any L m a n vq bq base _ HM1.out HL.out HX6.out).mono ?_; rintro e w2 ⟨v2, rfl, s2, o2, f2⟩; have HS2 := Lib.hid s2; have HF2 := Lib.hid f2; have HO2 := Lib.hid o2; have HX2 := Lib.hid (HX1.out.only_q HM1.out o2); clear s2 f2 o2))
      have HFIN := Lib.hid (two_step HT.out HS1.out HO1.out HF1.out HS2.out HO2.out HF2.out)
      clear d0 d1 d2 d3 d4 d5
      go_wp2_with fail
      go_ret
      exact HEND.out _ _ _ _ HFIN.out
    · rw [if_neg h1]
      by_cases h2 : kind = 2
      · subst h2
        rw [if_pos rfl]
        go_enter Try.func15, Try.ntmps15
        go_wp2_with fail
        generalize w.alloc (.cells #[.int .i64 2, .slice A nets.length cap, .int .i64 m, .int .i64 a, .int .i64 st, .int .i64 n] 31) = W0 at *
        generalize w.heap.size = bx at *
        obtain ⟨d0, d1, d2, d3, d4, d5⟩ := HX0.out.cells
        go_region_held3 (fun w' => w'.cell? ⟨bx, 0, none⟩ = some (.int .i64 2) ∧ w'.cell? ⟨bx, 1, none⟩ = some (.slice A nets.length cap) ∧ w'.cell? ⟨bx, 2, none⟩ = some (.int .i64 m) ∧ w'.cell? ⟨bx, 3, none⟩ = some (.int .i64 a) ∧ w'.cell? ⟨bx, 4, none⟩ = some (.int .i64 st) ∧ w'.cell? ⟨bx, 5, none⟩ = some (.int .i64 n)) (first | exact HX.out.cells | exact HX1.out.cells | exact HX2.out.cells)
          (first | (go_at_call 12; refine (take_any L m a n v bs base _ HT.out.s HL.out HX6.out).mono ?_; rintro e w1 ⟨v1, rfl, s1, o1, f1⟩; have HS1 := Lib.hid s1; have HF1 := Lib.hid f1; have HO1 := Lib.hid o1; have HM1 := Lib.hid (HT.out.mid o1); have HX1 := Lib.hid (HX.out.only_s HT.out.s o1); clear s1 f1 o1) | (go_at_call 32; refine (rtake_any L m a n vq bq base _ HM1.out HL.out HX6.out).mono ?_; rintro e w2 ⟨v2, rfl, s2, o2, f2⟩; have HS2 := Lib.hid s2; have HF2 := Lib.hid f2; have HO2 := Lib.hid o2; have HX2 := Lib.hid (HX1.out.only_q HM1.out o2); clear s2 f2 o2))
        have HFIN := Lib.hid (two_step HT.out HS1.out HO1.out HF1.out HS2.out HO2.out HF2.out)
        clear d0 d1 d2 d3 d4 d5
        go_wp2_with fail
        go_ret
        exact HEND.out _ _ _ _ HFIN.out
      · rw [if_neg h2]
        have k0 : (kind == 0) = false := by simpa using h0
        have k1 : (kind == 1) = false := by simpa using h1
        have k2 : (kind == 2) = false := by simpa using h2
        clear h0 h1 h2
        go_enter Try.func15, Try.ntmps15
        go_wp2_with fail
        generalize w.alloc (.cells #[.int .i64 kind, .slice A nets.length cap, .int .i64 m, .int .i64 a, .int .i64 st, .int .i64 n] 31) = W0 at *
        generalize w.heap.size = bx at *
        obtain ⟨d0, d1, d2, d3, d4, d5⟩ := HX0.out.cells
        go_region_held3 (fun w' => w'.cell? ⟨bx, 0, none⟩ = some (.int .i64 kind) ∧ w'.cell? ⟨bx, 1, none⟩ = some (.slice A nets.length cap) ∧ w'.cell? ⟨bx, 2, none⟩ = some (.int .i64 m) ∧ w'.cell? ⟨bx, 3, none⟩ = some (.int .i64 a) ∧ w'.cell? ⟨bx, 4, none⟩ = some (.int .i64 st) ∧ w'.cell? ⟨bx, 5, none⟩ = some (.int .i64 n)) (first | exact HX.out.cells | exact HX1.out.cells | exact HX2.out.cells)
          (first | (go_at_call 13; refine (mark_any L m a st n v bs base _ HT.out.s HL.out).mono ?_; rintro e w1 ⟨v1, rfl, s1, o1, f1⟩; have HS1 := Lib.hid s1; have HF1 := Lib.hid f1; have HO1 := Lib.hid o1; have HM1 := Lib.hid (HT.out.mid o1); have HX1 := Lib.hid (HX.out.only_s HT.out.s o1); clear s1 f1 o1) | (go_at_call 33; refine (rmark_any L m a st n vq bq base _ HM1.out HL.out).mono ?_; rintro e w2 ⟨v2, rfl, s2, o2, f2⟩; have HS2 := Lib.hid s2; have HF2 := Lib.hid f2; have HO2 := Lib.hid o2; have HX2 := Lib.hid (HX1.out.only_q HM1.out o2); clear s2 f2 o2))
        have HFIN := Lib.hid (two_step HT.out HS1.out HO1.out HF1.out HS2.out HO2.out HF2.out)
        clear d0 d1 d2 d3 d4 d5
        go_wp2_with fail
        go_ret
        exact HEND.out _ _ _ _ HFIN.out
end Go.Proofs.Ytkjkkcaiddeggaa
