/-
  slices.Clone at amounts once more: the copy is a row of the call's own. And what fall.Less keeps, round by round: words for memory.
-/
import Derived.Test.YtglpnpjjjihghaaLessLaw
import Derived.Test.YtglpnpjjjihghaaFl21
import Derived.Test.YtglpnpjjjihghaaTwo
namespace Go.Proofs.Ytglpnpjjjihghaa
open Go.RowKit

/-- A list's copy, in a row of the call's own. -/
def CloneO (l : List Int) (w : World) : Ending → World → Prop := fun e w' => ∃ A c, e = .returned (.slice A l.length c) ∧ w'.ownsRow w.heap.size 2 1 (.slice A l.length c) l.length (l.map (Value.int .i64)) ∧ Below w.heap.size w w'
set_option maxHeartbeats 1600000 in
set_option maxRecDepth 100000 in
theorem cloneO_any (l : List Int) (A : Option Addr) (c : Nat) (w : World) (hn : l.length ≤ 1000000) (hs : Seg w w.heap.size A (l.map (Value.int .i64))) :
    Calls Try.prog 54 #[.slice A l.length c] w (CloneO l w) := by
  have inf : (Try.prog.info? 2).map (fun i => (i.zero, i.size, i.bytes)) = some (some (.int .i64 0), 1, 8) := by kernel_rfl
  obtain ⟨i0, hi, hz0, hz1, hz2⟩ := info_parts inf
  cases A with
  | none =>
    have e : l = [] := by
      cases l with
      | nil => rfl
      | cons a l =>
        obtain ⟨b, o, h, _⟩ := hs 0 (.int .i64 a) (by simp)
        cases h
    subst e
    refine (by first | exact Try.slices_Clone_int_nil 0 c w | exact Try.slices_Clone_nil_f54 0 c w | exact Try.slices_Clone_nil 0 c w : Calls Try.prog 54 #[.slice none 0 c] w _).mono ?_
    rintro e w' ⟨rfl, rfl⟩
    exact ⟨none, 0, rfl, ⟨rfl, Or.inl ⟨rfl, rfl⟩⟩, Below.refl _ _⟩
  | some a =>
    have hnews : ∀ (o : Obj) j u, (l.map (Value.int .i64))[j]? = some u → (w.alloc o).cell? (a.add j) = some u := fun ob j u hu => by
      obtain ⟨b, o, e, hb, hc⟩ := hs j u hu
      injection e with e
      subst e
      have ea : (⟨b, o, none⟩ : Addr).add j = ⟨b, o + j, none⟩ := by unfold Addr.add; split <;> simp_all
      rw [ea, cell_old _ _ _ hb]
      exact hc
    have hone : ∀ u ∈ l.map (Value.int .i64), u.oneCell' = true := fun u hu => by
      obtain ⟨y, _, rfl⟩ := List.mem_map.1 hu
      rfl
    have HN := Lib.hid hnews
    have H1 := Lib.hid hone
    clear hnews hone hs
    have q22 : ∀ (w : World) (a : Option Addr) (n c n' c' : Nat), (binOp .eql 35 (.slice a n c) (.slice none n' c')).run Try.prog w = .ok (.bool a.isNone) w := fun w a n c n' c' => Lib.run_eql_slice_nil w _ _ a n c n' c' Try.underlying35
    go_enter Try.func54, Try.ntmps54
    go_wp2_with (at_builtin; refine wpList_append_own _ rfl _ _ 35 rfl w.heap.size 2 i0 (.int .i64 0) 1 8 Try.underlying35 hi hz0 hz1 hz2 rfl (by decide) _ _ _ rfl (World.ownsRow_made w #[] 0 (Nat.le_refl _) (Nat.zero_le _) rfl) a l.length c (l.map (Value.int .i64)) rfl (by simp) (HN.out _) H1.out (by simp only [maxLen]; omega) (by omega) (by simp) ?_)
    intro v' w1 hown hgrow _
    have HO := Lib.hid hown
    have HG := Lib.hid hgrow
    clear hown hgrow
    go_wp2
    go_ret
    have hO : w1.ownsRow w.heap.size 2 1 v' l.length (l.map (Value.int .i64)) := by simpa using HO.out
    obtain ⟨A1, c1, rfl⟩ := own_form hO
    exact ⟨A1, c1, rfl, hO, ((Below.refl _ w).alloc (Nat.le_refl _) _).grown HG.out (by simp) (by intro k hk; simp [Value.ownBlock] at hk; omega)⟩
theorem own_setB {w : World} {base g o n c : Nat} {A : Option Addr} {e : TypeId} {s : Nat} {xs : List Value} {u : Value} (h : w.ownsRow base e s (.slice A n c) n xs) (hg : (Value.slice A n c).ownBlock ≠ some g) : (w.setCell ⟨g, o, none⟩ u).ownsRow base e s (.slice A n c) n xs := own_set h (p := ⟨g, o, none⟩) hg u
/-- fall.Less, at the start of a round: the pool's box, its two copies, the result's box. -/
structure LsI (w : World) (lo bp br : Nat) (A1 A2 : Option Addr) (d1 d2 : Nat) (q : Pol) (W : World) : Prop where
  c0 : W.cell? ⟨bp, 0, none⟩ = some (.slice A1 q.co.length d1)
  c1 : W.cell? ⟨bp, 1, none⟩ = some (.slice A2 q.fu.length d2)
  c2 : W.cell? ⟨bp, 2, none⟩ = some (.int .i64 q.line)
  c3 : W.cell? ⟨bp, 3, none⟩ = some (.int .i64 q.cap)
  f : ∀ o, W.frozen? ⟨bp, o, none⟩ = false
  r0 : W.cell? ⟨br, 0, none⟩ = some (.slice none 0 0)
  r1 : W.cell? ⟨br, 1, none⟩ = some (.slice none 0 0)
  r2 : W.cell? ⟨br, 2, none⟩ = some (.int .i64 0)
  r3 : W.cell? ⟨br, 3, none⟩ = some (.int .i64 0)
  g : ∀ o, W.frozen? ⟨br, o, none⟩ = false
  o1 : W.ownsRow lo 2 1 (.slice A1 q.co.length d1) q.co.length (q.co.map (Value.int .i64))
  o2 : W.ownsRow lo 2 1 (.slice A2 q.fu.length d2) q.fu.length (q.fu.map (Value.int .i64))
  ne : ∀ k, (Value.slice A1 q.co.length d1).ownBlock = some k → (Value.slice A2 q.fu.length d2).ownBlock = some k → False
  lp : bp < lo
  lr : br < lo
  npr : bp ≠ br
  sz : lo ≤ W.heap.size
  wp : w.heap.size ≤ bp
  b : Below w.heap.size w W
theorem LsI.below {w W W' : World} {lo bp br d1 d2 : Nat} {A1 A2 : Option Addr} {q : Pol} (h : LsI w lo bp br A1 A2 d1 d2 q W) (hb : Below W.heap.size W W') : LsI w lo bp br A1 A2 d1 d2 q W' := by
  have hp := Nat.lt_of_lt_of_le h.lp h.sz
  have hr := Nat.lt_of_lt_of_le h.lr h.sz
  have kp := fun o => hb.cell (p := ⟨bp, o, none⟩) hp
  have kr := fun o => hb.cell (p := ⟨br, o, none⟩) hr
  exact ⟨(kp 0).trans h.c0, (kp 1).trans h.c1, (kp 2).trans h.c2, (kp 3).trans h.c3, fun o => (hb.frozen (p := ⟨bp, o, none⟩) hp).trans (h.f o), (kr 0).trans h.r0, (kr 1).trans h.r1, (kr 2).trans h.r2, (kr 3).trans h.r3, fun o => (hb.frozen (p := ⟨br, o, none⟩) hr).trans (h.g o), own_below h.o1 hb, own_below h.o2 hb, h.ne, h.lp, h.lr, h.npr, Nat.le_trans h.sz hb.size, h.wp, h.b.trans (hb.mono h.b.size)⟩
theorem cell_set_far {W : World} {g o b j : Nat} {u : Value} (h : b ≠ g) : (W.setCell ⟨g, o, none⟩ u).cell? ⟨b, j, none⟩ = W.cell? ⟨b, j, none⟩ :=
  World.cell?_of_block (a := ⟨b, j, none⟩) (Below.heap_setCell _ _ _ _ (by simp only [ne_eq]; omega))
theorem set_size (W : World) (p : Addr) (u : Value) : (W.setCell p u).heap.size = W.heap.size := by simp [World.setCell]
section
variable {w W : World} {lo bp br d1 d2 : Nat} {A1 A2 : Option Addr} {q : Pol}
theorem LsI.set8 (h : LsI w lo bp br A1 A2 d1 d2 q W) {x : Dw} (hx : 1 ≤ x.m ∧ x.m ≤ q.co.length ∧ x.k = 8) {g : Nat} (hA : A1 = some ⟨g, 0, none⟩) : LsI w lo bp br A1 A2 d1 d2 (subP q x) (W.setCell ⟨g, (x.m - 1).toNat, none⟩ (.int .i64 (atI q.co x.m - x.n))) := by
  subst hA
  have hlg := h.o1.lt g rfl
  have n1 : bp ≠ g := by have := h.lp; omega
  have n2 : br ≠ g := by have := h.lr; omega
  rw [sub8 hx]
  obtain ⟨p1, p2⟩ := h.o1.stored (x.m - 1).toNat (.int .i64 (atI q.co x.m - x.n))
  refine ⟨?_, (cell_set_far n1).trans h.c1, (cell_set_far n1).trans h.c2, (cell_set_far n1).trans h.c3, fun o => by rw [World.frozen?_setCell]; exact h.f o, (cell_set_far n2).trans h.r0, (cell_set_far n2).trans h.r1, (cell_set_far n2).trans h.r2, (cell_set_far n2).trans h.r3, fun o => by rw [World.frozen?_setCell]; exact h.g o, ?_, h.o2.kept p2 (far_of fun k a b => h.ne k a b), ?_, h.lp, h.lr, h.npr, by rw [set_size]; exact h.sz, h.wp, h.b.setCell (by have := h.wp; have := h.lp; show w.heap.size ≤ g; omega) _⟩
  · dsimp only
    rw [List.length_set]
    exact (cell_set_far n1).trans h.c0
  · dsimp only
    rw [List.length_set, List.map_set]
    exact p1
  · dsimp only
    rw [List.length_set]
    exact h.ne
theorem LsI.set9 (h : LsI w lo bp br A1 A2 d1 d2 q W) {x : Dw} (hx : 1 ≤ x.m ∧ x.m ≤ q.co.length ∧ x.k = 9) {g : Nat} (hA : A2 = some ⟨g, 0, none⟩) : LsI w lo bp br A1 A2 d1 d2 (subP q x) (W.setCell ⟨g, (x.m - 1).toNat, none⟩ (.int .i64 (atI q.fu x.m - x.n))) := by
  subst hA
  have hlg := h.o2.lt g rfl
  have n1 : bp ≠ g := by have := h.lp; omega
  have n2 : br ≠ g := by have := h.lr; omega
  rw [sub9 hx]
  obtain ⟨p1, p2⟩ := h.o2.stored (x.m - 1).toNat (.int .i64 (atI q.fu x.m - x.n))
  refine ⟨(cell_set_far n1).trans h.c0, ?_, (cell_set_far n1).trans h.c2, (cell_set_far n1).trans h.c3, fun o => by rw [World.frozen?_setCell]; exact h.f o, (cell_set_far n2).trans h.r0, (cell_set_far n2).trans h.r1, (cell_set_far n2).trans h.r2, (cell_set_far n2).trans h.r3, fun o => by rw [World.frozen?_setCell]; exact h.g o, h.o1.kept p2 (far_of fun k a b => h.ne k b a), ?_, ?_, h.lp, h.lr, h.npr, by rw [set_size]; exact h.sz, h.wp, h.b.setCell (by have := h.wp; have := h.lp; show w.heap.size ≤ g; omega) _⟩
  · dsimp only
    rw [List.length_set]
    exact (cell_set_far n1).trans h.c1
  · dsimp only
    rw [List.length_set, List.map_set]
    exact p1
  · dsimp only
    rw [List.length_set]
    exact h.ne
theorem LsI.far (h : LsI w lo bp br A1 A2 d1 d2 q W) : (Value.slice A1 q.co.length d1).ownBlock ≠ some bp ∧ (Value.slice A2 q.fu.length d2).ownBlock ≠ some bp := by
  have h0 := h.lp
  exact ⟨fun e => by have := (h.o1.lt bp e).1; omega, fun e => by have := (h.o2.lt bp e).1; omega⟩
theorem LsI.set3 (h : LsI w lo bp br A1 A2 d1 d2 q W) {x : Dw} (hx : x.m = 0 ∧ x.k = 3) : LsI w lo bp br A1 A2 d1 d2 (subP q x) (W.setCell ⟨bp, 2, none⟩ (.int .i64 (q.line - x.n))) := by
  have n2 : br ≠ bp := fun e => h.npr e.symm
  have hf := h.far
  have ho : ∀ j, j ≠ 2 → (W.setCell ⟨bp, 2, none⟩ (.int .i64 (q.line - x.n))).cell? ⟨bp, j, none⟩ = W.cell? ⟨bp, j, none⟩ := fun j hj => World.cell?_setCell_other _ _ _ _ (fun e => hj (by injection e with _ e _; exact e.symm))
  rw [sub3 hx]
  exact ⟨(ho 0 (by decide)).trans h.c0, (ho 1 (by decide)).trans h.c1, World.cell?_setCell_same' _ _ _ (by rw [h.c2]; rfl), (ho 3 (by decide)).trans h.c3, fun o => by rw [World.frozen?_setCell]; exact h.f o, (cell_set_far n2).trans h.r0, (cell_set_far n2).trans h.r1, (cell_set_far n2).trans h.r2, (cell_set_far n2).trans h.r3, fun o => by rw [World.frozen?_setCell]; exact h.g o, own_set h.o1 hf.1 _, own_set h.o2 hf.2 _, h.ne, h.lp, h.lr, h.npr, by rw [set_size]; exact h.sz, h.wp, h.b.setCell h.wp _⟩
theorem LsI.set4 (h : LsI w lo bp br A1 A2 d1 d2 q W) {x : Dw} (hx : x.m = 0 ∧ x.k = 4) : LsI w lo bp br A1 A2 d1 d2 (subP q x) (W.setCell ⟨bp, 3, none⟩ (.int .i64 (q.cap - x.n))) := by
  have n2 : br ≠ bp := fun e => h.npr e.symm
  have hf := h.far
  have ho : ∀ j, j ≠ 3 → (W.setCell ⟨bp, 3, none⟩ (.int .i64 (q.cap - x.n))).cell? ⟨bp, j, none⟩ = W.cell? ⟨bp, j, none⟩ := fun j hj => World.cell?_setCell_other _ _ _ _ (fun e => hj (by injection e with _ e _; exact e.symm))
  rw [sub4 hx]
  exact ⟨(ho 0 (by decide)).trans h.c0, (ho 1 (by decide)).trans h.c1, (ho 2 (by decide)).trans h.c2, World.cell?_setCell_same' _ _ _ (by rw [h.c3]; rfl), fun o => by rw [World.frozen?_setCell]; exact h.f o, (cell_set_far n2).trans h.r0, (cell_set_far n2).trans h.r1, (cell_set_far n2).trans h.r2, (cell_set_far n2).trans h.r3, fun o => by rw [World.frozen?_setCell]; exact h.g o, own_set h.o1 hf.1 _, own_set h.o2 hf.2 _, h.ne, h.lp, h.lr, h.npr, by rw [set_size]; exact h.sz, h.wp, h.b.setCell h.wp _⟩
theorem there_max {q : Pol} (h0 : AllOk q) (hf : q.fu.length = q.co.length) {k m : Int} : thereV q k m ≤ 1099511627776 := by
  have hb : ∀ v ∈ q.co ++ q.fu ++ [q.line, q.cap], 0 ≤ v ∧ v ≤ 1099511627776 := h0
  by_cases ht : 0 ≤ thereV q k m
  · rcases src_cases ht with e | e | e | e
    · rw [e.2.2, there8 e.1 e.2.1]
      exact (hb _ (List.mem_append_left _ (List.mem_append_left _ (atI_mem e.1 e.2.1)))).2
    · rw [e.2.2, there9 e.1 e.2.1]
      exact (hb _ (List.mem_append_left _ (List.mem_append_right _ (atI_mem (l := q.fu) e.1 (by omega))))).2
    · rw [e.1, e.2, there3]
      exact (hb q.line (by simp)).2
    · rw [e.1, e.2, there4]
      exact (hb q.cap (by simp)).2
  · omega
/-- Where the amount of a source stands, its cell, and the store into it. -/
theorem LsI.place (h : LsI w lo bp br A1 A2 d1 d2 q W) {k m : Int} {g1 g2 : Nat} (hA1 : 0 < q.co.length → A1 = some ⟨g1, 0, none⟩) (hA2 : 0 < q.co.length → A2 = some ⟨g2, 0, none⟩) (hf : q.fu.length = q.co.length) (ht : 0 ≤ thereV q k m) :
    ∃ a : Addr, a.spot = none ∧ plcA bp q.co.length g1 0 g2 0 k m = some a ∧ W.cell? a = some (.int .i64 (thereV q k m)) ∧ W.frozen? a = false ∧ a.block < W.heap.size ∧ ∀ n W', Below W.heap.size W W' → LsI w lo bp br A1 A2 d1 d2 (subP q ⟨k, m, n⟩) (W'.setCell a (.int .i64 (thereV q k m - n))) := by
  have hbp := Nat.lt_of_lt_of_le h.lp h.sz
  rcases src_cases ht with e | e | e | e
  · have hn : 0 < q.co.length := by omega
    have hs : (m - 1).toNat < q.co.length := by omega
    have et : thereV q k m = atI q.co m := by rw [e.2.2]; exact there8 e.1 e.2.1
    have ha := hA1 hn
    have h1 := h.o1
    rw [ha] at h1
    have hlt := (h1.lt g1 rfl).2
    refine ⟨⟨g1, (m - 1).toNat, none⟩, rfl, ?_, ?_, h1.frozenAt _, hlt, fun n W' hW => ?_⟩
    · unfold plcA
      rw [if_pos e, Nat.zero_add]
    · rw [h1.cellAt _ (by simpa using hs), List.getElem?_map, List.getElem?_eq_getElem hs, et]
      unfold atI
      rw [List.getD_eq_getElem?_getD, List.getElem?_eq_getElem hs]
      rfl
    · rw [et]
      exact LsI.set8 (x := ⟨k, m, n⟩) (h.below hW) e ha
  · have hn : 0 < q.co.length := by omega
    have hs : (m - 1).toNat < q.fu.length := by omega
    have et : thereV q k m = atI q.fu m := by rw [e.2.2]; exact there9 e.1 e.2.1
    have ha := hA2 hn
    have h2 := h.o2
    rw [ha] at h2
    have hlt := (h2.lt g2 rfl).2
    refine ⟨⟨g2, (m - 1).toNat, none⟩, rfl, ?_, ?_, h2.frozenAt _, hlt, fun n W' hW => ?_⟩
    · unfold plcA
      rw [if_neg (by omega), if_pos e, Nat.zero_add]
    · rw [h2.cellAt _ (by simpa using hs), List.getElem?_map, List.getElem?_eq_getElem hs, et]
      unfold atI
      rw [List.getD_eq_getElem?_getD, List.getElem?_eq_getElem hs]
      rfl
    · rw [et]
      exact LsI.set9 (x := ⟨k, m, n⟩) (h.below hW) e ha
  · have et : thereV q k m = q.line := by rw [e.1, e.2]; exact there3 q
    refine ⟨⟨bp, 2, none⟩, rfl, ?_, by rw [et]; exact h.c2, h.f 2, hbp, fun n W' hW => ?_⟩
    · unfold plcA
      rw [if_neg (by omega), if_neg (by omega), if_pos e]
    · rw [et]
      exact LsI.set3 (x := ⟨k, m, n⟩) (h.below hW) e
  · have et : thereV q k m = q.cap := by rw [e.1, e.2]; exact there4 q
    refine ⟨⟨bp, 3, none⟩, rfl, ?_, by rw [et]; exact h.c3, h.f 3, hbp, fun n W' hW => ?_⟩
    · unfold plcA
      rw [if_neg (by omega), if_neg (by omega), if_neg (by omega), if_pos e]
    · rw [et]
      exact LsI.set4 (x := ⟨k, m, n⟩) (h.below hW) e
theorem am_own {W : World} {lo n d : Nat} {A : Option Addr} {xs : List Int} (h : W.ownsRow lo 2 1 (.slice A n d) n (xs.map (Value.int .i64))) (hn : xs.length = n) : AmSrc W A d xs := by
  refine ⟨Seg.of_own h, fun e => ?_⟩
  subst e
  rcases h.2 with ⟨hv, h0⟩ | ⟨g, cap, cur, hv, _⟩
  · injection hv with _ _ hd
    exact ⟨hn.trans h0, hd⟩
  · injection hv with hv
    cases hv
/-- What is there at the end. -/
theorem LsI.pol (h : LsI w lo bp br A1 A2 d1 d2 q W) (v0 v1 v2 v3 : Value) : PolOk ((((W.setCell ⟨br, 0, none⟩ v0).setCell ⟨br, 1, none⟩ v1).setCell ⟨br, 2, none⟩ v2).setCell ⟨br, 3, none⟩ v3) ⟨q.co, A1, d1, q.fu, A2, d2, q.line, q.cap⟩ := by
  have o1 : (Value.slice A1 q.co.length d1).ownBlock ≠ some br := fun e => by have := (h.o1.lt br e).1; have := h.lr; omega
  have o2 : (Value.slice A2 q.fu.length d2).ownBlock ≠ some br := fun e => by have := (h.o2.lt br e).1; have := h.lr; omega
  exact ⟨am_own (own_set (own_set (own_set (own_set h.o1 o1 _) o1 _) o1 _) o1 _) rfl, am_own (own_set (own_set (own_set (own_set h.o2 o2 _) o2 _) o2 _) o2 _) rfl⟩
theorem plc_none {q : Pol} {k m : Int} {bp g1 g2 : Nat} (h : thereV q k m < 0) (h0 : AllOk q) (hf : q.fu.length = q.co.length) : plcA bp q.co.length g1 0 g2 0 k m = none := by
  have hb : ∀ v ∈ q.co ++ q.fu ++ [q.line, q.cap], 0 ≤ v ∧ v ≤ 1099511627776 := h0
  unfold thereV at h
  unfold plcA
  by_cases h1 : 1 ≤ m ∧ m ≤ q.co.length ∧ k = 8
  · rw [if_pos h1] at h
    have := (hb _ (List.mem_append_left _ (List.mem_append_left _ (atI_mem h1.1 h1.2.1)))).1
    omega
  · rw [if_neg h1] at h ⊢
    by_cases h2 : 1 ≤ m ∧ m ≤ q.co.length ∧ k = 9
    · rw [if_pos h2] at h
      have := (hb _ (List.mem_append_left _ (List.mem_append_right _ (atI_mem (l := q.fu) h2.1 (by omega))))).1
      omega
    · rw [if_neg h2] at h ⊢
      by_cases h3 : m = 0 ∧ k = 3
      · rw [if_pos h3] at h
        have := (hb q.line (by simp)).1
        omega
      · rw [if_neg h3] at h ⊢
        by_cases h4 : m = 0 ∧ k = 4
        · rw [if_pos h4] at h
          have := (hb q.cap (by simp)).1
          omega
        · rw [if_neg h4]
end
theorem LsI.start {w w1 wb : World} {bp br d1 d2 : Nat} {A1 A2 : Option Addr} {p : Pol} {u0 u1 : Value} (hO1 : wb.ownsRow w1.heap.size 2 1 (.slice A1 p.co.length d1) p.co.length (p.co.map (Value.int .i64))) (hO2 : wb.ownsRow w1.heap.size 2 1 (.slice A2 p.fu.length d2) p.fu.length (p.fu.map (Value.int .i64)))
    (hne : ∀ k, (Value.slice A1 p.co.length d1).ownBlock = some k → (Value.slice A2 p.fu.length d2).ownBlock = some k → False) (hb : Below w1.heap.size w1 wb) (c0 : w1.cell? ⟨bp, 0, none⟩ = some u0) (c1 : w1.cell? ⟨bp, 1, none⟩ = some u1) (c2 : w1.cell? ⟨bp, 2, none⟩ = some (.int .i64 p.line)) (c3 : w1.cell? ⟨bp, 3, none⟩ = some (.int .i64 p.cap)) (f : ∀ o, w1.frozen? ⟨bp, o, none⟩ = false)
    (r0 : w1.cell? ⟨br, 0, none⟩ = some (.slice none 0 0)) (r1 : w1.cell? ⟨br, 1, none⟩ = some (.slice none 0 0)) (r2 : w1.cell? ⟨br, 2, none⟩ = some (.int .i64 0)) (r3 : w1.cell? ⟨br, 3, none⟩ = some (.int .i64 0)) (g : ∀ o, w1.frozen? ⟨br, o, none⟩ = false) (hp : bp < w1.heap.size) (hr : br < w1.heap.size) (hpr : bp ≠ br) (hwp : w.heap.size ≤ bp) (hw : Below w.heap.size w w1) :
    LsI w w1.heap.size bp br A1 A2 d1 d2 p ((wb.setCell ⟨bp, 0, none⟩ (.slice A1 p.co.length d1)).setCell ⟨bp, 1, none⟩ (.slice A2 p.fu.length d2)) := by
  have kp := fun o => hb.cell (p := ⟨bp, o, none⟩) hp
  have kr := fun o => hb.cell (p := ⟨br, o, none⟩) hr
  have n2 : br ≠ bp := fun e => hpr e.symm
  have ot : ∀ (W : World) (i j : Nat) (v : Value), j ≠ i → (W.setCell ⟨bp, i, none⟩ v).cell? ⟨bp, j, none⟩ = W.cell? ⟨bp, j, none⟩ := fun W i j v hj => World.cell?_setCell_other _ _ _ _ (fun e => hj (by injection e with _ e _; exact e.symm))
  have sm : ∀ (W : World) (i : Nat) (u v : Value), W.cell? ⟨bp, i, none⟩ = some u → (W.setCell ⟨bp, i, none⟩ v).cell? ⟨bp, i, none⟩ = some v := fun W i u v h => World.cell?_setCell_same' _ _ _ (by rw [h]; rfl)
  have fr : ∀ o, ((wb.setCell ⟨bp, 0, none⟩ (.slice A1 p.co.length d1)).setCell ⟨bp, 1, none⟩ (.slice A2 p.fu.length d2)).cell? ⟨br, o, none⟩ = w1.cell? ⟨br, o, none⟩ := fun o => ((cell_set_far n2).trans (cell_set_far n2)).trans (kr o)
  have o1 : (Value.slice A1 p.co.length d1).ownBlock ≠ some bp := fun e => by have := (hO1.lt bp e).1; omega
  have o2 : (Value.slice A2 p.fu.length d2).ownBlock ≠ some bp := fun e => by have := (hO2.lt bp e).1; omega
  refine ⟨(ot _ 1 0 _ (by decide)).trans (sm _ _ _ _ ((kp 0).trans c0)), sm _ _ _ _ ((ot _ 0 1 _ (by decide)).trans ((kp 1).trans c1)), (ot _ 1 2 _ (by decide)).trans ((ot _ 0 2 _ (by decide)).trans ((kp 2).trans c2)), (ot _ 1 3 _ (by decide)).trans ((ot _ 0 3 _ (by decide)).trans ((kp 3).trans c3)), fun o => ?_, (fr 0).trans r0, (fr 1).trans r1, (fr 2).trans r2, (fr 3).trans r3, fun o => ?_, own_set (own_set hO1 o1 _) o1 _, own_set (own_set hO2 o2 _) o2 _, hne, hp, hr, hpr, ?_, hwp, ?_⟩
  · rw [World.frozen?_setCell, World.frozen?_setCell]; exact (hb.frozen (p := ⟨bp, o, none⟩) hp).trans (f o)
  · rw [World.frozen?_setCell, World.frozen?_setCell]; exact (hb.frozen (p := ⟨br, o, none⟩) hr).trans (g o)
  · rw [set_size, set_size]; exact hb.size
  · exact ((hw.trans (hb.mono hw.size)).setCell hwp _).setCell hwp _
theorem own_at {W : World} {lo n d : Nat} {A : Option Addr} {xs : List Int} (h : W.ownsRow lo 2 1 (.slice A n d) n (xs.map (Value.int .i64))) (hn : 0 < n) : ∃ g, A = some ⟨g, 0, none⟩ ∧ lo ≤ g ∧ g < W.heap.size := by
  rcases h.2 with ⟨hv, h0⟩ | ⟨g, cap, cur, hv, hg, hw, _⟩
  · omega
  · injection hv with hA
    have hl := (h.lt g (by rw [hA]; rfl))
    exact ⟨g, hA, hl.1, hl.2⟩
theorem four_cells {W : World} {b : Nat} {u0 u1 u2 u3 : Value} (v0 v1 v2 v3 : Value) (h0 : W.cell? ⟨b, 0, none⟩ = some u0) (h1 : W.cell? ⟨b, 1, none⟩ = some u1) (h2 : W.cell? ⟨b, 2, none⟩ = some u2) (h3 : W.cell? ⟨b, 3, none⟩ = some u3) :
    ((((W.setCell ⟨b, 0, none⟩ v0).setCell ⟨b, 1, none⟩ v1).setCell ⟨b, 2, none⟩ v2).setCell ⟨b, 3, none⟩ v3).cell? ⟨b, 0, none⟩ = some v0 ∧
    ((((W.setCell ⟨b, 0, none⟩ v0).setCell ⟨b, 1, none⟩ v1).setCell ⟨b, 2, none⟩ v2).setCell ⟨b, 3, none⟩ v3).cell? ⟨b, 1, none⟩ = some v1 ∧
    ((((W.setCell ⟨b, 0, none⟩ v0).setCell ⟨b, 1, none⟩ v1).setCell ⟨b, 2, none⟩ v2).setCell ⟨b, 3, none⟩ v3).cell? ⟨b, 2, none⟩ = some v2 ∧
    ((((W.setCell ⟨b, 0, none⟩ v0).setCell ⟨b, 1, none⟩ v1).setCell ⟨b, 2, none⟩ v2).setCell ⟨b, 3, none⟩ v3).cell? ⟨b, 3, none⟩ = some v3 := by
  have ot : ∀ (W : World) (i j : Nat) (v : Value), j ≠ i → (W.setCell ⟨b, i, none⟩ v).cell? ⟨b, j, none⟩ = W.cell? ⟨b, j, none⟩ := fun W i j v hj => World.cell?_setCell_other _ _ _ _ (fun e => hj (by injection e with _ e _; exact e.symm))
  have sm : ∀ (W : World) (i : Nat) (u v : Value), W.cell? ⟨b, i, none⟩ = some u → (W.setCell ⟨b, i, none⟩ v).cell? ⟨b, i, none⟩ = some v := fun W i u v h => World.cell?_setCell_same' _ _ _ (by rw [h]; rfl)
  refine ⟨?_, ?_, ?_, ?_⟩
  · rw [ot _ 3 0 _ (by decide), ot _ 2 0 _ (by decide), ot _ 1 0 _ (by decide)]
    exact sm _ _ _ _ h0
  · rw [ot _ 3 1 _ (by decide), ot _ 2 1 _ (by decide)]
    exact sm _ _ _ _ ((ot _ 0 1 _ (by decide)).trans h1)
  · rw [ot _ 3 2 _ (by decide)]
    exact sm _ _ _ _ ((ot _ 1 2 _ (by decide)).trans ((ot _ 0 2 _ (by decide)).trans h2))
  · exact sm _ _ _ _ ((ot _ 2 3 _ (by decide)).trans ((ot _ 1 3 _ (by decide)).trans ((ot _ 0 3 _ (by decide)).trans h3)))
theorem below_four {B b : Nat} {w W : World} (h : Below B w W) (hb : B ≤ b) (v0 v1 v2 v3 : Value) : Below B w ((((W.setCell ⟨b, 0, none⟩ v0).setCell ⟨b, 1, none⟩ v1).setCell ⟨b, 2, none⟩ v2).setCell ⟨b, 3, none⟩ v3) :=
  (((h.setCell (p := ⟨b, 0, none⟩) hb _).setCell (p := ⟨b, 1, none⟩) hb _).setCell (p := ⟨b, 2, none⟩) hb _).setCell (p := ⟨b, 3, none⟩) hb _
theorem own_weak {w : World} {base base' : Nat} {e : TypeId} {s n : Nat} {u : Value} {xs : List Value} (h : w.ownsRow base e s u n xs) (hb : base' ≤ base) : w.ownsRow base' e s u n xs := by
  refine ⟨h.1, h.2.imp id ?_⟩
  rintro ⟨g, cap, cur, h1, h2, h3⟩
  exact ⟨g, cap, cur, h1, Nat.le_trans hb h2, h3⟩
end Go.Proofs.Ytglpnpjjjihghaa
