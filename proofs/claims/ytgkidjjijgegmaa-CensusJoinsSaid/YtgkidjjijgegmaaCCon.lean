/-
  What slices.Concat at two lists of tallies comes to, over this seat's translation: a contract for callers.
-/
import Derived.Test.YtgkidjjijgegmaaCW4
import Derived.Test.YtgkidjjijgegmaaShelf
import Derived.Laws.AppendOwnNone
import Derived.LoopN
import Derived.Shelf.Spec.SlicesGrow
namespace Go.Proofs.Ytgkidjjijgegmaa
open Go.RowKit

/-- Tallies to append: nil is nothing, of no room. -/
structure TlSrc (w : World) (A : Option Addr) (c : Nat) (L : List Tl) : Prop where
  seg : Seg w w.heap.size A (tlRows L)
  nil : A = none → L.length = 0 ∧ c = 0
theorem TlSrc.below {w w' : World} {A : Option Addr} {c : Nat} {L : List Tl} (h : TlSrc w A c L) (hb : Below w.heap.size w w') : TlSrc w' A c L := ⟨(h.seg.below hb).mono hb.size, h.nil⟩
theorem tls_one (L : List Tl) : ∀ u ∈ tlRows L, u.oneCell' = true := by
  intro u hu
  obtain ⟨x, _, hx⟩ := List.mem_flatMap.1 hu
  exact tl_one x u hx
theorem tls_len (L : List Tl) : (tlRows L).length = L.length * 7 := by
  unfold tlRows
  induction L with
  | nil => rfl
  | cons x L ih => rw [List.flatMap_cons, List.length_append, ih, List.length_cons]; simp [Tl.cells]; omega
theorem wpList_append_tl {w : World} {ops : Array Oper} {rest : List Oper} {o : Oper} {a : Act} {Q : Exit → Act → World → Prop} (hgd : o.guard = none) (s x : Operand)
    (ho : o.op = .call { callee := .builtin .append, args := #[s, x], argTypes := #[25, 25] }) (base : Nat)
    (v : Value) (n : Nat) (xs : List Value) (hs : a.eval s = v) (hown : w.ownsRow base 42 7 v n xs)
    (A : Option Addr) (c : Nat) (L : List Tl) (hx : a.eval x = .slice A L.length c) (hz : TlSrc w A c L) (hlen : n + L.length ≤ 1000000) (hbase : base ≤ w.heap.size)
    (h : ∀ v' w', w'.ownsRow base 42 7 v' (n + L.length) (xs ++ tlRows L) → w.grownBy w' v.ownBlock → wpList Try.prog ops Q rest (a.put o.dst v') w') : wpList Try.prog ops Q (o :: rest) a w := by
  obtain ⟨i0, hi0, hz0, hz1, hz2⟩ := info_parts tl_info
  cases A with
  | none =>
    obtain ⟨h1, rfl⟩ := hz.nil rfl
    obtain rfl : L = [] := List.eq_nil_of_length_eq_zero h1
    refine wpList_append_own_none hgd s x 25 ho base 42 i0 7 Try.underlying25 hi0 v n xs hs hown hx (h v w (by simpa [tlRows] using hown) ⟨rfl, rfl, rfl, Nat.le_refl _, fun _ _ _ => rfl⟩)
  | some ad =>
    refine wpList_append_own w hgd s x 25 ho base 42 i0 _ 7 56 Try.underlying25 hi0 hz0 hz1 hz2 rfl (by decide) v n xs hs hown ad L.length c (tlRows L) hx (tls_len L) ?_ (tls_one L) (by simp only [maxLen]; omega) (by omega) hbase ?_
    · intro j u hu
      obtain ⟨b, o', e, _, hc⟩ := hz.seg j u hu
      have e := Option.some.inj e
      subst e
      have ea : (⟨b, o', none⟩ : Addr).add j = ⟨b, o' + j, none⟩ := by unfold Addr.add; split <;> simp_all
      rw [ea]
      exact hc
    · intro v' w' h1 h2 _
      exact h v' w' h1 h2
theorem grow_row (w : World) (z : Array Value) (n k : Nat) (e : TypeId) (hk : z.size = k) (hn : n ≤ 1000000) : World.ownsRow (w.drew.alloc (.cells (([] : List Value).toArray ++ Builtin.zeroCells z (0 + n - 0) ++ Builtin.zeroCells z (grownCap w (0 + n) 0 e - (0 + n))) e)) w.heap.size e k (.slice (some ⟨w.heap.size, 0, none⟩) 0 (grownCap w (0 + n) 0 e)) 0 [] := by
  rw [Nat.zero_add]
  have h1 := grownCap_ge w n 0 e
  refine ⟨by simp, Or.inr ⟨w.heap.size, _, _, rfl, Nat.le_refl _, heap_alloc_new _ _, Nat.zero_le _, grownCap_le_maxLen w n 0 e (by simp only [maxLen]; omega), ?_, by simp⟩⟩
  simp only [Array.size_append, List.size_toArray, List.length_nil, size_zeroCells, hk]
  rw [Nat.sub_zero, Nat.zero_add, ← Nat.add_mul, Nat.add_sub_cancel' h1]
theorem grow_tl (w : World) (n : Nat) (hn : n ≤ 1000000) : World.ownsRow (w.drew.alloc (.cells (([] : List Value).toArray ++ Builtin.zeroCells (Value.agg #[.int .i64 0, .int .i64 0, .int .i64 0, .int .i64 0, .int .i64 0, .int .i64 0, .int .i64 0]).cells (0 + n - 0) ++ Builtin.zeroCells (Value.agg #[.int .i64 0, .int .i64 0, .int .i64 0, .int .i64 0, .int .i64 0, .int .i64 0, .int .i64 0]).cells (grownCap w (0 + n) 0 42 - (0 + n))) 42)) w.heap.size 42 7 (.slice (some ⟨w.heap.size, 0, none⟩) 0 (grownCap w (0 + n) 0 42)) 0 [] := grow_row w _ n 7 _ rfl hn
/-- A row of one's own has come back. -/
def GotTl (l : List Tl) (w : World) (e : Ending) (w' : World) : Prop := ∃ A c, e = .returned (.slice A l.length c) ∧ w'.ownsRow w.heap.size 42 7 (.slice A l.length c) l.length (tlRows l) ∧ Below w.heap.size w w'
set_option maxRecDepth 100000 in
set_option maxHeartbeats 1600000 in
theorem concatT_any (z1 z2 : List Tl) (A1 A2 : Option Addr) (c1 c2 g : Nat) (w : World) (h1 : TlSrc w A1 c1 z1) (h2 : TlSrc w A2 c2 z2) (g0 : w.cell? ⟨g, 0, none⟩ = some (.slice A1 z1.length c1)) (g1 : w.cell? ⟨g, 1, none⟩ = some (.slice A2 z2.length c2)) (hg : g < w.heap.size) (hl1 : z1.length ≤ 100000) (hl2 : z2.length ≤ 100000) :
    Calls Try.prog 28 #[.slice (some ⟨g, 0, none⟩) 2 2] w (GotTl (z1 ++ z2) w) := by
  have H1 := Lib.hid h1
  have H2 := Lib.hid h2
  clear h1 h2
  have G1 := Lib.hid g1
  rcases Nat.eq_zero_or_pos (z1.length + z2.length) with h0 | h0
  · have hn1 : z1.length = 0 := by omega
    have hn2 : z2.length = 0 := by omega
    have e1 : z1 = [] := List.eq_nil_of_length_eq_zero hn1
    have e2 : z2 = [] := List.eq_nil_of_length_eq_zero hn2
    subst e1 e2
    clear h0 hn1 hn2
    have HNO : Hid (w.ownsRow w.heap.size 42 7 (.slice none 0 0) 0 []) := ⟨by simp, Or.inl ⟨rfl, rfl⟩⟩
    simp only [List.length_nil] at g0 g1
    go_enter Try.func28, Try.ntmps28
    go_wp2_with fail
    refine wp_loop_rounds 3 ?_
    rw [rounds_succ]
    go_wp2_with fail
    rw [rounds_succ]
    go_wp2_with fail
    rw [rounds_succ]
    go_wp2_with fail
    refine (Any8.slices_Grow_room Try.growT none 0 0 0 _ (by omega) (by omega) (by omega) (by omega)).mono ?_
    rintro e w2 ⟨rfl, hw2⟩
    obtain rfl : w = w2 := hw2.symm
    go_wp2_with fail
    refine wp_loop_rounds 3 ?_
    rw [rounds_succ]
    go_wp2_with (at_builtin; refine wpList_append_tl rfl _ _ rfl w.heap.size _ 0 [] rfl HNO.out A1 c1 [] rfl H1.out (by simp) (Nat.le_refl _) ?_)
    intro v3 w3 ho3 hg3
    have HO3 : Hid (w3.ownsRow w.heap.size 42 7 v3 0 []) := by show World.ownsRow _ _ _ _ _ _ _; simpa [tlRows] using ho3
    have HB3 : Hid (Below w.heap.size w w3) := Lib.hid ((Below.refl _ _).grown hg3 (Nat.le_refl _) (fun j hj => own_base HNO.out j hj))
    have q1 : w3.cell? ⟨g, 1, none⟩ = some (.slice A2 0 c2) := (HB3.out.cell (p := ⟨g, 1, none⟩) hg).trans G1.out
    have HA2' := Lib.hid (H2.out.below HB3.out)
    have HZ3 := Lib.hid HB3.out.size
    clear ho3 hg3
    go_wp2_with fail
    rw [rounds_succ]
    go_wp2_with (at_builtin; refine wpList_append_tl rfl _ _ rfl w.heap.size _ 0 [] rfl HO3.out A2 c2 [] rfl HA2'.out (by simp) HZ3.out ?_)
    intro v4 w4 ho4 hg4
    have HO4 : Hid (w4.ownsRow w.heap.size 42 7 v4 0 []) := by show World.ownsRow _ _ _ _ _ _ _; simpa [tlRows] using ho4
    have HB4 : Hid (Below w.heap.size w w4) := Lib.hid (HB3.out.trans ((Below.refl _ _).grown hg4 HZ3.out (fun j hj => own_base HO3.out j hj)))
    clear ho4 hg4 q1
    go_wp2_with fail
    rw [rounds_succ]
    go_wp2_with fail
    go_ret
    obtain ⟨A4, c4, rfl⟩ := own_form HO4.out
    exact ⟨A4, c4, rfl, HO4.out, HB4.out⟩
  · have hw1 : IntKind.i64.wrap ((z1.length : Int) + z2.length) = (z1.length : Int) + z2.length := IntWalk.i64_in _ (by omega)
    obtain ⟨i0, hi0, hz0, hz1, hz2⟩ := info_parts tl_info
    go_enter Try.func28, Try.ntmps28
    go_wp2_with fail
    refine wp_loop_rounds 3 ?_
    rw [rounds_succ]
    go_wp2_with fail
    rw [rounds_succ]
    go_wp2_with fail
    rw [rounds_succ]
    go_wp2_with fail
    clear hw1
    rw [show ((z1.length : Int) + (z2.length : Int)) = ((z1.length + z2.length : Nat) : Int) from by omega]
    refine (Any8.slices_Grow_grow Try.growT i0 (.agg #[.int .i64 0, .int .i64 0, .int .i64 0, .int .i64 0, .int .i64 0, .int .i64 0, .int .i64 0]) hi0 hz0 (by rw [hz1]; decide) none 0 0 (z1.length + z2.length) [] _ (by omega) (by omega) (by rw [hz2]; omega) (by omega) (by simp) (fun _ => rfl) (fun a h => by cases h)).mono ?_
    rintro e w2 ⟨rfl, hw2⟩
    have HNO : Hid (w2.ownsRow w.heap.size 42 7 (.slice (some ⟨w.heap.size, 0, none⟩) 0 (grownCap w (0 + (z1.length + z2.length)) 0 42)) 0 []) := by show World.ownsRow _ _ _ _ _ _ _; rw [hw2]; exact grow_tl w (z1.length + z2.length) (by omega)
    have HWN : Hid (Below w.heap.size w w2) := by show RowKit.Below _ _ _; rw [hw2]; exact (Below.refl _ _).drew.alloc (Nat.le_refl _) _
    have HZ := Lib.hid HWN.out.size
    have HA1 := Lib.hid (H1.out.below HWN.out)
    have p0 : w2.cell? ⟨g, 0, none⟩ = some (.slice A1 z1.length c1) := (HWN.out.cell (p := ⟨g, 0, none⟩) hg).trans g0
    clear hw2 g0 g1
    rw [show (Try.growT_ren.t 25) = 42 from rfl]
    generalize grownCap w (0 + (z1.length + z2.length)) 0 42 = cap at *
    go_wp2_with fail
    refine wp_loop_rounds 3 ?_
    rw [rounds_succ]
    go_wp2_with (at_builtin; refine wpList_append_tl rfl _ _ rfl w.heap.size _ 0 [] rfl HNO.out A1 c1 z1 rfl HA1.out (by omega) HZ.out ?_)
    intro v3 w3 ho3 hg3
    have HO3 : Hid (w3.ownsRow w.heap.size 42 7 v3 z1.length (tlRows z1)) := by show World.ownsRow _ _ _ _ _ _ _; simpa using ho3
    have HW3 : Hid (Below w.heap.size w w3) := Lib.hid (HWN.out.trans ((Below.refl _ _).grown hg3 HZ.out (fun j hj => own_base HNO.out j hj)))
    have q1 : w3.cell? ⟨g, 1, none⟩ = some (.slice A2 z2.length c2) := (HW3.out.cell (p := ⟨g, 1, none⟩) hg).trans G1.out
    have HA2' := Lib.hid (H2.out.below HW3.out)
    have HZ3 := Lib.hid HW3.out.size
    clear ho3 hg3
    go_wp2_with fail
    rw [rounds_succ]
    go_wp2_with (at_builtin; refine wpList_append_tl rfl _ _ rfl w.heap.size _ z1.length (tlRows z1) rfl HO3.out A2 c2 z2 rfl HA2'.out (by omega) HZ3.out ?_)
    intro v4 w4 ho4 hg4
    have HO4 : Hid (w4.ownsRow w.heap.size 42 7 v4 (z1 ++ z2).length (tlRows (z1 ++ z2))) := by show World.ownsRow _ _ _ _ _ _ _; rw [List.length_append, show tlRows (z1 ++ z2) = tlRows z1 ++ tlRows z2 by simp [tlRows]]; exact ho4
    have HB4 : Hid (Below w.heap.size w w4) := Lib.hid (HW3.out.trans ((Below.refl _ _).grown hg4 HZ3.out (fun j hj => own_base HO3.out j hj)))
    clear ho4 hg4 q1
    go_wp2_with fail
    rw [rounds_succ]
    go_wp2_with fail
    go_ret
    obtain ⟨A4, c4, rfl⟩ := own_form HO4.out
    exact ⟨A4, c4, rfl, HO4.out, HB4.out⟩
end Go.Proofs.Ytgkidjjijgegmaa
