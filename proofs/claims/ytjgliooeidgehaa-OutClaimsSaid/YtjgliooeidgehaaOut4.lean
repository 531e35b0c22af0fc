/-
  What out.Join comes to, over this seat's translation: a contract for callers.
-/
import Derived.Test.YtjgliooeidgehaaOut3
import Derived.Laws.AppendOwnNone
namespace Go.Proofs.Ytjgliooeidgehaa
open Go.RowKit Go.Sort

/-- A list to append: nil is nothing, of no room. -/
structure SrcAt (w : World) (A : Option Addr) (c : Nat) (zs : List Int) : Prop where
  seg : Seg w w.heap.size A (zs.map (Value.int .i64))
  nil : A = none → zs = [] ∧ c = 0
theorem SrcAt.below {w w' : World} {A : Option Addr} {c : Nat} {zs : List Int} (h : SrcAt w A c zs) (hb : Below w.heap.size w w') : SrcAt w' A c zs := ⟨(h.seg.below hb).mono hb.size, h.nil⟩
theorem ints_one (zs : List Int) : ∀ u ∈ zs.map (Value.int .i64), u.oneCell' = true := by
  intro u hu
  obtain ⟨x, _, rfl⟩ := List.mem_map.1 hu
  rfl
theorem wpList_append_src {w : World} {ops : Array Oper} {rest : List Oper} {o : Oper} {a : Act} {Q : Exit → Act → World → Prop} (hgd : o.guard = none) (s x : Operand)
    (ho : o.op = .call { callee := .builtin .append, args := #[s, x], argTypes := #[23, 23] }) (base : Nat)
    (v : Value) (n : Nat) (xs : List Int) (hs : a.eval s = v) (hown : w.ownsRow base 3 1 v n (xs.map (Value.int .i64)))
    (A : Option Addr) (c : Nat) (zs : List Int) (hx : a.eval x = .slice A zs.length c) (hz : SrcAt w A c zs) (hlen : n + zs.length ≤ 1000000) (hbase : base ≤ w.heap.size)
    (h : ∀ v' w', w'.ownsRow base 3 1 v' (n + zs.length) ((xs ++ zs).map (Value.int .i64)) → w.grownBy w' v.ownBlock → wpList Try.prog ops Q rest (a.put o.dst v') w') : wpList Try.prog ops Q (o :: rest) a w := by
  obtain ⟨i0, hi0, hz0, hz1, hz2⟩ := info_parts int_info
  cases A with
  | none =>
    obtain ⟨rfl, rfl⟩ := hz.nil rfl
    refine wpList_append_own_none hgd s x 23 ho base 3 i0 1 Try.underlying23 hi0 v n (xs.map (Value.int .i64)) hs hown hx (h v w (by simpa using hown) ⟨rfl, rfl, rfl, Nat.le_refl _, fun _ _ _ => rfl⟩)
  | some ad =>
    refine wpList_append_own w hgd s x 23 ho base 3 i0 _ 1 8 Try.underlying23 hi0 hz0 hz1 hz2 rfl (by decide) v n (xs.map (Value.int .i64)) hs hown ad zs.length c (zs.map (Value.int .i64)) hx (by simp) ?_ (ints_one zs) (by simp only [maxLen]; omega) (by omega) hbase ?_
    · intro j u hu
      obtain ⟨b, o', e, _, hc⟩ := hz.seg j u hu
      injection e with e
      subst e
      have ea : (⟨b, o', none⟩ : Addr).add j = ⟨b, o' + j, none⟩ := by unfold Addr.add; split <;> simp_all
      rw [ea]
      exact hc
    · intro v' w' h1 h2 _
      exact h v' w' (by rw [List.map_append]; exact h1) h2
theorem grow_own (w : World) (n : Nat) (hn : n ≤ 1000000) : World.ownsRow (w.drew.alloc (.cells (([] : List Value).toArray ++ Builtin.zeroCells (Value.int .i64 0).cells (0 + n - 0) ++ Builtin.zeroCells (Value.int .i64 0).cells (grownCap w (0 + n) 0 3 - (0 + n))) 3)) w.heap.size 3 1 (.slice (some ⟨w.heap.size, 0, none⟩) 0 (grownCap w (0 + n) 0 3)) 0 [] := by
  rw [Nat.zero_add]
  have h1 := grownCap_ge w n 0 3
  refine ⟨by simp, Or.inr ⟨w.heap.size, _, _, rfl, Nat.le_refl _, heap_alloc_new _ _, Nat.zero_le _, grownCap_le_maxLen w n 0 3 (by simp only [maxLen]; omega), ?_, by simp⟩⟩
  simp only [Array.size_append, List.size_toArray, List.length_nil, size_zeroCells, Value.cells]
  simp
  omega

set_option maxRecDepth 100000 in
set_option maxHeartbeats 1600000 in
theorem concat_any (z1 z2 : List Int) (A1 A2 : Option Addr) (c1 c2 g : Nat) (w : World) (h1 : SrcAt w A1 c1 z1) (h2 : SrcAt w A2 c2 z2) (g0 : w.cell? ⟨g, 0, none⟩ = some (.slice A1 z1.length c1)) (g1 : w.cell? ⟨g, 1, none⟩ = some (.slice A2 z2.length c2)) (hg : g < w.heap.size) (hl1 : z1.length ≤ 100000) (hl2 : z2.length ≤ 100000) :
    Calls Try.prog 22 #[.slice (some ⟨g, 0, none⟩) 2 2] w (GotSeg w (z1 ++ z2)) := by
  have H1 := Lib.hid h1
  have H2 := Lib.hid h2
  clear h1 h2
  have G1 := Lib.hid g1
  rcases Nat.eq_zero_or_pos (z1.length + z2.length) with h0 | h0
  · have hn1 : z1.length = 0 := by omega
    have hn2 : z2.length = 0 := by omega
    have e1 : z1 = [] := List.eq_nil_of_length_eq_zero hn1
    have e2 : z2 = [] := List.eq_nil_of_length_eq_zero hn2
    subst e1 e2
    clear h0 hn1 hn2
    have HA1 := H1
    have HZ : Hid (w.heap.size ≤ w.heap.size) := Nat.le_refl _
    have HBL : Hid (w.heap.size ≤ w.heap.size) := Nat.le_refl _
    have HWN : Hid (Below w.heap.size w w) := Below.refl _ _
    have HNO : Hid (w.ownsRow w.heap.size 3 1 (.slice none 0 0) 0 (([] : List Int).map (Value.int .i64))) := ⟨by simp, Or.inl ⟨rfl, rfl⟩⟩
    simp only [List.length_nil] at g0 g1
    go_enter Try.func22, Try.ntmps22
    go_wp2_with fail
    refine wp_loop_rounds 3 ?_
    rw [rounds_succ]
    go_wp2_with fail
    rw [rounds_succ]
    go_wp2_with fail
    rw [rounds_succ]
    go_wp2_with fail
    refine (Any8.slices_Grow_room Try.growI none 0 0 0 _ (by omega) (by omega) (by omega) (by omega)).mono ?_
    rintro e w2 ⟨rfl, hw2⟩
    obtain rfl : w = w2 := hw2.symm
    go_wp2_with fail
    refine wp_loop_rounds 3 ?_
    rw [rounds_succ]
    go_wp2_with (at_builtin; refine wpList_append_src rfl _ _ rfl w.heap.size _ 0 [] rfl HNO.out A1 c1 [] rfl HA1.out (by omega) HZ.out ?_)
    intro v3 w3 ho3 hg3
    have HO3 : Hid (w3.ownsRow w.heap.size 3 1 v3 ([] : List Int).length ([].map (Value.int .i64))) := by show World.ownsRow _ _ _ _ _ _ _; simpa using ho3
    have HB3 : Hid (Below w.heap.size w w3) := (Below.refl _ _).grown hg3 HZ.out (fun j hj => own_base HNO.out j hj)
    have HW3 : Hid (Below w.heap.size w w3) := HWN.out.trans (HB3.out.mono HBL.out)
    have q1 : w3.cell? ⟨g, 1, none⟩ = some (.slice A2 ([] : List Int).length c2) := (HW3.out.cell (p := ⟨g, 1, none⟩) hg).trans G1.out
    have HA2' : Hid (SrcAt w3 A2 c2 []) := H2.out.below HW3.out
    have HZ3 : Hid (w.heap.size ≤ w3.heap.size) := Nat.le_trans HZ.out HB3.out.size
    clear ho3 hg3
    go_wp2_with fail
    rw [rounds_succ]
    go_wp2_with (at_builtin; refine wpList_append_src rfl _ _ rfl w.heap.size _ ([] : List Int).length [] rfl HO3.out A2 c2 [] rfl HA2'.out (by omega) HZ3.out ?_)
    intro v4 w4 ho4 hg4
    have HO4 : Hid (w4.ownsRow w.heap.size 3 1 v4 (([] : List Int) ++ []).length (((([] : List Int) ++ [])).map (Value.int .i64))) := by show World.ownsRow _ _ _ _ _ _ _; rw [List.length_append]; first | exact ho4 | (rw [List.map_append]; exact ho4)
    have HB4 : Hid (Below w.heap.size w w4) := HW3.out.trans (((Below.refl _ _).grown hg4 HZ3.out (fun j hj => own_base HO3.out j hj)).mono HBL.out)
    clear ho4 hg4 q1
    go_wp2_with fail
    rw [rounds_succ]
    go_wp2_with fail
    go_ret
    obtain ⟨A4, c4, rfl, hs4⟩ := seg_own HO4.out rfl
    exact ⟨A4, c4, rfl, hs4, HB4.out⟩
  · have hw1 : IntKind.i64.wrap ((z1.length : Int) + z2.length) = (z1.length : Int) + z2.length := IntWalk.i64_in _ (by omega)
    obtain ⟨i0, hi0, hz0, hz1, hz2⟩ := info_parts int_info
    go_enter Try.func22, Try.ntmps22
    go_wp2_with fail
    refine wp_loop_rounds 3 ?_
    rw [rounds_succ]
    go_wp2_with fail
    rw [rounds_succ]
    go_wp2_with fail
    rw [rounds_succ]
    go_wp2_with fail
    clear hw1
    rw [show ((z1.length : Int) + (z2.length : Int)) = ((z1.length + z2.length : Nat) : Int) from by omega]
    refine (Any8.slices_Grow_grow Try.growI i0 (.int .i64 0) hi0 hz0 (by rw [hz1]; decide) none 0 0 (z1.length + z2.length) [] _ (by omega) (by omega) (by rw [hz2]; omega) (by omega) (by simp) (fun _ => rfl) (fun a h => by cases h)).mono ?_
    rintro e w2 ⟨rfl, hw2⟩
    have HNO : Hid (w2.ownsRow w.heap.size 3 1 (.slice (some ⟨w.heap.size, 0, none⟩) 0 (grownCap w (0 + (z1.length + z2.length)) 0 3)) 0 (([] : List Int).map (Value.int .i64))) := by show World.ownsRow _ _ _ _ _ _ _; rw [hw2]; exact grow_own w (z1.length + z2.length) (by omega)
    have HWN : Hid (Below w.heap.size w w2) := by show RowKit.Below _ _ _; rw [hw2]; exact (Below.refl _ _).drew.alloc (Nat.le_refl _) _
    have HZ : Hid (w.heap.size ≤ w2.heap.size) := HWN.out.size
    have HBL : Hid (w.heap.size ≤ w.heap.size) := Nat.le_refl _
    have HA1 : Hid (SrcAt w2 A1 c1 z1) := H1.out.below HWN.out
    have p0 : w2.cell? ⟨g, 0, none⟩ = some (.slice A1 z1.length c1) := (HWN.out.cell (p := ⟨g, 0, none⟩) hg).trans g0
    clear hw2 g0 g1
    rw [show (Try.growI_ren.t 25) = 3 from rfl]
    generalize grownCap w (0 + (z1.length + z2.length)) 0 3 = cap at *
    go_wp2_with fail
    refine wp_loop_rounds 3 ?_
    rw [rounds_succ]
    go_wp2_with (at_builtin; refine wpList_append_src rfl _ _ rfl w.heap.size _ 0 [] rfl HNO.out A1 c1 z1 rfl HA1.out (by omega) HZ.out ?_)
    intro v3 w3 ho3 hg3
    have HO3 : Hid (w3.ownsRow w.heap.size 3 1 v3 z1.length (z1.map (Value.int .i64))) := by show World.ownsRow _ _ _ _ _ _ _; simpa using ho3
    have HB3 : Hid (Below w.heap.size w2 w3) := (Below.refl _ _).grown hg3 HZ.out (fun j hj => own_base HNO.out j hj)
    have HW3 : Hid (Below w.heap.size w w3) := HWN.out.trans (HB3.out.mono HBL.out)
    have q1 : w3.cell? ⟨g, 1, none⟩ = some (.slice A2 z2.length c2) := (HW3.out.cell (p := ⟨g, 1, none⟩) hg).trans G1.out
    have HA2' : Hid (SrcAt w3 A2 c2 z2) := H2.out.below HW3.out
    have HZ3 : Hid (w.heap.size ≤ w3.heap.size) := Nat.le_trans HZ.out HB3.out.size
    clear ho3 hg3
    go_wp2_with fail
    rw [rounds_succ]
    go_wp2_with (at_builtin; refine wpList_append_src rfl _ _ rfl w.heap.size _ z1.length z1 rfl HO3.out A2 c2 z2 rfl HA2'.out (by omega) HZ3.out ?_)
    intro v4 w4 ho4 hg4
    have HO4 : Hid (w4.ownsRow w.heap.size 3 1 v4 (z1 ++ z2).length ((z1 ++ z2).map (Value.int .i64))) := by show World.ownsRow _ _ _ _ _ _ _; rw [List.length_append]; first | exact ho4 | (rw [List.map_append]; exact ho4)
    have HB4 : Hid (Below w.heap.size w w4) := HW3.out.trans (((Below.refl _ _).grown hg4 HZ3.out (fun j hj => own_base HO3.out j hj)).mono HBL.out)
    clear ho4 hg4 q1
    go_wp2_with fail
    rw [rounds_succ]
    go_wp2_with fail
    go_ret
    obtain ⟨A4, c4, rfl, hs4⟩ := seg_own HO4.out rfl
    exact ⟨A4, c4, rfl, hs4, HB4.out⟩

set_option maxHeartbeats 400000 in
theorem join_any (z1 z2 : List Int) (A1 A2 : Option Addr) (c1 c2 : Nat) (w : World) (h1 : SrcAt w A1 c1 z1) (h2 : SrcAt w A2 c2 z2) (hl1 : z1.length ≤ 100000) (hl2 : z2.length ≤ 100000) :
    Calls Try.prog 10 #[.slice A1 z1.length c1, .slice A2 z2.length c2] w (GotSeg w (onceL (z1 ++ z2))) := by
  have hb : Below w.heap.size w (w.alloc (.cells #[.slice A1 z1.length c1, .slice A2 z2.length c2] 23)) := (Below.refl _ _).alloc (Nat.le_refl _) _
  have HC := Lib.hid (concat_any z1 z2 A1 A2 c1 c2 w.heap.size _ (h1.below hb) (h2.below hb) (by rw [cell_new _ _ _ _ rfl]; rfl) (by rw [cell_new _ _ _ _ rfl]; rfl) (by simp) hl1 hl2)
  have HB := Lib.hid hb
  have hll : (z1 ++ z2).length ≤ 1000000 := by rw [List.length_append]; omega
  generalize (z1 ++ z2) = zs at *
  clear h1 h2 hb
  go_enter Try.func10, Try.ntmps10
  go_wp2_with fail
  refine HC.out.mono ?_
  rintro e w1 ⟨A3, c3, rfl, hs3, hb3⟩
  have HS3 := Lib.hid hs3
  have HB3 : Hid (Below w.heap.size w w1) := HB.out.trans (hb3.mono (by simp))
  clear hs3 hb3
  go_wp2_with fail
  refine (once_any zs A3 c3 _ HS3.out hll).mono ?_
  rintro e w2 ⟨A4, c4, rfl, hs4, hb4⟩
  have HS4 := Lib.hid hs4
  have HB4 : Hid (Below w.heap.size w w2) := HB3.out.trans (hb4.mono HB3.out.size)
  clear hs4 hb4
  go_wp2_with fail
  go_ret
  exact ⟨A4, c4, rfl, HS4.out, HB4.out⟩
end Go.Proofs.Ytjgliooeidgehaa
