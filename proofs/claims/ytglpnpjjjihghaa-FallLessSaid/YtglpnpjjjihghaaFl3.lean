/-
  What slices.Concat at three lists of amounts and fall.Check come to, over this seat's translation: contracts for callers.
-/
import Derived.Test.YtglpnpjjjihghaaFl2
import Derived.Test.YtglpnpjjjihghaaCon
import Derived.Test.YtglpnpjjjihghaaShelfB
import Derived.Laws.AppendOwnNone
import Derived.LoopN
namespace Go.Proofs.Ytglpnpjjjihghaa
open Go.RowKit

/-- Amounts to append: nil is nothing, of no room. -/
structure AmSrc (w : World) (A : Option Addr) (c : Nat) (zs : List Int) : Prop where
  seg : Seg w w.heap.size A (zs.map (Value.int .i64))
  nil : A = none → zs.length = 0 ∧ c = 0
theorem AmSrc.below {w w' : World} {A : Option Addr} {c : Nat} {zs : List Int} (h : AmSrc w A c zs) (hb : Below w.heap.size w w') : AmSrc w' A c zs := ⟨(h.seg.below hb).mono hb.size, h.nil⟩
theorem am_one (zs : List Int) : ∀ u ∈ zs.map (Value.int .i64), u.oneCell' = true := by
  intro u hu
  obtain ⟨x, _, rfl⟩ := List.mem_map.1 hu
  rfl
theorem am_info : (Try.prog.info? 2).map (fun i => (i.zero, i.size, i.bytes)) = some (some (.int .i64 0), 1, 8) := by kernel_rfl
theorem wpList_append_am {w : World} {ops : Array Oper} {rest : List Oper} {o : Oper} {a : Act} {Q : Exit → Act → World → Prop} (hgd : o.guard = none) (s x : Operand)
    (ho : o.op = .call { callee := .builtin .append, args := #[s, x], argTypes := #[35, 35] }) (base : Nat)
    (v : Value) (n : Nat) (xs : List Value) (hs : a.eval s = v) (hown : w.ownsRow base 2 1 v n xs)
    (A : Option Addr) (c : Nat) (L : List Int) (hx : a.eval x = .slice A L.length c) (hz : AmSrc w A c L) (hlen : n + L.length ≤ 1000000) (hbase : base ≤ w.heap.size)
    (h : ∀ v' w', w'.ownsRow base 2 1 v' (n + L.length) (xs ++ L.map (Value.int .i64)) → w.grownBy w' v.ownBlock → wpList Try.prog ops Q rest (a.put o.dst v') w') : wpList Try.prog ops Q (o :: rest) a w := by
  obtain ⟨i0, hi0, hz0, hz1, hz2⟩ := info_parts am_info
  cases A with
  | none =>
    obtain ⟨h1, rfl⟩ := hz.nil rfl
    obtain rfl : L = [] := List.eq_nil_of_length_eq_zero h1
    refine wpList_append_own_none hgd s x 35 ho base 2 i0 1 Try.underlying35 hi0 v n xs hs hown hx (h v w (by simpa using hown) ⟨rfl, rfl, rfl, Nat.le_refl _, fun _ _ _ => rfl⟩)
  | some ad =>
    refine wpList_append_own w hgd s x 35 ho base 2 i0 _ 1 8 Try.underlying35 hi0 hz0 hz1 hz2 rfl (by decide) v n xs hs hown ad L.length c (L.map (Value.int .i64)) hx (by simp) ?_ (am_one L) (by simp only [maxLen]; omega) (by omega) hbase ?_
    · intro j u hu
      obtain ⟨b, o', e, _, hc⟩ := hz.seg j u hu
      have e := Option.some.inj e
      subst e
      have ea : (⟨b, o', none⟩ : Addr).add j = ⟨b, o' + j, none⟩ := by unfold Addr.add; split <;> simp_all
      rw [ea]
      exact hc
    · intro v' w' h1 h2 _
      exact h v' w' h1 h2
theorem grow_am (w : World) (n : Nat) (hn : n ≤ 1000000) : World.ownsRow (w.drew.alloc (.cells (([] : List Value).toArray ++ Builtin.zeroCells (Value.int .i64 0).cells (0 + n - 0) ++ Builtin.zeroCells (Value.int .i64 0).cells (grownCap w (0 + n) 0 2 - (0 + n))) 2)) w.heap.size 2 1 (.slice (some ⟨w.heap.size, 0, none⟩) 0 (grownCap w (0 + n) 0 2)) 0 [] := grow_row w _ n 1 _ rfl hn
def GotAm (l : List Int) (w : World) (e : Ending) (w' : World) : Prop := ∃ A c, e = .returned (.slice A l.length c) ∧ Seg w' w'.heap.size A (l.map (Value.int .i64)) ∧ Below w.heap.size w w'
set_option maxRecDepth 100000 in
set_option maxHeartbeats 1600000 in
/-- Of three lists, the last one of two amounts. -/
theorem concatA_any (z1 z2 : List Int) (x y : Int) (A1 A2 A3 : Option Addr) (c1 c2 c3 g : Nat) (w : World) (h1 : AmSrc w A1 c1 z1) (h2 : AmSrc w A2 c2 z2) (h3 : AmSrc w A3 c3 [x, y]) (g0 : w.cell? ⟨g, 0, none⟩ = some (.slice A1 z1.length c1)) (g1 : w.cell? ⟨g, 1, none⟩ = some (.slice A2 z2.length c2)) (g2 : w.cell? ⟨g, 2, none⟩ = some (.slice A3 2 c3)) (hg : g < w.heap.size) (hl1 : z1.length ≤ 1000) (hl2 : z2.length ≤ 1000) :
    Calls Try.prog 51 #[.slice (some ⟨g, 0, none⟩) 3 3] w (GotAm (z1 ++ z2 ++ [x, y]) w) := by
  have H1 := Lib.hid h1
  have H2 := Lib.hid h2
  have H3 := Lib.hid h3
  clear h1 h2 h3
  have G1 := Lib.hid g1
  have G2 := Lib.hid g2
  have hw1 : IntKind.i64.wrap ((z1.length : Int) + z2.length) = (z1.length : Int) + z2.length := IntWalk.i64_in _ (by omega)
  have hw2 : IntKind.i64.wrap ((z1.length : Int) + z2.length + 2) = (z1.length : Int) + z2.length + 2 := IntWalk.i64_in _ (by omega)
  obtain ⟨i0, hi0, hz0, hz1, hz2⟩ := info_parts am_info
  go_enter Try.func51, Try.ntmps51
  go_wp2_with fail
  refine wp_loop_rounds 4 ?_
  rw [rounds_succ]
  go_wp2_with fail
  rw [rounds_succ]
  go_wp2_with fail
  rw [rounds_succ]
  go_wp2_with fail
  rw [rounds_succ]
  go_wp2_with fail
  clear hw1 hw2
  rw [show ((z1.length : Int) + (z2.length : Int) + 2) = ((z1.length + z2.length + 2 : Nat) : Int) from by omega]
  refine (Any8.slices_Grow_grow Try.growA i0 (.int .i64 0) hi0 hz0 (by rw [hz1]; decide) none 0 0 (z1.length + z2.length + 2) [] _ (by omega) (by omega) (by rw [hz2]; omega) (by omega) (by simp) (fun _ => rfl) (fun a h => by cases h)).mono ?_
  rintro e w2 ⟨rfl, hw2⟩
  have HNO : Hid (w2.ownsRow w.heap.size 2 1 (.slice (some ⟨w.heap.size, 0, none⟩) 0 (grownCap w (0 + (z1.length + z2.length + 2)) 0 2)) 0 []) := by show World.ownsRow _ _ _ _ _ _ _; rw [hw2]; exact grow_am w (z1.length + z2.length + 2) (by omega)
  have HWN : Hid (Below w.heap.size w w2) := by show RowKit.Below _ _ _; rw [hw2]; exact (Below.refl _ _).drew.alloc (Nat.le_refl _) _
  have HZ := Lib.hid HWN.out.size
  have HA1 := Lib.hid (H1.out.below HWN.out)
  have p0 : w2.cell? ⟨g, 0, none⟩ = some (.slice A1 z1.length c1) := (HWN.out.cell (p := ⟨g, 0, none⟩) hg).trans g0
  clear hw2 g0 g1 g2
  rw [show (Try.growA_ren.t 25) = 2 from rfl]
  generalize grownCap w (0 + (z1.length + z2.length + 2)) 0 2 = cap at *
  go_wp2_with fail
  refine wp_loop_rounds 4 ?_
  rw [rounds_succ]
  go_wp2_with (at_builtin; refine wpList_append_am rfl _ _ rfl w.heap.size _ 0 [] rfl HNO.out A1 c1 z1 rfl HA1.out (by omega) HZ.out ?_)
  intro v3 w3 ho3 hg3
  have HO3 : Hid (w3.ownsRow w.heap.size 2 1 v3 z1.length (z1.map (Value.int .i64))) := by show World.ownsRow _ _ _ _ _ _ _; simpa using ho3
  have HW3 : Hid (Below w.heap.size w w3) := Lib.hid (HWN.out.trans ((Below.refl _ _).grown hg3 HZ.out (fun j hj => own_base HNO.out j hj)))
  have q1 : w3.cell? ⟨g, 1, none⟩ = some (.slice A2 z2.length c2) := (HW3.out.cell (p := ⟨g, 1, none⟩) hg).trans G1.out
  have HA2' := Lib.hid (H2.out.below HW3.out)
  have HZ3 := Lib.hid HW3.out.size
  clear ho3 hg3
  go_wp2_with fail
  rw [rounds_succ]
  go_wp2_with (at_builtin; refine wpList_append_am rfl _ _ rfl w.heap.size _ z1.length (z1.map (Value.int .i64)) rfl HO3.out A2 c2 z2 rfl HA2'.out (by omega) HZ3.out ?_)
  intro v4 w4 ho4 hg4
  have HO4 : Hid (w4.ownsRow w.heap.size 2 1 v4 (z1.length + z2.length) ((z1 ++ z2).map (Value.int .i64))) := by show World.ownsRow _ _ _ _ _ _ _; rw [List.map_append]; exact ho4
  have HW4 : Hid (Below w.heap.size w w4) := Lib.hid (HW3.out.trans ((Below.refl _ _).grown hg4 HZ3.out (fun j hj => own_base HO3.out j hj)))
  have q2 : w4.cell? ⟨g, 2, none⟩ = some (.slice A3 2 c3) := (HW4.out.cell (p := ⟨g, 2, none⟩) hg).trans G2.out
  have HA3' := Lib.hid (H3.out.below HW4.out)
  have HZ4 := Lib.hid HW4.out.size
  clear ho4 hg4 q1
  generalize hzz : (z1 ++ z2).map (Value.int .i64) = zz at *
  have HZZ := Lib.hid hzz
  clear hzz
  go_wp2_with fail
  rw [rounds_succ]
  go_wp2_with (at_builtin; refine wpList_append_am rfl _ _ rfl w.heap.size _ (z1.length + z2.length) zz rfl HO4.out A3 c3 [x, y] rfl HA3'.out (by simp; omega) HZ4.out ?_)
  intro v5 w5 ho5 hg5
  have HO5 : Hid (w5.ownsRow w.heap.size 2 1 v5 (z1 ++ z2 ++ [x, y]).length ((z1 ++ z2 ++ [x, y]).map (Value.int .i64))) := by show World.ownsRow _ _ _ _ _ _ _; rw [List.map_append, HZZ.out, List.length_append, List.length_append]; exact ho5
  have HW5 : Hid (Below w.heap.size w w5) := Lib.hid (HW4.out.trans ((Below.refl _ _).grown hg5 HZ4.out (fun j hj => own_base HO4.out j hj)))
  clear ho5 hg5 q2
  go_wp2_with fail
  rw [rounds_succ]
  go_wp2_with fail
  go_ret
  obtain ⟨A4, c4, rfl⟩ := own_form HO5.out
  exact ⟨A4, c4, rfl, Seg.of_own HO5.out, HW5.out⟩
end Go.Proofs.Ytglpnpjjjihghaa
