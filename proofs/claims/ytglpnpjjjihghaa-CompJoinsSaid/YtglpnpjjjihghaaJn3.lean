/-
  What complineref27.Join and complineref27.Of come to, over this seat's translation: contracts for callers.
-/
import Derived.Test.YtglpnpjjjihghaaJn2
import Derived.Test.YtglpnpjjjihghaaAl4
import Derived.Test.YtglpnpjjjihghaaCw7
namespace Go.Proofs.Ytglpnpjjjihghaa
open Go.RowKit

/-- What complineref27.Join hands back. -/
def JoinR (X Y : List Lg) (ks : List Int) (w : World) (e : Ending) (w' : World) : Prop :=
  (jnE X Y ≠ 0 ∧ GotLE [] (jnE X Y) w e w') ∨ (jnE X Y = 0 ∧ GotLE (gatR (amtF (X ++ Y)) ks) 0 w e w')
/-- Two rows of numbers of one's own. -/
structure J2 (w wr : World) (u : Value) (n : Nat) (xs : List Int) (v : Value) (ys : List Int) : Prop where
  p : wr.ownsRow w.heap.size 3 1 u n (xs.map (Value.int .i64))
  r : wr.ownsRow w.heap.size 2 1 v n (ys.map (Value.int .i64))
  b : Below w.heap.size w wr
/-- The first has grown. -/
structure J2h (w wr : World) (u : Value) (n : Nat) (xs : List Int) (v : Value) (ys : List Int) : Prop where
  p : wr.ownsRow w.heap.size 3 1 u (n + 1) (xs.map (Value.int .i64))
  r : wr.ownsRow w.heap.size 2 1 v n (ys.map (Value.int .i64))
  b : Below w.heap.size w wr
section
variable {w wr w2 : World} {u v v' : Value} {n : Nat} {xs ys : List Int} {o : Obj} {z : Int}
theorem J2.first (h : J2 w wr u n xs v ys) (ho : w2.ownsRow w.heap.size 3 1 v' (n + 1) (xs.map (Value.int .i64) ++ [.int .i64 z])) (hg : (wr.alloc o).grownBy w2 u.ownBlock) : J2h w w2 v' n (xs ++ [z]) v ys := by
  have hs := h.b.size
  exact ⟨by rw [List.map_append]; exact ho, (h.r.alloc o).kept hg (own_apart h.r h.p (by decide)), (h.b.alloc hs o).grown hg (by simp; omega) (fun j hj => own_base h.p j hj)⟩
theorem J2h.second (h : J2h w wr u n xs v ys) (ho : w2.ownsRow w.heap.size 2 1 v' (n + 1) (ys.map (Value.int .i64) ++ [.int .i64 z])) (hg : (wr.alloc o).grownBy w2 v.ownBlock) : J2 w w2 u (n + 1) xs v' (ys ++ [z]) := by
  have hs := h.b.size
  exact ⟨(h.p.alloc o).kept hg (own_apart h.p h.r (by decide)), by rw [List.map_append]; exact ho, (h.b.alloc hs o).grown hg (by simp; omega) (fun j hj => own_base h.r j hj)⟩
end
def mns (L : List Lg) : List Int := L.map (·.n)
theorem mns_snoc {L : List Lg} {k : Nat} (hk : k < L.length) : mns (L.take (k + 1)) = mns (L.take k) ++ [L[k].n] := by
  unfold mns; rw [List.take_succ_eq_append_getElem hk, List.map_append]; rfl
theorem cat_len {L : List Lg} {k : Nat} (f : Lg → Int) (hk : k ≤ L.length) : ((L.take k).map f).length = k := by rw [List.length_map, List.length_take]; omega
set_option maxHeartbeats 3200000 in
set_option maxRecDepth 100000 in
theorem rJoin_any (X Y : List Lg) (ks : List Int) (A B : Option Addr) (c d : Nat) (w : World) (hA : Seg w w.heap.size A (lgRows X)) (hB : Seg w w.heap.size B (lgRows Y)) (hX : X.length ≤ 500) (hY : Y.length ≤ 500) (hIX : ∀ y ∈ X, I64 y.m ∧ I64 y.n) (hIY : ∀ y ∈ Y, I64 y.m ∧ I64 y.n) (hu : ks.Pairwise (· < ·)) (hm : ∀ q, q ∈ ks ↔ ∃ y ∈ X ++ Y, y.m = q) :
    Calls Try.prog 33 #[.slice A X.length c, .slice B Y.length d] w (JoinR X Y ks w) := by
  have HSA : Hid (∀ W, Below w.heap.size w W → Calls Try.prog 37 #[.slice A X.length c] W fun e w' => e = .returned (.tuple #[.int .i64 (sumV X), .int .i64 (clmE X)]) ∧ Below W.heap.size W w') := Lib.hid fun W hW => rsum26_any X A c W ((hA.below hW).mono hW.size) (fun y hy => (hIX y hy).2) (by omega)
  have HSB : Hid (∀ W, Below w.heap.size w W → Calls Try.prog 37 #[.slice B Y.length d] W fun e w' => e = .returned (.tuple #[.int .i64 (sumV Y), .int .i64 (clmE Y)]) ∧ Below W.heap.size W w') := Lib.hid fun W hW => rsum26_any Y B d W ((hB.below hW).mono hW.size) (fun y hy => (hIY y hy).2) (by omega)
  have HKA : Hid (∀ W, Below w.heap.size w W → Calls Try.prog 38 #[.slice A X.length c] W fun e w' => e = .returned (.bool (cashB X)) ∧ W = w') := Lib.hid fun W hW => cash27_any X A c W ((hA.below hW).mono hW.size) (by omega)
  have HKB : Hid (∀ W, Below w.heap.size w W → Calls Try.prog 38 #[.slice B Y.length d] W fun e w' => e = .returned (.bool (cashB Y)) ∧ W = w') := Lib.hid fun W hW => cash27_any Y B d W ((hB.below hW).mono hW.size) (by omega)
  have HA := Lib.hid hA
  have HB := Lib.hid hB
  have HIX := Lib.hid hIX
  have HIY := Lib.hid hIY
  have HK : Hid (Keys (mems (X ++ Y)) ks) := Lib.hid ⟨hu, fun q => by rw [hm]; unfold mems; rw [List.mem_map]⟩
  clear hA hB hIX hIY hu hm
  go_enter Try.func33, Try.ntmps33
  go_wp2_with fail
  refine (HSA.out _ (Below.refl _ _)).mono ?_
  rintro e w2 ⟨rfl, hb2⟩
  have HB2 := Lib.hid hb2
  clear hb2
  rcases jn_cases X Y with ⟨h1, h2⟩ | ⟨h1, h2, h3⟩ | ⟨h1, h2, h3, h4⟩ | ⟨h1, h2, h3, h4, h5⟩ | ⟨h1, h2, h3, h4, h5⟩
  · have HE := Lib.hid h2
    have HN : Hid (jnE X Y ≠ 0) := Lib.hid (by rw [h2]; exact h1)
    clear h2
    generalize sumV X = sx at *
    go_wp2_with fail
    go_ret2
    exact Or.inl ⟨HN.out, none, 0, by rw [HE.out]; rfl, Seg.nil, HB2.out⟩
  all_goals
    rw [h1, show sumV X = sumI (amts X) from by unfold sumV; rw [if_pos h1]]
    go_wp2_with fail
    refine (HSB.out _ HB2.out).mono ?_
    rintro e w3 ⟨rfl, hb3⟩
    have HB3 : Hid (Below w.heap.size w w3) := Lib.hid (HB2.out.trans (hb3.mono HB2.out.size))
    clear hb3 HB2
  · have HE := Lib.hid h3
    have HN : Hid (jnE X Y ≠ 0) := Lib.hid (by rw [h3]; exact h2)
    clear h3
    generalize sumV Y = sx at *
    go_wp2_with fail
    go_ret2
    exact Or.inl ⟨HN.out, none, 0, by rw [HE.out]; rfl, Seg.nil, HB3.out⟩
  all_goals
    rw [h2, show sumV Y = sumI (amts Y) from by unfold sumV; rw [if_pos h2]]
    go_wp2_with fail
    refine (HKA.out _ HB3.out).mono ?_
    rintro e w4 ⟨rfl, rfl⟩
  · rw [h3]
    have HE := Lib.hid h4
    have HN : Hid (jnE X Y ≠ 0) := Lib.hid (by rw [h4]; decide)
    clear h4
    go_wp2_with fail
    go_ret2
    exact Or.inl ⟨HN.out, none, 0, by rw [HE.out]; rfl, Seg.nil, HB3.out⟩
  all_goals
    rw [h3]
    go_wp2_with fail
    refine (HKB.out _ HB3.out).mono ?_
    rintro e w5 ⟨rfl, rfl⟩
  · rw [h4]
    have HE := Lib.hid h5
    have HN : Hid (jnE X Y ≠ 0) := Lib.hid (by rw [h5]; decide)
    clear h5
    go_wp2_with fail
    go_ret2
    exact Or.inl ⟨HN.out, none, 0, by rw [HE.out]; rfl, Seg.nil, HB3.out⟩
  · rw [h4]
    have HXI : Hid (I64 (sumI (amts X))) := Lib.hid (clmE_ok h1).2.2
    have HYI : Hid (I64 (sumI (amts Y))) := Lib.hid (clmE_ok h2).2.2
    have HT : Hid (jnT X Y = sumI (amts X) + sumI (amts Y)) := Lib.hid rfl
    have HH := Lib.hid (And.intro h1 (And.intro h2 h5))
    clear h1 h2 h3 h4 h5
    generalize sumI (amts X) = sx at *
    generalize sumI (amts Y) = sy at *
    go_wp2_with fail
    have HRS : Hid (Calls Try.prog 62 #[.slice (some ⟨w3.heap.size, 0, none⟩) 2 2] (w3.alloc (.cells #[.int .i64 sx, .int .i64 sy] 2)) fun e w' => e = .returned (.tuple #[.int .i64 (amtV (sx + sy)), .int .i64 (amtE (sx + sy))]) ∧ w3.alloc (.cells #[.int .i64 sx, .int .i64 sy] 2) = w') := Lib.hid (by
      have := refsum_any [sx, sy] (some ⟨w3.heap.size, 0, none⟩) 2 (w3.alloc (.cells #[.int .i64 sx, .int .i64 sy] 2)) (by intro x hx; simp at hx; rcases hx with rfl | rfl; exact HXI.out; exact HYI.out) (seg_new w3 _ [.int .i64 sx, .int .i64 sy]) (by simp)
      rw [show sumI [sx, sy] = sx + sy from by simp only [sumI]; omega] at this
      exact this)
    refine HRS.out.mono ?_
    rintro e w6 ⟨rfl, rfl⟩
    have HB6 : Hid (Below w.heap.size w (w3.alloc (.cells #[.int .i64 sx, .int .i64 sy] 2))) := Lib.hid (HB3.out.alloc HB3.out.size _)
    clear HRS HB3
    generalize w3.alloc (.cells #[.int .i64 sx, .int .i64 sy] 2) = w6 at *
    obtain ⟨i0, hi0, hz0, hz1, hz2⟩ := info_parts int_info7
    obtain ⟨j0, hj0, jz0, jz1, jz2⟩ := info_parts i64_info6
    by_cases hT : I64 (sx + sy)
    · have hE := (amt_in hT).2
      have HJE : Hid (jnE X Y = 0) := Lib.hid (by rw [HH.out.2.2, HT.out]; exact hE)
      have HTT : Hid (I64 (jnT X Y)) := Lib.hid (by rw [HT.out]; exact hT)
      rw [hE]
      generalize amtV (sx + sy) = tv at *
      clear hE hT
      go_wp2_with fail
      go_loopw [10, 11, 12] (fun u v i wr => ∃ k : Nat, k ≤ X.length ∧ i = .int .i64 k ∧ Hid (J2 w wr u k (mems (X.take k)) v (mns (X.take k)))) (fun _ _ i _ => X.length - (intOf i).toNat)
      case atStart => exact ⟨0, Nat.zero_le _, rfl, ⟨World.ownsRow_nil _ _ _ _, World.ownsRow_nil _ _ _ _, HB6.out⟩⟩
      case round =>
        clear HB6
        obtain ⟨k, hk, rfl, HJ⟩ := hrel
        have hsz := HJ.out.b.size
        by_cases hlt : k < X.length
        · obtain ⟨b, o, rfl, hb, d0, d1, d2⟩ := lg_at (HA.out.below HJ.out.b) hlt
          have HMS := Lib.hid (mems_snoc hlt)
          have HNS := Lib.hid (mns_snoc hlt)
          have hk0 : (0 : Int) ≤ (k : Int) := by omega
          have hkb : (k : Int) < (X.length : Int) := by omega
          generalize X[k].m = q at *
          generalize X[k].n = n at *
          have HD2 : Hid (∀ W, Below w.heap.size w W → W.cell? ⟨b, o + k * 3 + 2, none⟩ = some (.int .i64 n)) := Lib.hid fun W hW => (hW.cell (p := ⟨b, o + k * 3 + 2, none⟩) hb).trans ((HJ.out.b.cell (p := ⟨b, o + k * 3 + 2, none⟩) hb).symm.trans d2)
          go_wp2_with (at_builtin; refine wpList_append_own _ rfl _ _ 38 rfl w.heap.size 3 i0 _ 1 8 Try.underlying38 hi0 hz0 hz1 hz2 rfl (by decide) _ k ((mems (X.take k)).map (Value.int .i64)) rfl (HJ.out.p.alloc _) ⟨wr.heap.size, 0, none⟩ 1 1 [.int .i64 q] rfl rfl (new_cells _ _ #[_] (by simp)) one_int (by simp only [maxLen]; omega) (by omega) (by simp; omega) ?_)
          intro v' w4 hown1 hgrow1 _
          have HJ4 := Lib.hid (HJ.out.first hown1 hgrow1)
          rw [← HMS.out] at HJ4
          clear hown1 hgrow1 d0 d1 d2 HJ hsz
          have hs4 := HJ4.out.b.size
          have e2 := HD2.out _ HJ4.out.b
          go_wp2_with (at_builtin; refine wpList_append_own _ rfl _ _ 35 rfl w.heap.size 2 j0 _ 1 8 Try.underlying35 hj0 jz0 jz1 jz2 rfl (by decide) _ k ((mns (X.take k)).map (Value.int .i64)) rfl (HJ4.out.r.alloc _) ⟨w4.heap.size, 0, none⟩ 1 1 [.int .i64 n] rfl rfl (new_cells _ _ #[_] (by simp)) one_int (by simp only [maxLen]; omega) (by omega) (by simp; omega) ?_)
          intro v5 w5 hown1 hgrow1 _
          have HJ5 := Lib.hid (HJ4.out.second hown1 hgrow1)
          rw [← HNS.out] at HJ5
          clear hown1 hgrow1
          go_wp2_with fail
          go_roundw
          case rel => exact ⟨k + 1, by omega, by go_num, HJ5⟩
          case measure => simp [intOf]; omega
        · obtain rfl : k = X.length := by omega
          have hJ0 := HJ.out
          rw [List.take_length] at hJ0
          have HJ0 : Hid (J2 w wr _ (X.length + 0) (mems X ++ mems (Y.take 0)) _ (mns X ++ mns (Y.take 0))) := Lib.hid (by
            rw [show mems (Y.take 0) = [] from rfl, show mns (Y.take 0) = [] from rfl, List.append_nil, List.append_nil]
            exact hJ0)
          clear hJ0 HJ
          go_wp2_with fail
          go_loopw [10, 11, 13] (fun u v i wr => ∃ k : Nat, k ≤ Y.length ∧ i = .int .i64 k ∧ Hid (J2 w wr u (X.length + k) (mems X ++ mems (Y.take k)) v (mns X ++ mns (Y.take k)))) (fun _ _ i _ => Y.length - (intOf i).toNat)
          case atStart => exact ⟨0, Nat.zero_le _, rfl, HJ0.out⟩
          case round =>
            clear HJ0
            obtain ⟨k, hk, rfl, HJ⟩ := hrel
            have hsz := HJ.out.b.size
            by_cases hlt : k < Y.length
            · obtain ⟨b, o, rfl, hb, d0, d1, d2⟩ := lg_at (HB.out.below HJ.out.b) hlt
              have HMS : Hid (mems X ++ mems (Y.take (k + 1)) = mems X ++ mems (Y.take k) ++ [Y[k].m]) := Lib.hid (by rw [mems_snoc hlt, List.append_assoc])
              have HNS : Hid (mns X ++ mns (Y.take (k + 1)) = mns X ++ mns (Y.take k) ++ [Y[k].n]) := Lib.hid (by rw [mns_snoc hlt, List.append_assoc])
              generalize mems X ++ mems (Y.take k) = xs9 at *
              generalize mns X ++ mns (Y.take k) = ys9 at *
              have hk0 : (0 : Int) ≤ (k : Int) := by omega
              have hkb : (k : Int) < (Y.length : Int) := by omega
              generalize Y[k].m = q at *
              generalize Y[k].n = n at *
              have HD2 : Hid (∀ W, Below w.heap.size w W → W.cell? ⟨b, o + k * 3 + 2, none⟩ = some (.int .i64 n)) := Lib.hid fun W hW => (hW.cell (p := ⟨b, o + k * 3 + 2, none⟩) hb).trans ((HJ.out.b.cell (p := ⟨b, o + k * 3 + 2, none⟩) hb).symm.trans d2)
              go_wp2_with (at_builtin; refine wpList_append_own _ rfl _ _ 38 rfl w.heap.size 3 i0 _ 1 8 Try.underlying38 hi0 hz0 hz1 hz2 rfl (by decide) _ (X.length + k) (xs9.map (Value.int .i64)) rfl (HJ.out.p.alloc _) ⟨wr.heap.size, 0, none⟩ 1 1 [.int .i64 q] rfl rfl (new_cells _ _ #[_] (by simp)) one_int (by simp only [maxLen]; omega) (by omega) (by simp; omega) ?_)
              intro v' w4 hown1 hgrow1 _
              have HJ4 := Lib.hid (HJ.out.first hown1 hgrow1)
              rw [← HMS.out] at HJ4
              clear hown1 hgrow1 d0 d1 d2 HJ hsz
              have hs4 := HJ4.out.b.size
              have e2 := HD2.out _ HJ4.out.b
              go_wp2_with (at_builtin; refine wpList_append_own _ rfl _ _ 35 rfl w.heap.size 2 j0 _ 1 8 Try.underlying35 hj0 jz0 jz1 jz2 rfl (by decide) _ (X.length + k) (ys9.map (Value.int .i64)) rfl (HJ4.out.r.alloc _) ⟨w4.heap.size, 0, none⟩ 1 1 [.int .i64 n] rfl rfl (new_cells _ _ #[_] (by simp)) one_int (by simp only [maxLen]; omega) (by omega) (by simp; omega) ?_)
              intro v5 w5 hown1 hgrow1 _
              have HJ5 := Lib.hid (HJ4.out.second hown1 hgrow1)
              rw [← HNS.out] at HJ5
              clear hown1 hgrow1
              go_wp2_with fail
              go_roundw
              case rel => exact ⟨k + 1, by omega, by go_num, HJ5⟩
              case measure => simp [intOf]; omega
            · obtain rfl : k = Y.length := by omega
              have hJ := HJ.out
              rw [List.take_length, show mems X ++ mems Y = mems (X ++ Y) from by simp [mems], show mns X ++ mns Y = mns (X ++ Y) from by simp [mns]] at hJ
              obtain ⟨A1, c1, rfl⟩ := own_form hJ.p
              obtain ⟨B1, d1, rfl⟩ := own_form hJ.r
              have hml : (mems (X ++ Y)).length = X.length + Y.length := by simp [mems]
              have hnl : (mns (X ++ Y)).length = X.length + Y.length := by simp [mns]
              have HSU := Lib.hid (Sums_any (mems (X ++ Y)) (mns (X ++ Y)) ks A1 B1 c1 d1 wr (Seg.of_own hJ.p) (Seg.of_own hJ.r) (by omega) (by omega) HK.out (fun z hz => by
                obtain ⟨y, hy, rfl⟩ := List.mem_map.1 hz
                rcases List.mem_append.1 hy with h | h
                · exact (HIX.out y h).2
                · exact (HIY.out y h).2) (fun z hz => by
                obtain ⟨y, hy, rfl⟩ := List.mem_map.1 hz
                rcases List.mem_append.1 hy with h | h
                · exact (HIX.out y h).1
                · exact (HIY.out y h).1))
              have hE : gatE (amtF (X ++ Y)) ks = 0 := gatE_all fun j _ => jn_sums HH.out.1 HH.out.2.1 HTT.out _
              rw [hml, hnl, show sumF (mems (X ++ Y)) (mns (X ++ Y)) = amtF (X ++ Y) from sumF_mems _, show gatL (amtF (X ++ Y)) ks = gatR (amtF (X ++ Y)) ks from by unfold gatL; rw [if_pos hE], hE] at HSU
              have HBJ := Lib.hid hJ.b
              clear hJ hml hnl HJ hE
              go_wp2_with (go_at_call 45; refine HSU.out.mono ?_; rintro e w2 ⟨A2, c2, rfl, hs2, hb2⟩; have HS2 := Lib.hid hs2; have HB2 := Lib.hid hb2; clear hs2 hb2)
              go_ret2
              exact Or.inr ⟨HJE.out, A2, c2, rfl, HS2.out, HBJ.out.trans (HB2.out.mono HBJ.out.size)⟩
    · have hE := (amt_out hT).2
      have HJE : Hid (jnE X Y = 2) := Lib.hid (by rw [HH.out.2.2, HT.out]; exact hE)
      rw [hE]
      generalize amtV (sx + sy) = tv at *
      clear hE hT
      go_wp2_with fail
      go_ret2
      exact Or.inl ⟨by rw [HJE.out]; decide, none, 0, by rw [HJE.out]; rfl, Seg.nil, HB6.out⟩
end Go.Proofs.Ytglpnpjjjihghaa
