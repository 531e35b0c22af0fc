/-
  What complineref27.Worth comes to, over this seat's translation: a contract for callers.
-/
import Derived.Test.YtglpnpjjjihghaaCw6
import Derived.Test.YtglpnpjjjihghaaCw5
import Derived.Test.YtglpnpjjjihghaaMul2
import Derived.Test.YtglpnpjjjihghaaPlainC
import Derived.Test.YtglpnpjjjihghaaBel
namespace Go.Proofs.Ytglpnpjjjihghaa
open Go.RowKit

theorem int_info7 : (Try.prog.info? 3).map (fun i => (i.zero, i.size, i.bytes)) = some (some (.int .i64 0), 1, 8) := by kernel_rfl
/-- Two rows of numbers of one's own, behind a house in its box. -/
structure W2 (x : Cfg) (w wr : World) (u : Value) (n : Nat) (xs : List Int) (v : Value) (m : Nat) (ys : List Int) : Prop where
  p : wr.ownsRow (w.heap.size + 1) 3 1 u n (xs.map (Value.int .i64))
  r : wr.ownsRow (w.heap.size + 1) 2 1 v m (ys.map (Value.int .i64))
  bx : CfAt wr w.heap.size x
  b : Below w.heap.size w wr
section
variable {x : Cfg} {w wr w1 w2 : World} {u v v' : Value} {n m : Nat} {xs ys : List Int} {o : Obj} {z : Int}
theorem W2.below (h : W2 x w wr u n xs v m ys) (hb : Below wr.heap.size wr w2) : W2 x w w2 u n xs v m ys := ⟨own_below' h.p hb, own_below' h.r hb, h.bx.below hb, h.b.trans (hb.mono h.b.size)⟩
theorem W2.first (h : W2 x w wr u n xs v m ys) (ho : w2.ownsRow (w.heap.size + 1) 3 1 v' (n + 1) (xs.map (Value.int .i64) ++ [.int .i64 z])) (hg : (wr.alloc o).grownBy w2 u.ownBlock) : W2 x w w2 v' (n + 1) (xs ++ [z]) v m ys := by
  have hlt := h.bx.lt
  refine ⟨by rw [List.map_append]; exact ho, (h.r.alloc o).kept hg (own_apart h.r h.p (by decide)), (h.bx.below ((Below.refl _ _).alloc (Nat.le_refl _) o)).grown hg (fun e => ?_), (h.b.alloc (by omega) o).grown hg (by simp; omega) (fun j hj => Nat.le_of_succ_le (own_base h.p j hj))⟩
  have := (h.p.lt _ e.symm).1
  omega
theorem W2.second (h : W2 x w wr u n xs v m ys) (ho : w2.ownsRow (w.heap.size + 1) 2 1 v' (m + 1) (ys.map (Value.int .i64) ++ [.int .i64 z])) (hg : (wr.alloc o).grownBy w2 v.ownBlock) : W2 x w w2 u n xs v' (m + 1) (ys ++ [z]) := by
  have hlt := h.bx.lt
  refine ⟨(h.p.alloc o).kept hg (own_apart h.p h.r (by decide)), by rw [List.map_append]; exact ho, (h.bx.below ((Below.refl _ _).alloc (Nat.le_refl _) o)).grown hg (fun e => ?_), (h.b.alloc (by omega) o).grown hg (by simp; omega) (fun j hj => Nat.le_of_succ_le (own_base h.r j hj))⟩
  have := (h.r.lt _ e.symm).1
  omega
end
def mems (L : List Lg) : List Int := L.map (·.m)
def wths (x : Cfg) (L : List Lg) : List Int := L.map fun y => wthV x y.a y.n
theorem mems_snoc {L : List Lg} {k : Nat} (hk : k < L.length) : mems (L.take (k + 1)) = mems (L.take k) ++ [L[k].m] := by
  unfold mems; rw [List.take_succ_eq_append_getElem hk, List.map_append]; rfl
theorem wths_snoc (x : Cfg) {L : List Lg} {k : Nat} (hk : k < L.length) : wths x (L.take (k + 1)) = wths x (L.take k) ++ [wthV x L[k].a L[k].n] := by
  unfold wths; rw [List.take_succ_eq_append_getElem hk, List.map_append]; rfl
theorem mems_len (L : List Lg) : (mems L).length = L.length := by simp [mems]
theorem wths_len (x : Cfg) (L : List Lg) : (wths x L).length = L.length := by simp [wths]
theorem zip_map2 {α : Type} (f g : α → Int) : ∀ l : List α, (l.map f).zip (l.map g) = l.map fun y => (f y, g y)
  | [] => rfl
  | y :: l => by rw [List.map_cons, List.map_cons, List.zip_cons_cons, zip_map2 f g l, List.map_cons]
theorem sumF_wth (x : Cfg) (L : List Lg) : sumF (mems L) (wths x L) = wthF x L := by
  funext q
  unfold sumF mems wths wthF
  rw [zip_map2, List.filter_map, List.map_map]
  rfl
/-- What complineref27.Worth hands back. -/
def WorthR (x : Cfg) (L : List Lg) (ks : List Int) (w : World) (e : Ending) (w' : World) : Prop :=
  (wthsE x L ≠ 0 ∧ GotLE [] (wthsE x L) w e w') ∨ (wthsE x L = 0 ∧ GotLE (gatL (wthF x L) ks) (gatE (wthF x L) ks) w e w')
set_option maxHeartbeats 3200000 in
set_option maxRecDepth 100000 in
theorem rWorth_any (x : Cfg) (L : List Lg) (ks : List Int) (A : Option Addr) (c : Nat) (w : World) (hc : CfOk w x) (hs : Seg w w.heap.size A (lgRows L)) (hl : L.length ≤ 1000) (hI : ∀ y ∈ L, I64 y.m ∧ I64 y.a ∧ I64 y.n) (hp : ∀ i, I64 (secP x i).a) (hu : ks.Pairwise (· < ·)) (hm : ∀ q, q ∈ ks ↔ ∃ y ∈ L, y.m = q) :
    Calls Try.prog 13 #[x.val, .slice A L.length c] w (WorthR x L ks w) := by
  obtain ⟨i0, hi0, hz0, hz1, hz2⟩ := info_parts int_info7
  obtain ⟨j0, hj0, jz0, jz1, jz2⟩ := info_parts i64_info6
  have HC := Lib.hid hc
  have HS := Lib.hid hs
  have HI := Lib.hid hI
  have HP := Lib.hid hp
  have HK : Hid (Keys (mems L) ks) := Lib.hid ⟨hu, fun q => by rw [hm]; unfold mems; rw [List.mem_map]⟩
  have HW0 : Hid (∀ W, W = w.alloc (.cells #[.slice x.Am x.ms.length x.cm, .slice x.As x.ss.length x.cs, .slice x.Ac x.cy.length x.cc, .int .i64 x.line, .int .i64 x.capi, .int .i64 x.lead, .int .i64 x.tr, .int .i64 x.bids] 26) → W2 x w W (.slice none 0 0) 0 [] (.slice none 0 0) 0 []) := Lib.hid (by
    rintro W rfl
    exact ⟨World.ownsRow_nil _ _ _ _, World.ownsRow_nil _ _ _ _, cf_new w x, box_below w x⟩)
  clear hc hs hI hp hu hm
  have hg0 : decide ((1024 : Int) < (L.length : Int)) = false := decide_eq_false (by omega)
  unfold Cfg.val
  go_enter Try.func13, Try.ntmps13
  go_wp2_with fail
  have HW1 := HW0.out _ rfl
  clear HW0
  generalize w.alloc (.cells #[.slice x.Am x.ms.length x.cm, .slice x.As x.ss.length x.cs, .slice x.Ac x.cy.length x.cc, .int .i64 x.line, .int .i64 x.capi, .int .i64 x.lead, .int .i64 x.tr, .int .i64 x.bids] 26) = w1 at HW1 ⊢
  have HW := Lib.hid HW1
  clear HW1
  go_loopw [6, 7, 8] (fun u v i wr => ∃ k : Nat, k ≤ L.length ∧ i = .int .i64 k ∧ Hid (∀ j (hj : j < L.length), j < k → wthE x L[j].a L[j].n = 0) ∧ Hid (W2 x w wr u k (mems (L.take k)) v k (wths x (L.take k)))) (fun _ _ i _ => L.length - (intOf i).toNat)
  case atStart => exact ⟨0, Nat.zero_le _, rfl, fun j _ h => absurd h (Nat.not_lt_zero _), HW.out⟩
  case round =>
    clear HW
    obtain ⟨k, hk, rfl, HOK, HW⟩ := hrel
    have hsz := HW.out.b.size
    by_cases hlt : k < L.length
    · obtain ⟨b, o, rfl, hb, d0, d1, d2⟩ := lg_at (HS.out.below HW.out.b) hlt
      obtain ⟨hm1, hm2, hm3⟩ := HI.out _ (List.getElem_mem hlt)
      have HPI := Lib.hid (HP.out L[k].a)
      have HE : Hid (wthE x L[k].a L[k].n = if secIn x L[k].a then (if L[k].n < 1 then 1 else amtE (L[k].n * (secP x L[k].a).a)) else 10) := Lib.hid rfl
      have HV : Hid (wthV x L[k].a L[k].n = if secIn x L[k].a then (if L[k].n < 1 then 0 else amtV (L[k].n * (secP x L[k].a).a)) else 0) := Lib.hid rfl
      have HEE : Hid (wthE x L[k].a L[k].n ≠ 0 → wthsE x L = wthE x L[k].a L[k].n) := Lib.hid fun h => wthsE_take hlt (fun j hj => HOK.out j (by omega) hj) h
      have HMS := Lib.hid (mems_snoc hlt)
      have HWS := Lib.hid (wths_snoc x hlt)
      have HOK2 : Hid (wthE x L[k].a L[k].n = 0 → ∀ j (hj : j < L.length), j < k + 1 → wthE x L[j].a L[j].n = 0) := Lib.hid fun h j hj hjk => by
        by_cases e : j = k
        · subst e; exact h
        · exact HOK.out j hj (by omega)
      have hk0 : (0 : Int) ≤ (k : Int) := by omega
      have hkb : (k : Int) < (L.length : Int) := by omega
      have c1 := HW.out.bx.c1
      have hbx := HW.out.bx.lt
      generalize wthE x L[k].a L[k].n = ev at *
      generalize wthV x L[k].a L[k].n = wv at *
      generalize L[k].m = q at *
      generalize L[k].n = n at *
      have HSEC := Lib.hid (show secIn x L[k].a ↔ 1 ≤ L[k].a ∧ L[k].a ≤ x.ss.length from Iff.rfl)
      have HSY : Hid (∀ s : Nat, s < x.ss.length → L[k].a = (s : Int) + 1 → secP x L[k].a = x.ss.getD s ⟨0, 0⟩) := Lib.hid fun s hs e => by
        rw [e, (sec_yes hs).1]
        simp [List.getD, hs]
      generalize L[k].a = a at *
      generalize secP x a = pr at *
      by_cases ha1 : a < 1
      · have hev : ev = 10 := by rw [HE.out, if_neg (fun h => by have := HSEC.out.1 h; omega)]
        have HGE := Lib.hid (HEE.out (by omega))
        have had : decide (a < 1) = true := decide_eq_true ha1
        subst hev
        clear HE HV hm1 hm2 hm3
        go_wp2_with fail
        go_quiet (fail)
        go_wp2_with fail
        go_ret2
        exact Or.inl ⟨by rw [HGE.out]; decide, none, 0, by rw [HGE.out]; rfl, Seg.nil, below_drewN HW.out.b nq⟩
      · by_cases ha2 : a ≤ x.ss.length
        · obtain ⟨s, hss, rfl⟩ : ∃ s : Nat, s < x.ss.length ∧ a = (s : Int) + 1 := ⟨(a - 1).toNat, by omega, by omega⟩
          have hsi : secIn x ((s : Int) + 1) := HSEC.out.2 ⟨by omega, ha2⟩
          have hpr := HSY.out s hss rfl
          rw [if_pos hsi] at HE HV
          have had : decide ((s : Int) + 1 < 1) = false := decide_eq_false ha1
          have hag : decide ((x.ss.length : Int) < (s : Int) + 1) = false := decide_eq_false (by omega)
          obtain ⟨bs, os, hAs, hbs, e0, _⟩ := pr_at (HC.out.s.below HW.out.b) hss
          have hpd : x.ss.getD s ⟨0, 0⟩ = x.ss[s] := by simp [List.getD, hss]
          rw [hpd] at hpr
          rw [← hpr] at e0
          rw [hAs] at c1
          clear hpr hpd hsi HSEC HSY hAs
          by_cases hn : n < 1
          · rw [if_pos hn] at HE
            have hev : ev = 1 := HE.out
            have HGE := Lib.hid (HEE.out (by omega))
            have hnd : decide (n < 1) = true := decide_eq_true hn
            subst hev
            clear HE HV hm1 hm2 hm3
            go_wp2_with fail
            go_quiet (fail)
            go_wp2_with fail
            go_ret2
            exact Or.inl ⟨by rw [HGE.out]; decide, none, 0, by rw [HGE.out]; rfl, Seg.nil, below_drewN HW.out.b nq⟩
          · rw [if_neg hn] at HE HV
            have hnd : decide (n < 1) = false := decide_eq_false hn
            have HN3 := Lib.hid hm3
            unfold I64 at hm2
            have hkw : IntKind.i64.wrap ((s : Int) + 1 - 1) = (s : Int) := by rw [IntWalk.i64_in _ (by omega)]; omega
            have hkw2 : IntKind.i64.wrap (s : Int) = (s : Int) := IntWalk.i64_in _ (by omega)
            have hsb : (s : Int) < (x.ss.length : Int) := by omega
            have hs0 : (0 : Int) ≤ (s : Int) := by omega
            clear hm1 hm2 hm3
            go_wp2_with fail
            go_quiet (fail)
            have HWd := Lib.hid (HW.out.below (below_drewN (Below.refl _ _) nq))
            have f0 : (wr.drewN nq).cell? ⟨b, o + k * 3, none⟩ = some (.int .i64 q) := d0
            have f1 : (wr.drewN nq).cell? ⟨b, o + k * 3 + 1, none⟩ = some (.int .i64 ((s : Int) + 1)) := d1
            have f2 : (wr.drewN nq).cell? ⟨b, o + k * 3 + 2, none⟩ = some (.int .i64 n) := d2
            have fc1 : (wr.drewN nq).cell? ⟨w.heap.size, 1, none⟩ = _ := c1
            have fe0 : (wr.drewN nq).cell? ⟨bs, os + s * 2, none⟩ = _ := e0
            clear d0 d1 d2 c1 e0 HW hsz hbx
            generalize wr.drewN nq = wd at *
            have hszd := HWd.out.b.size
            have hbx := HWd.out.bx.lt
            have hbd : b < wd.heap.size := by omega
            have hbsd : bs < wd.heap.size := by omega
            go_wp2_with fail
            have hbel := fun (n : Bel wd.heap.size wd) (b o : Nat) (hb : b < wd.heap.size) => n.cells b o hb
            refine wp_region_bel wd.heap.size (by kernel_rfl) (by kernel_rfl) ?_
            repeat (go_big_quiet_step ((go_at_call 44; exact Calls.bel_of (Nat.le_refl _) (rmul1_any n pr.a _ HN3.out HPI.out))))
            refine wpQuiet_nil ?_
            intro _ hw'
            obtain ⟨nq2, hw''⟩ := hw'
            subst hw''
            have HWe : Hid (W2 x w nq2.wd _ k (mems (L.take k)) _ k (wths x (L.take k))) := Lib.hid (HWd.out.below nq2.h)
            have HDE : Hid (∀ W, Below wd.heap.size wd W → W.cell? ⟨b, o + k * 3, none⟩ = some (.int .i64 q)) := Lib.hid fun W hW => (hW.cell (p := ⟨b, o + k * 3, none⟩) hbd).trans f0
            have g0 := HDE.out _ nq2.h
            clear hbel f0 f1 f2 fc1 fe0 hkw hkw2
            generalize nq2.wd = we at *
            rw [← HV.out, ← HE.out]
            by_cases he : ev = 0
            · subst he
              have HOK3 := Lib.hid (HOK2.out rfl)
              clear HE HV HEE HOK2
              have hwe := HWe.out.b.size
              have hyl : k ≤ 1000 := by omega
              go_wp2_with (at_builtin; refine wpList_append_own _ rfl _ _ 38 rfl (w.heap.size + 1) 3 i0 _ 1 8 Try.underlying38 hi0 hz0 hz1 hz2 rfl (by decide) _ k ((mems (L.take k)).map (Value.int .i64)) rfl (HWe.out.p.alloc _) ⟨we.heap.size, 0, none⟩ 1 1 [.int .i64 q] rfl rfl (new_cells _ _ #[_] (by simp)) one_int (by simp only [maxLen]; omega) (by omega) (by simp; omega) ?_)
              intro v' w4 hown1 hgrow1 _
              have HW4 : Hid (W2 x w w4 v' (k + 1) (mems (L.take (k + 1))) _ k (wths x (L.take k))) := Lib.hid (by rw [HMS.out]; exact HWe.out.first hown1 hgrow1)
              clear hown1 hgrow1 HWe g0 hwe
              have hw4 := HW4.out.b.size
              have hl4 := HW4.out.bx.lt
              go_wp2_with (at_builtin; refine wpList_append_own _ rfl _ _ 35 rfl (w.heap.size + 1) 2 j0 _ 1 8 Try.underlying35 hj0 jz0 jz1 jz2 rfl (by decide) _ k ((wths x (L.take k)).map (Value.int .i64)) rfl (HW4.out.r.alloc _) ⟨w4.heap.size, 0, none⟩ 1 1 [.int .i64 wv] rfl rfl (new_cells _ _ #[_] (by simp)) one_int (by simp only [maxLen]; omega) (by omega) (by simp; omega) ?_)
              intro v5 w5 hown1 hgrow1 _
              have HW5 : Hid (W2 x w w5 v' (k + 1) (mems (L.take (k + 1))) v5 (k + 1) (wths x (L.take (k + 1)))) := Lib.hid (by rw [HWS.out]; exact HW4.out.second hown1 hgrow1)
              clear hown1 hgrow1
              go_wp2_with fail
              go_roundw
              case rel => exact ⟨k + 1, by omega, by go_num, HOK3, HW5⟩
              case measure => simp [intOf]; omega
            · have HGE := Lib.hid (HEE.out he)
              have hez : (ev = 0) = False := eq_false he
              clear HE HV HEE
              go_wp2_with fail
              go_ret2
              exact Or.inl ⟨by rw [HGE.out]; exact he, none, 0, by rw [HGE.out]; rfl, Seg.nil, HWe.out.b⟩
        · have hev : ev = 10 := by rw [HE.out, if_neg (fun h => by have := HSEC.out.1 h; omega)]
          have HGE := Lib.hid (HEE.out (by omega))
          have had : decide (a < 1) = false := decide_eq_false ha1
          have hag : decide ((x.ss.length : Int) < a) = true := decide_eq_true (by omega)
          subst hev
          clear HE HV hm1 hm2 hm3
          go_wp2_with fail
          go_quiet (fail)
          go_wp2_with fail
          go_ret2
          exact Or.inl ⟨by rw [HGE.out]; decide, none, 0, by rw [HGE.out]; rfl, Seg.nil, below_drewN HW.out.b nq⟩
    · obtain rfl : k = L.length := by omega
      have hW := HW.out
      rw [List.take_length] at hW
      obtain ⟨A1, c1, rfl⟩ := own_form hW.p
      obtain ⟨B1, d1, rfl⟩ := own_form hW.r
      have hml := mems_len L
      have hwl := wths_len x L
      have HSU := Lib.hid (Sums_any (mems L) (wths x L) ks A1 B1 c1 d1 wr (Seg.of_own hW.p) (Seg.of_own hW.r) (by omega) (by omega) HK.out (fun z hz => by
        obtain ⟨y, _, rfl⟩ := List.mem_map.1 hz
        exact wthV_I64 _ _ _) (fun z hz => by
        obtain ⟨y, hy, rfl⟩ := List.mem_map.1 hz
        exact (HI.out y hy).1))
      rw [hml, hwl, sumF_wth] at HSU
      have HE : Hid (wthsE x L = 0) := Lib.hid (wthsE_all fun j hj => HOK.out j hj hj)
      have HB := Lib.hid hW.b
      clear hW hml hwl HW
      go_wp2_with (go_at_call 45; refine HSU.out.mono ?_; rintro e w2 ⟨A2, c2, rfl, hs2, hb2⟩; have HS2 := Lib.hid hs2; have HB2 := Lib.hid hb2; clear hs2 hb2)
      go_ret2
      exact Or.inr ⟨HE.out, A2, c2, rfl, HS2.out, HB.out.trans (HB2.out.mono HB.out.size)⟩
end Go.Proofs.Ytglpnpjjjihghaa
