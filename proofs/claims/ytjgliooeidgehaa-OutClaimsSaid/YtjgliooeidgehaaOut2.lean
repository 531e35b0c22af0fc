/-
  What package out's Good and Withheld come to, over this seat's translation: contracts for callers.
-/
import Derived.Test.YtjgliooeidgehaaOut1
import Derived.Laws.EntriesVeiled
namespace Go.Proofs.Ytjgliooeidgehaa
open Go.RowKit

/-- Who is out, in a box. -/
structure WhoAt (w : World) (bw : Nat) (A : Option Addr) (c : Nat) (who : List Int) : Prop where
  cell : w.cell? ⟨bw, 0, none⟩ = some (.slice A who.length c)
  seg : Seg w w.heap.size A (who.map (Value.int .i64))
  lt : bw < w.heap.size
theorem WhoAt.below {w w' : World} {bw : Nat} {A : Option Addr} {c : Nat} {who : List Int} (h : WhoAt w bw A c who) (hb : Below w.heap.size w w') : WhoAt w' bw A c who :=
  ⟨(hb.cell (p := ⟨bw, 0, none⟩) h.lt).trans h.cell, (h.seg.below hb).mono hb.size, Nat.lt_of_lt_of_le h.lt hb.size⟩
/-- A claim for which something holds. -/
def clB (p : Ob → Bool) (x : Ob) : Bool := decide (x.net < 0) && p x
def goodB (asset : Int) (who : List Int) (x : Ob) : Bool := x.a == asset && !hasB who x.m
set_option maxHeartbeats 400000 in
theorem with1_any (x : Ob) (who : List Int) (A : Option Addr) (c bw : Nat) (w : World) (h : WhoAt w bw A c who) (hl : who.length ≤ 1000000) :
    Calls Try.prog 30 #[x.val, .pointer (some ⟨bw, 0, none⟩)] w fun e w' => e = .returned (.bool (hasB who x.m)) ∧ Below w.heap.size w w' := by
  obtain ⟨xc, xm, xa, net, done, st⟩ := x
  unfold Ob.val
  have hb : Below w.heap.size w (w.alloc (.cells #[.int .i64 xc, .int .i64 xm, .int .i64 xa, .int .i64 net, .int .i64 done, .int .i64 st] 34)) := (Below.refl _ _).alloc (Nat.le_refl _) _
  have HH := Lib.hid (h.below hb)
  have HB := Lib.hid hb
  have h0 := h.cell
  have hlt := h.lt
  clear h hb
  go_enter Try.func30, Try.ntmps30
  go_wp2_with fail
  refine (has_any who A c xm _ HH.out.seg hl).mono ?_
  rintro e w1 ⟨rfl, rfl⟩
  go_wp2_with fail
  go_ret
  exact ⟨rfl, HB.out⟩
set_option maxHeartbeats 400000 in
theorem good1_any (x : Ob) (asset : Int) (who : List Int) (A : Option Addr) (c ba bw : Nat) (w : World) (h : WhoAt w bw A c who) (ha : w.cell? ⟨ba, 0, none⟩ = some (.int .i64 asset)) (hba : ba < w.heap.size) (hl : who.length ≤ 1000000) :
    Calls Try.prog 29 #[x.val, .pointer (some ⟨ba, 0, none⟩), .pointer (some ⟨bw, 0, none⟩)] w fun e w' => e = .returned (.bool (goodB asset who x)) ∧ Below w.heap.size w w' := by
  have HG := Lib.hid (show goodB asset who x = (x.a == asset && !hasB who x.m) from rfl)
  obtain ⟨xc, xm, xa, net, done, st⟩ := x
  simp only at HG
  unfold Ob.val
  have hb : Below w.heap.size w (w.alloc (.cells #[.int .i64 xc, .int .i64 xm, .int .i64 xa, .int .i64 net, .int .i64 done, .int .i64 st] 34)) := (Below.refl _ _).alloc (Nat.le_refl _) _
  have HH := Lib.hid (h.below hb)
  have HB := Lib.hid hb
  have h0 := h.cell
  have hlt := h.lt
  clear h hb
  cases h1 : (xa == asset)
  · go_enter Try.func29, Try.ntmps29
    go_wp2_with fail
    go_ret
    exact ⟨ret_bool (by rw [HG.out, h1]; rfl), HB.out⟩
  · go_enter Try.func29, Try.ntmps29
    go_wp2_with fail
    refine (has_any who A c xm _ HH.out.seg hl).mono ?_
    rintro e w1 ⟨rfl, rfl⟩
    go_wp2_with fail
    go_ret
    exact ⟨ret_bool (by rw [HG.out, h1]; simp), HB.out⟩
theorem leg_one (x : Lg) : ∀ u ∈ x.cells, u.oneCell' = true := by intro u hu; simp [Lg.cells] at hu; rcases hu with rfl | rfl | rfl <;> rfl

set_option maxHeartbeats 400000 in
theorem claims1W_any (x : Ob) (who : List Int) (Aw : Option Addr) (cw bw : Nat) (bi : Nat) (w : World) (hw : WhoAt w bw Aw cw who) (hi : w.cell? ⟨bi, 0, none⟩ = some (.func (.func 30) #[] #[.pointer (some ⟨bw, 0, none⟩)])) (hbi : bi < w.heap.size) (hl : who.length ≤ 1000000) :
    Calls Try.prog 38 #[x.val, .pointer (some ⟨bi, 0, none⟩)] w fun e w' => e = .returned (.bool (clB (fun x : Ob => hasB who x.m) x)) ∧ Below w.heap.size w w' := by
  have hb : Below w.heap.size w (w.alloc (.cells #[.int .i64 x.c, .int .i64 x.m, .int .i64 x.a, .int .i64 x.net, .int .i64 x.done, .int .i64 x.st] 34)) := (Below.refl _ _).alloc (Nat.le_refl _) _
  have HB := Lib.hid hb
  have HC := Lib.hid (with1_any x who Aw cw bw _ (hw.below hb) hl)
  have HQ := Lib.hid (show clB (fun x : Ob => hasB who x.m) x = (decide (x.net < 0) && (fun x : Ob => hasB who x.m) x) from rfl)
  generalize clB (fun x : Ob => hasB who x.m) x = cv at *
  generalize hp : (fun x : Ob => hasB who x.m) x = pv at *
  have HP := Lib.hid hp
  obtain ⟨xc, xm, xa, net, done, st⟩ := x
  simp only at *
  unfold Ob.val at HC ⊢
  simp only at HC ⊢
  clear hp hb hw
  by_cases h1 : net < 0
  · have HD : Hid (cv = pv) := by show _ = _; rw [HQ.out, decide_eq_true h1]; rfl
    go_enter Try.func38, Try.ntmps38
    go_wp2_with fail
    refine HC.out.mono ?_
    rintro e w1 ⟨rfl, hb1⟩
    have HB1 : Hid (Below w.heap.size w w1) := HB.out.trans (hb1.mono (by simp))
    clear hb1
    go_wp2_with fail
    go_ret
    exact ⟨ret_bool (HP.out.trans HD.out.symm), HB1.out⟩
  · have HD : Hid (cv = false) := by show _ = _; rw [HQ.out, decide_eq_false h1]; rfl
    go_enter Try.func38, Try.ntmps38
    go_wp2_with fail
    go_ret
    exact ⟨ret_bool HD.out.symm, HB.out⟩
set_option maxRecDepth 100000 in
set_option maxHeartbeats 800000 in
theorem claimsW_any (L : List Ob) (A : Option Addr) (c : Nat) (who : List Int) (Aw : Option Addr) (cw bw : Nat) (w : World) (hs : Seg w w.heap.size A (obRows L)) (hl : L.length ≤ 1000000) (hI : ∀ x ∈ L, I64 x.net) (hw : WhoAt w bw Aw cw who) (hlw : who.length ≤ 1000000) :
    Calls Try.prog 28 #[.slice A L.length c, .func (.func 30) #[] #[.pointer (some ⟨bw, 0, none⟩)]] w (GotLegs w ((L.filter fun x => x.st == 1 && clB (fun x : Ob => hasB who x.m) x).map Ob.claim)) := by
  have hb : Below w.heap.size w (w.alloc (.cells #[.func (.func 30) #[] #[.pointer (some ⟨bw, 0, none⟩)]] 48)) := (Below.refl _ _).alloc (Nat.le_refl _) _
  have hp : ∀ (x : Ob) (W : World), Below (w.alloc (.cells #[.func (.func 30) #[] #[.pointer (some ⟨bw, 0, none⟩)]] 48)).heap.size (w.alloc (.cells #[.func (.func 30) #[] #[.pointer (some ⟨bw, 0, none⟩)]] 48)) W → Calls Try.prog 38 #[x.val, .pointer (some ⟨w.heap.size, 0, none⟩)] W fun e w' => e = .returned (.bool (clB (fun x : Ob => hasB who x.m) x)) ∧ Below W.heap.size W w' := by
    intro x W hW
    have hz := hW.size
    simp at hz
    have hbW : Below w.heap.size w W := hb.trans (hW.mono (by simp))
    exact claims1W_any x who Aw cw bw w.heap.size W (hw.below hbW) (by rw [hW.cell (p := ⟨w.heap.size, 0, none⟩) (by simp), cell_new _ _ _ _ rfl]; rfl) (by omega) hlw
  have HC := Lib.hid (openc_any L A c (.pointer (some ⟨w.heap.size, 0, none⟩)) (clB (fun x : Ob => hasB who x.m)) (w.alloc (.cells #[.func (.func 30) #[] #[.pointer (some ⟨bw, 0, none⟩)]] 48)) ((hs.below hb).mono (by simp)) hl hp)
  have HB := Lib.hid hb
  have hDl : (L.filter fun x => x.st == 1 && clB (fun x : Ob => hasB who x.m) x).length ≤ L.length := List.length_filter_le _ _
  have HDI : Hid (∀ x ∈ (L.filter fun x => x.st == 1 && clB (fun x : Ob => hasB who x.m) x), I64 x.net) := fun x hx => hI x (List.mem_filter.1 hx).1
  obtain ⟨i0, hi0, hz0, hz1', hz2⟩ := info_parts lg_info
  generalize hzs : (L.filter fun x => x.st == 1 && clB (fun x : Ob => hasB who x.m) x).map Ob.claim = zs
  have HZ := Lib.hid hzs
  clear hs hp hb hI hzs hw
  go_enter Try.func28, Try.ntmps28
  go_wp2_with fail
  refine HC.out.mono ?_
  rintro e w1 ⟨v1, rfl, ho1, hb1⟩
  generalize (L.filter fun x => x.st == 1 && clB (fun x : Ob => hasB who x.m) x) = D at *
  obtain ⟨A1, c1, rfl⟩ := own_form ho1
  have HS := Lib.hid (Seg.of_own ho1)
  have HB1 : Hid (Below w.heap.size w w1) := HB.out.trans (hb1.mono (by simp))
  have hz1 := HB1.out.size
  clear ho1 hb1
  go_wp2_with fail
  go_loopw [5, 7, 12] (fun u _ i wr => ∃ k : Nat, k ≤ D.length ∧ i = .int .i64 k ∧ Hid (wr.ownsRow w1.heap.size 46 3 u ((D.take k).map Ob.claim).length (lgRows ((D.take k).map Ob.claim))) ∧ Hid (Below w1.heap.size w1 wr)) (fun _ _ i _ => D.length - (intOf i).toNat)
  case atStart => exact ⟨0, Nat.zero_le _, rfl, ⟨by simp [lgRows], Or.inl ⟨rfl, rfl⟩⟩, Below.refl _ _⟩
  case round =>
    obtain ⟨k, hk, rfl, HO, HB⟩ := hrel
    have hsz := HB.out.size
    by_cases hlt : k < D.length
    · obtain ⟨b, o, rfl, hb, d0, d1, d2, d3, d4, d5⟩ := ob_at (HS.out.below HB.out) hlt
      have HF1 : Hid ((D.take (k + 1)).map Ob.claim = (D.take k).map Ob.claim ++ [D[k].claim]) := by show _ = _; rw [List.take_succ_eq_append_getElem hlt, List.map_append]; rfl
      have hyl : ((D.take k).map Ob.claim).length ≤ k := by rw [List.length_map]; exact List.length_take_le _ _
      have HIk := Lib.hid (HDI.out D[k] (List.getElem_mem hlt))
      generalize (D.take k).map Ob.claim = ys at *
      go_wp2_with fail
      refine (claim_any D[k] _ HIk.out).mono ?_
      rintro e w3 ⟨rfl, hb3⟩
      have HB3 : Hid (Below w1.heap.size w1 w3) := (HB.out.alloc hsz _).trans (hb3.mono (by simp; omega))
      have hz3 := hb3.size
      simp at hz3
      have hg3 : wr.grownBy w3 none := ⟨hb3.os, hb3.tape, hb3.output, by omega, fun i hi _ => (hb3.block i (by simp; omega)).trans (heap_alloc_old' _ _ hi)⟩
      have HO3 := Lib.hid (HO.out.kept hg3 (by cases (Value.ownBlock _) <;> simp))
      clear hb3 hg3
      rw [show D[k].claim.val = .agg #[.int .i64 D[k].claim.m, .int .i64 D[k].claim.a, .int .i64 D[k].claim.n] from rfl]
      generalize D[k].claim = lg at *
      go_wp2_with (at_builtin; refine wpList_append_own _ rfl _ _ 40 rfl w1.heap.size 46 i0 _ 3 24 Try.underlying40 hi0 hz0 hz1' hz2 rfl (by decide) _ ys.length (lgRows ys) rfl (HO3.out.alloc _) ⟨w3.heap.size, 0, none⟩ 1 1 lg.cells rfl rfl ?c1 (leg_one lg) ?c3 ?c4 ?c5 ?_)
      case c1 => exact new_cells _ _ #[_, _, _] rfl
      case c3 => simp only [maxLen]; omega
      case c4 => omega
      case c5 => simp; omega
      intro v' w4 hown1 hgrow1 _
      have HO4 : Hid (w4.ownsRow w1.heap.size 46 3 v' ((D.take (k + 1)).map Ob.claim).length (lgRows ((D.take (k + 1)).map Ob.claim))) := by
        show World.ownsRow _ _ _ _ _ _ _
        rw [HF1.out, lgRows_snoc, List.length_append, List.length_singleton]
        exact hown1
      have HG4 : Hid (Below w1.heap.size w1 w4) := (HB3.out.alloc (by omega) _).grown hgrow1 (by simp; omega) (fun j hj => own_base HO3.out j hj)
      clear hown1 hgrow1
      go_wp2_with fail
      go_roundw
      case rel => exact ⟨k + 1, by omega, by go_num, HO4, HG4⟩
      case measure => simp [intOf]; omega
    · obtain rfl : k = D.length := by omega
      have hO := HO.out
      rw [List.take_length, HZ.out] at hO
      have HO2 := Lib.hid hO
      clear hO
      go_wp2_with fail
      go_ret
      exact ⟨_, rfl, own_mono HO2.out hz1, HB1.out.trans (HB.out.mono hz1)⟩

set_option maxHeartbeats 400000 in
theorem claims1G_any (x : Ob) (asset : Int) (who : List Int) (Aw : Option Addr) (cw ba bw : Nat) (bi : Nat) (w : World) (hw : WhoAt w bw Aw cw who) (ha : w.cell? ⟨ba, 0, none⟩ = some (.int .i64 asset)) (hba : ba < w.heap.size) (hi : w.cell? ⟨bi, 0, none⟩ = some (.func (.func 29) #[] #[.pointer (some ⟨ba, 0, none⟩), .pointer (some ⟨bw, 0, none⟩)])) (hbi : bi < w.heap.size) (hl : who.length ≤ 1000000) :
    Calls Try.prog 38 #[x.val, .pointer (some ⟨bi, 0, none⟩)] w fun e w' => e = .returned (.bool (clB (goodB asset who) x)) ∧ Below w.heap.size w w' := by
  have hb : Below w.heap.size w (w.alloc (.cells #[.int .i64 x.c, .int .i64 x.m, .int .i64 x.a, .int .i64 x.net, .int .i64 x.done, .int .i64 x.st] 34)) := (Below.refl _ _).alloc (Nat.le_refl _) _
  have HB := Lib.hid hb
  have HC := Lib.hid (good1_any x asset who Aw cw ba bw _ (hw.below hb) ((hb.cell (p := ⟨ba, 0, none⟩) hba).trans ha) (by simp; omega) hl)
  have HQ := Lib.hid (show clB (goodB asset who) x = (decide (x.net < 0) && (goodB asset who) x) from rfl)
  generalize clB (goodB asset who) x = cv at *
  generalize hp : (goodB asset who) x = pv at *
  have HP := Lib.hid hp
  obtain ⟨xc, xm, xa, net, done, st⟩ := x
  simp only at *
  unfold Ob.val at HC ⊢
  simp only at HC ⊢
  clear hp hb hw ha hba
  by_cases h1 : net < 0
  · have HD : Hid (cv = pv) := by show _ = _; rw [HQ.out, decide_eq_true h1]; rfl
    go_enter Try.func38, Try.ntmps38
    go_wp2_with fail
    refine HC.out.mono ?_
    rintro e w1 ⟨rfl, hb1⟩
    have HB1 : Hid (Below w.heap.size w w1) := HB.out.trans (hb1.mono (by simp))
    clear hb1
    go_wp2_with fail
    go_ret
    exact ⟨ret_bool (HD.out.symm), HB1.out⟩
  · have HD : Hid (cv = false) := by show _ = _; rw [HQ.out, decide_eq_false h1]; rfl
    go_enter Try.func38, Try.ntmps38
    go_wp2_with fail
    go_ret
    exact ⟨ret_bool HD.out.symm, HB.out⟩
set_option maxRecDepth 100000 in
set_option maxHeartbeats 800000 in
theorem claimsG_any (L : List Ob) (A : Option Addr) (c : Nat) (asset : Int) (who : List Int) (Aw : Option Addr) (cw ba bw : Nat) (w : World) (hs : Seg w w.heap.size A (obRows L)) (hl : L.length ≤ 1000000) (hI : ∀ x ∈ L, I64 x.net) (hw : WhoAt w bw Aw cw who) (ha : w.cell? ⟨ba, 0, none⟩ = some (.int .i64 asset)) (hba : ba < w.heap.size) (hlw : who.length ≤ 1000000) :
    Calls Try.prog 28 #[.slice A L.length c, .func (.func 29) #[] #[.pointer (some ⟨ba, 0, none⟩), .pointer (some ⟨bw, 0, none⟩)]] w (GotLegs w ((L.filter fun x => x.st == 1 && clB (goodB asset who) x).map Ob.claim)) := by
  have hb : Below w.heap.size w (w.alloc (.cells #[.func (.func 29) #[] #[.pointer (some ⟨ba, 0, none⟩), .pointer (some ⟨bw, 0, none⟩)]] 48)) := (Below.refl _ _).alloc (Nat.le_refl _) _
  have hp : ∀ (x : Ob) (W : World), Below (w.alloc (.cells #[.func (.func 29) #[] #[.pointer (some ⟨ba, 0, none⟩), .pointer (some ⟨bw, 0, none⟩)]] 48)).heap.size (w.alloc (.cells #[.func (.func 29) #[] #[.pointer (some ⟨ba, 0, none⟩), .pointer (some ⟨bw, 0, none⟩)]] 48)) W → Calls Try.prog 38 #[x.val, .pointer (some ⟨w.heap.size, 0, none⟩)] W fun e w' => e = .returned (.bool (clB (goodB asset who) x)) ∧ Below W.heap.size W w' := by
    intro x W hW
    have hz := hW.size
    simp at hz
    have hbW : Below w.heap.size w W := hb.trans (hW.mono (by simp))
    exact claims1G_any x asset who Aw cw ba bw w.heap.size W (hw.below hbW) ((hbW.cell (p := ⟨ba, 0, none⟩) hba).trans ha) (by omega) (by rw [hW.cell (p := ⟨w.heap.size, 0, none⟩) (by simp), cell_new _ _ _ _ rfl]; rfl) (by omega) hlw
  have HC := Lib.hid (openc_any L A c (.pointer (some ⟨w.heap.size, 0, none⟩)) (clB (goodB asset who)) (w.alloc (.cells #[.func (.func 29) #[] #[.pointer (some ⟨ba, 0, none⟩), .pointer (some ⟨bw, 0, none⟩)]] 48)) ((hs.below hb).mono (by simp)) hl hp)
  have HB := Lib.hid hb
  have hDl : (L.filter fun x => x.st == 1 && clB (goodB asset who) x).length ≤ L.length := List.length_filter_le _ _
  have HDI : Hid (∀ x ∈ (L.filter fun x => x.st == 1 && clB (goodB asset who) x), I64 x.net) := fun x hx => hI x (List.mem_filter.1 hx).1
  obtain ⟨i0, hi0, hz0, hz1', hz2⟩ := info_parts lg_info
  generalize hzs : (L.filter fun x => x.st == 1 && clB (goodB asset who) x).map Ob.claim = zs
  have HZ := Lib.hid hzs
  clear hs hp hb hI hzs hw ha hba
  go_enter Try.func28, Try.ntmps28
  go_wp2_with fail
  refine HC.out.mono ?_
  rintro e w1 ⟨v1, rfl, ho1, hb1⟩
  generalize (L.filter fun x => x.st == 1 && clB (goodB asset who) x) = D at *
  obtain ⟨A1, c1, rfl⟩ := own_form ho1
  have HS := Lib.hid (Seg.of_own ho1)
  have HB1 : Hid (Below w.heap.size w w1) := HB.out.trans (hb1.mono (by simp))
  have hz1 := HB1.out.size
  clear ho1 hb1
  go_wp2_with fail
  go_loopw [5, 7, 12] (fun u _ i wr => ∃ k : Nat, k ≤ D.length ∧ i = .int .i64 k ∧ Hid (wr.ownsRow w1.heap.size 46 3 u ((D.take k).map Ob.claim).length (lgRows ((D.take k).map Ob.claim))) ∧ Hid (Below w1.heap.size w1 wr)) (fun _ _ i _ => D.length - (intOf i).toNat)
  case atStart => exact ⟨0, Nat.zero_le _, rfl, ⟨by simp [lgRows], Or.inl ⟨rfl, rfl⟩⟩, Below.refl _ _⟩
  case round =>
    obtain ⟨k, hk, rfl, HO, HB⟩ := hrel
    have hsz := HB.out.size
    by_cases hlt : k < D.length
    · obtain ⟨b, o, rfl, hb, d0, d1, d2, d3, d4, d5⟩ := ob_at (HS.out.below HB.out) hlt
      have HF1 : Hid ((D.take (k + 1)).map Ob.claim = (D.take k).map Ob.claim ++ [D[k].claim]) := by show _ = _; rw [List.take_succ_eq_append_getElem hlt, List.map_append]; rfl
      have hyl : ((D.take k).map Ob.claim).length ≤ k := by rw [List.length_map]; exact List.length_take_le _ _
      have HIk := Lib.hid (HDI.out D[k] (List.getElem_mem hlt))
      generalize (D.take k).map Ob.claim = ys at *
      go_wp2_with fail
      refine (claim_any D[k] _ HIk.out).mono ?_
      rintro e w3 ⟨rfl, hb3⟩
      have HB3 : Hid (Below w1.heap.size w1 w3) := (HB.out.alloc hsz _).trans (hb3.mono (by simp; omega))
      have hz3 := hb3.size
      simp at hz3
      have hg3 : wr.grownBy w3 none := ⟨hb3.os, hb3.tape, hb3.output, by omega, fun i hi _ => (hb3.block i (by simp; omega)).trans (heap_alloc_old' _ _ hi)⟩
      have HO3 := Lib.hid (HO.out.kept hg3 (by cases (Value.ownBlock _) <;> simp))
      clear hb3 hg3
      rw [show D[k].claim.val = .agg #[.int .i64 D[k].claim.m, .int .i64 D[k].claim.a, .int .i64 D[k].claim.n] from rfl]
      generalize D[k].claim = lg at *
      go_wp2_with (at_builtin; refine wpList_append_own _ rfl _ _ 40 rfl w1.heap.size 46 i0 _ 3 24 Try.underlying40 hi0 hz0 hz1' hz2 rfl (by decide) _ ys.length (lgRows ys) rfl (HO3.out.alloc _) ⟨w3.heap.size, 0, none⟩ 1 1 lg.cells rfl rfl ?c1 (leg_one lg) ?c3 ?c4 ?c5 ?_)
      case c1 => exact new_cells _ _ #[_, _, _] rfl
      case c3 => simp only [maxLen]; omega
      case c4 => omega
      case c5 => simp; omega
      intro v' w4 hown1 hgrow1 _
      have HO4 : Hid (w4.ownsRow w1.heap.size 46 3 v' ((D.take (k + 1)).map Ob.claim).length (lgRows ((D.take (k + 1)).map Ob.claim))) := by
        show World.ownsRow _ _ _ _ _ _ _
        rw [HF1.out, lgRows_snoc, List.length_append, List.length_singleton]
        exact hown1
      have HG4 : Hid (Below w1.heap.size w1 w4) := (HB3.out.alloc (by omega) _).grown hgrow1 (by simp; omega) (fun j hj => own_base HO3.out j hj)
      clear hown1 hgrow1
      go_wp2_with fail
      go_roundw
      case rel => exact ⟨k + 1, by omega, by go_num, HO4, HG4⟩
      case measure => simp [intOf]; omega
    · obtain rfl : k = D.length := by omega
      have hO := HO.out
      rw [List.take_length, HZ.out] at hO
      have HO2 := Lib.hid hO
      clear hO
      go_wp2_with fail
      go_ret
      exact ⟨_, rfl, own_mono HO2.out hz1, HB1.out.trans (HB.out.mono hz1)⟩

set_option maxHeartbeats 400000 in
theorem withheld_any (L : List Ob) (A : Option Addr) (c : Nat) (who : List Int) (Aw : Option Addr) (cw : Nat) (w : World) (hs : Seg w w.heap.size A (obRows L)) (hl : L.length ≤ 1000000) (hI : ∀ x ∈ L, I64 x.net) (hw : Seg w w.heap.size Aw (who.map (Value.int .i64))) (hlw : who.length ≤ 1000000) :
    Calls Try.prog 18 #[.slice A L.length c, .slice Aw who.length cw] w (GotLegs w ((L.filter fun x => x.st == 1 && clB (fun x : Ob => hasB who x.m) x).map Ob.claim)) := by
  have hb : Below w.heap.size w (w.alloc (.cells #[.slice Aw who.length cw] 23)) := (Below.refl _ _).alloc (Nat.le_refl _) _
  have HC := Lib.hid (claimsW_any L A c who Aw cw w.heap.size (w.alloc (.cells #[.slice Aw who.length cw] 23)) ((hs.below hb).mono (by simp)) hl hI ⟨by rw [cell_new _ _ _ _ rfl]; rfl, (hw.below hb).mono (by simp), by simp⟩ hlw)
  have HB := Lib.hid hb
  generalize (L.filter fun x => x.st == 1 && clB (fun x : Ob => hasB who x.m) x).map Ob.claim = zs at *
  clear hs hI hw hb
  go_enter Try.func18, Try.ntmps18
  go_wp2_with fail
  refine HC.out.mono ?_
  rintro e w1 ⟨v1, rfl, ho1, hb1⟩
  have HO1 := Lib.hid ho1
  have HB1 : Hid (Below w.heap.size w w1) := HB.out.trans (hb1.mono (by simp))
  clear ho1 hb1
  go_wp2_with fail
  go_ret
  exact ⟨v1, rfl, own_mono HO1.out (by simp), HB1.out⟩
set_option maxHeartbeats 400000 in
theorem good_any (L : List Ob) (A : Option Addr) (c : Nat) (asset : Int) (who : List Int) (Aw : Option Addr) (cw : Nat) (w : World) (hs : Seg w w.heap.size A (obRows L)) (hl : L.length ≤ 1000000) (hI : ∀ x ∈ L, I64 x.net) (hw : Seg w w.heap.size Aw (who.map (Value.int .i64))) (hlw : who.length ≤ 1000000) :
    Calls Try.prog 16 #[.slice A L.length c, .slice Aw who.length cw, .int .i64 asset] w (GotLegs w ((L.filter fun x => x.st == 1 && clB (goodB asset who) x).map Ob.claim)) := by
  have hb : Below w.heap.size w ((w.alloc (.cells #[.slice Aw who.length cw] 23)).alloc (.cells #[.int .i64 asset] 3)) := ((Below.refl _ _).alloc (Nat.le_refl _) _).alloc (by simp) _
  have HC := Lib.hid (claimsG_any L A c asset who Aw cw (w.heap.size + 1) w.heap.size ((w.alloc (.cells #[.slice Aw who.length cw] 23)).alloc (.cells #[.int .i64 asset] 3)) ((hs.below hb).mono (by simp; omega)) hl hI ⟨by rw [cell_old _ _ _ (by simp), cell_new _ _ _ _ rfl]; rfl, (hw.below hb).mono (by simp; omega), by simp; omega⟩ (by rw [cell_new _ _ _ _ (by simp)]; rfl) (by simp) hlw)
  have HB := Lib.hid hb
  generalize (L.filter fun x => x.st == 1 && clB (goodB asset who) x).map Ob.claim = zs at *
  clear hs hI hw hb
  go_enter Try.func16, Try.ntmps16
  go_wp2_with fail
  refine HC.out.mono ?_
  rintro e w1 ⟨v1, rfl, ho1, hb1⟩
  have HO1 := Lib.hid ho1
  have HB1 : Hid (Below w.heap.size w w1) := HB.out.trans (hb1.mono (by simp; omega))
  clear ho1 hb1
  go_wp2_with fail
  go_ret
  exact ⟨v1, rfl, own_mono HO1.out (by simp; omega), HB1.out⟩
end Go.Proofs.Ytjgliooeidgehaa
