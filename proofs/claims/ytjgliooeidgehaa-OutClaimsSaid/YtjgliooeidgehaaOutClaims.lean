/-
  The law OutClaims returns true, over this seat's translation: its walk.
-/
import Derived.Test.YtjgliooeidgehaaOut6
import Derived.Test.YtjgliooeidgehaaRef01D
namespace Go.Proofs.Ytjgliooeidgehaa
open Go.RowKit

theorem good_want (asset : Int) (who : List Int) (L : List Ob) : L.filter (fun x => x.st == 1 && clB (goodB asset who) x) = L.filter (wantB who false asset) := by
  congr 1
  funext x
  unfold clB goodB wantB
  cases (x.st == 1) <;> cases decide (x.net < 0) <;> cases hasB who x.m <;> cases (x.a == asset) <;> rfl
theorem held_want (who : List Int) (L : List Ob) : L.filter (fun x => x.st == 1 && clB (fun x : Ob => hasB who x.m) x) = L.filter (wantB who true 0) := by
  congr 1
  funext x
  unfold clB wantB
  dsimp only
  cases (x.st == 1) <;> cases decide (x.net < 0) <;> cases hasB who x.m <;> rfl
theorem dues_snoc (asset : Int) {L : List Ob} {k : Nat} (hk : k < L.length) : duesL asset (L.take (k + 1)) = duesL asset (L.take k) ++ (if L[k].st == 1 && paidB asset L[k] then [L[k].done] else []) := map_filter_snoc (fun x => x.st == 1 && paidB asset x) (·.done) hk
theorem dues_len (asset : Int) (L : List Ob) (k : Nat) : (duesL asset (L.take k)).length ≤ k := by unfold duesL; rw [List.length_map]; exact filter_len _ L k
set_option maxRecDepth 100000 in
set_option maxHeartbeats 3200000 in
theorem oclaims_any (L : List Ob) (A : Option Addr) (c : Nat) (who : List Int) (Aw : Option Addr) (cw : Nat) (asset : Int) (w : World) (hs : Seg w w.heap.size A (obRows L)) (hI : ∀ x ∈ L, I64 x.net ∧ I64 x.done) (hw : Seg w w.heap.size Aw (who.map (Value.int .i64))) (hm0 : L.length ≤ maxLen) (hm1 : who.length ≤ maxLen) :
    Calls Try.prog 4 #[.slice A L.length c, .slice Aw who.length cw, .int .i64 asset] w fun e w' => e = .returned (.bool true) ∧ Below w.heap.size w w' := by
  unfold maxLen at hm0 hm1
  have HS := Lib.hid hs
  have HW := Lib.hid hw
  have HI := Lib.hid hI
  clear hs hw hI
  by_cases hbig : 60 < L.length ∨ 30 < who.length
  · have hq : decide ((60 : Int) < (L.length : Int)) = true ∨ decide ((60 : Int) < (L.length : Int)) = false ∧ decide ((30 : Int) < (who.length : Int)) = true := by
      simp only [decide_eq_true_eq, decide_eq_false_iff_not]
      omega
    clear hbig
    rcases hq with q1 | ⟨q1, q2⟩
    all_goals
      go_enter Try.func4, Try.ntmps4
      go_wp2_with fail
      refine (awake_any _).mono ?_
      rintro e w1 ⟨rfl, hb1⟩
      have HB1 := Lib.hid hb1
      clear hb1
      go_wp2_with fail
      go_ret
      exact ⟨rfl, HB1.out⟩
  · have q1 : L.length ≤ 60 := by omega
    have q2 : who.length ≤ 30 := by omega
    clear hbig
    obtain ⟨i0, hi0, hz0, hz1', hz2⟩ := info_parts i64_info
    go_enter Try.func4, Try.ntmps4
    go_wp2_with fail
    go_loopw [7, 8] (fun u i wr => ∃ k : Nat, k ≤ L.length ∧ i = .int .i64 k ∧ Hid (wr.ownsRow w.heap.size 2 1 u (duesL asset (L.take k)).length ((duesL asset (L.take k)).map (Value.int .i64))) ∧ Hid (Below w.heap.size w wr)) (fun _ i _ => L.length - (intOf i).toNat)
    case atStart => exact ⟨0, Nat.zero_le _, rfl, ⟨by simp [duesL], Or.inl ⟨rfl, rfl⟩⟩, Below.refl _ _⟩
    case round =>
      obtain ⟨k, hk, rfl, HO, HB⟩ := hrel
      have hsz := HB.out.size
      have hyl := dues_len asset L k
      by_cases hlt : k < L.length
      · obtain ⟨b, o, rfl, hb, d0, d1, d2, d3, d4, d5⟩ := ob_at (HS.out.below HB.out) hlt
        have HF := Lib.hid (dues_snoc asset hlt)
        cases h1 : (L[k].st == 1)
        · have hF : duesL asset (L.take (k + 1)) = duesL asset (L.take k) := by rw [HF.out, h1]; simp
          have hO2 := HO.out
          rw [← hF] at hO2
          have HO1 := Lib.hid hO2
          clear hO2 hF
          go_wp2_with fail
          go_roundw
          case rel => exact ⟨k + 1, by omega, by go_num, HO1, HB⟩
          case measure => simp [intOf]; omega
        · by_cases h2 : 0 < L[k].net
          · cases h3 : (L[k].a == asset)
            · have hF : duesL asset (L.take (k + 1)) = duesL asset (L.take k) := by rw [HF.out]; simp [paidB, h3]
              have hO2 := HO.out
              rw [← hF] at hO2
              have HO1 := Lib.hid hO2
              clear hO2 hF
              go_wp2_with fail
              go_roundw
              case rel => exact ⟨k + 1, by omega, by go_num, HO1, HB⟩
              case measure => simp [intOf]; omega
            · have hF : duesL asset (L.take (k + 1)) = duesL asset (L.take k) ++ [L[k].done] := by rw [HF.out]; simp [paidB, h1, h2, h3]
              have HF1 := Lib.hid hF
              clear hF
              generalize duesL asset (L.take k) = ys at *
              go_wp2_with (at_builtin; refine wpList_append_own _ rfl _ _ 32 rfl w.heap.size 2 i0 _ 1 8 Try.underlying32 hi0 hz0 hz1' hz2 rfl (by decide) _ ys.length (ys.map (Value.int .i64)) rfl (HO.out.alloc _) ⟨wr.heap.size, 0, none⟩ 1 1 [.int .i64 L[k].done] rfl rfl (new_cells _ _ #[_] (by simp)) one_int (by simp only [maxLen]; omega) (by omega) (by simp; omega) ?_)
              intro v' w4 hown1 hgrow1 _
              have HO4 : Hid (w4.ownsRow w.heap.size 2 1 v' (duesL asset (L.take (k + 1))).length ((duesL asset (L.take (k + 1))).map (Value.int .i64))) := by
                show World.ownsRow _ _ _ _ _ _ _
                rw [HF1.out, List.map_append, List.length_append, List.length_singleton]
                exact hown1
              have HG4 : Hid (Below w.heap.size w w4) := (HB.out.alloc hsz _).grown hgrow1 (by simp; omega) (fun j hj => own_base HO.out j hj)
              clear hown1 hgrow1
              go_wp2_with fail
              go_roundw
              case rel => exact ⟨k + 1, by omega, by go_num, HO4, HG4⟩
              case measure => simp [intOf]; omega
          · have hF : duesL asset (L.take (k + 1)) = duesL asset (L.take k) := by rw [HF.out]; simp [paidB, h2]
            have hO2 := HO.out
            rw [← hF] at hO2
            have HO1 := Lib.hid hO2
            clear hO2 hF
            go_wp2_with fail
            go_roundw
            case rel => exact ⟨k + 1, by omega, by go_num, HO1, HB⟩
            case measure => simp [intOf]; omega
      · obtain rfl : k = L.length := by omega
        have hO := HO.out
        rw [List.take_length] at hO hyl
        obtain ⟨A1, c1, rfl⟩ := own_form hO
        have HSD := Lib.hid (Seg.of_own hO)
        have HDI : Hid (∀ x ∈ duesL asset L, I64 x) := by
          show ∀ x ∈ duesL asset L, I64 x
          intro x hx
          obtain ⟨y, hy, rfl⟩ := List.mem_map.1 hx
          exact (HI.out y (List.mem_filter.1 hy).1).2
        have HIn : Hid (∀ x ∈ L, I64 x.net) := fun x hx => (HI.out x hx).1
        have HId : Hid (∀ x ∈ L, I64 x.done) := fun x hx => (HI.out x hx).2
        have HSL : Hid (∀ W, Below w.heap.size w W → Seg W W.heap.size A (obRows L)) := fun W hW => (HS.out.below hW).mono hW.size
        have HSW : Hid (∀ W, Below w.heap.size w W → Seg W W.heap.size Aw (who.map (Value.int .i64))) := fun W hW => (HW.out.below hW).mono hW.size
        clear hO
        go_wp2_with fail
        refine (paid_any L A c asset _ (HSL.out _ HB.out) (by omega) HId.out).mono ?_
        rintro e w2 ⟨rfl, hb2⟩
        have HSD2 := Lib.hid ((HSD.out.below hb2).mono hb2.size)
        have HB2 : Hid (Below w.heap.size w w2) := HB.out.trans (hb2.mono hsz)
        clear hb2
        generalize duesL asset L = zs at *
        go_wp2_with fail
        refine (refsum_any zs A1 c1 _ HDI.out HSD2.out (by omega)).mono ?_
        rintro e w3 ⟨rfl, rfl⟩
        go_wp2_with fail
        refine (awake_any _).mono ?_
        rintro e w4 ⟨rfl, hb4⟩
        have HB4 : Hid (Below w.heap.size w w4) := HB2.out.trans (hb4.mono HB2.out.size)
        clear hb4
        have hG : ∀ W, Below w.heap.size w W → Calls Try.prog 16 #[.slice A L.length c, .slice Aw who.length cw, .int .i64 asset] W (GotLegs W ((L.filter (wantB who false asset)).map Ob.claim)) := fun W hW => by
          have := good_any L A c asset who Aw cw W (HSL.out _ hW) (by omega) HIn.out (HSW.out _ hW) (by omega)
          rw [good_want] at this
          exact this
        have hR : ∀ W, Below w.heap.size w W → Calls Try.prog 17 #[.slice A L.length c, .slice Aw who.length cw, .bool false, .int .i64 asset] W (GotLegs W ((L.filter (wantB who false asset)).map Ob.claim)) := fun W hW => refgood_any L A c who Aw cw asset W (HSL.out _ hW) (by omega) HIn.out (HSW.out _ hW) (by omega)
        have hH : ∀ W, Below w.heap.size w W → Calls Try.prog 18 #[.slice A L.length c, .slice Aw who.length cw] W (GotLegs W ((L.filter (wantB who true 0)).map Ob.claim)) := fun W hW => by
          have := withheld_any L A c who Aw cw W (HSL.out _ hW) (by omega) HIn.out (HSW.out _ hW) (by omega)
          rw [held_want] at this
          exact this
        have hK : ∀ W, Below w.heap.size w W → Calls Try.prog 17 #[.slice A L.length c, .slice Aw who.length cw, .bool true, .int .i64 0] W (GotLegs W ((L.filter (wantB who true 0)).map Ob.claim)) := fun W hW => refheld_any L A c who Aw cw 0 W (HSL.out _ hW) (by omega) HIn.out (HSW.out _ hW) (by omega)
        have hGl : ((L.filter (wantB who false asset)).map Ob.claim).length ≤ 1000000 := by rw [List.length_map]; have := List.length_filter_le (wantB who false asset) L; omega
        have hHl : ((L.filter (wantB who true 0)).map Ob.claim).length ≤ 1000000 := by rw [List.length_map]; have := List.length_filter_le (wantB who true 0) L; omega
        generalize (L.filter (wantB who false asset)).map Ob.claim = gl at *
        generalize (L.filter (wantB who true 0)).map Ob.claim = hl9 at *
        have HG := Lib.hid hG
        have HR := Lib.hid hR
        have HH := Lib.hid hH
        have HK := Lib.hid hK
        clear hG hR hH hK
        go_wp2_with fail
        refine (HG.out _ HB4.out).mono ?_
        rintro e w5 ⟨v5, rfl, ho5, hb5⟩
        obtain ⟨A5, c5, rfl⟩ := own_form ho5
        have HS5 := Lib.hid (Seg.of_own ho5)
        have HB5 : Hid (Below w.heap.size w w5) := HB4.out.trans (hb5.mono HB4.out.size)
        clear ho5 hb5
        go_wp2_with fail
        refine (HR.out _ HB5.out).mono ?_
        rintro e w6 ⟨v6, rfl, ho6, hb6⟩
        obtain ⟨A6, c6, rfl⟩ := own_form ho6
        have HS6 := Lib.hid (Seg.of_own ho6)
        have HS5' := Lib.hid ((HS5.out.below hb6).mono hb6.size)
        have HB6 : Hid (Below w.heap.size w w6) := HB5.out.trans (hb6.mono HB5.out.size)
        clear ho6 hb6
        go_wp2_with fail
        refine (lsame_any gl A5 A6 c5 c6 _ HS5'.out HS6.out hGl).mono ?_
        rintro e w7 ⟨rfl, hb7⟩
        have HB7 : Hid (Below w.heap.size w w7) := HB6.out.trans (hb7.mono HB6.out.size)
        clear hb7
        go_wp2_with fail
        refine (HH.out _ HB7.out).mono ?_
        rintro e w8 ⟨v8, rfl, ho8, hb8⟩
        obtain ⟨A8, c8, rfl⟩ := own_form ho8
        have HS8 := Lib.hid (Seg.of_own ho8)
        have HB8 : Hid (Below w.heap.size w w8) := HB7.out.trans (hb8.mono HB7.out.size)
        clear ho8 hb8
        go_wp2_with fail
        refine (HK.out _ HB8.out).mono ?_
        rintro e w9 ⟨v9, rfl, ho9, hb9⟩
        obtain ⟨A9, c9, rfl⟩ := own_form ho9
        have HS9 := Lib.hid (Seg.of_own ho9)
        have HS8' := Lib.hid ((HS8.out.below hb9).mono hb9.size)
        have HB9 : Hid (Below w.heap.size w w9) := HB8.out.trans (hb9.mono HB8.out.size)
        clear ho9 hb9
        go_wp2_with fail
        refine (lsame_any hl9 A8 A9 c8 c9 _ HS8'.out HS9.out hHl).mono ?_
        rintro e w10 ⟨rfl, hb10⟩
        have HB10 : Hid (Below w.heap.size w w10) := HB9.out.trans (hb10.mono HB9.out.size)
        clear hb10
        go_wp2_with fail
        go_ret
        exact ⟨rfl, HB10.out⟩
end Go.Proofs.Ytjgliooeidgehaa
