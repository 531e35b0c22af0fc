/-
  What script.Parse comes to, over this seat's translation: a contract for callers. (Printed by gen_sd7.py.)
-/
import Derived.Test.YtmplokdbbhlomaaGreatDoorSdB
import Derived.Test.YtmplokdbbhlomaaGreatDoorSpl
import Derived.Test.YtmplokdbbhlomaaGreatDoorSrB
import Derived.RegionTactic
import Derived.ChangeAlike
import Derived.Deep.RegionHeld
import Derived.Deep.RegionHeld3
namespace Go.Proofs.YtmplokdbbhlomaaGreatDoor
open Go.RowKit

theorem split_any (l : List UInt8) (hl : l.length ≤ 1000000) (w : World) (he : EnvZ w) : Calls Tryz.prog 23 #[.string (bs l), .string (bs [32])] w fun e w' => e = .returned (.slice (some ⟨w.heap.size, 0, none⟩) (splitL 32 l).length (splitL 32 l).length) ∧ w' = w.alloc (.cells (strs (splitL 32 l)).toArray 9) := by
  obtain ⟨m, hm⟩ := he.max
  have hsz := bs_size l
  refine (Tryz.strings_Split (bs l) (bs [32]) m w (by omega) hm (by decide)).mono ?_
  rintro e w' ⟨rfl, rfl⟩
  have e1 := count_shelf 32 l
  have e2 := split_shelf 32 l
  refine ⟨?_, ?_⟩
  · rw [← e1]
  · have e3 : (Lib.splitB (bs [32]) 0 (Lib.countB (bs l) (bs [32])) (bs l)).map Value.string = strs (splitL 32 l) := by
      have e4 : (bs [32]) = (⟨#[32]⟩ : ByteArray) := rfl
      rw [e4, e2, List.map_map]
      rfl
    rw [e3]
theorem seg_new (w : World) (xs : List Value) (t : TypeId) : Seg (w.alloc (.cells xs.toArray t)) (w.alloc (.cells xs.toArray t)).heap.size (some ⟨w.heap.size, 0, none⟩) xs := by
  intro j u hu
  refine ⟨w.heap.size, 0, rfl, by simp, ?_⟩
  rw [Nat.zero_add, cell_new _ _ _ j rfl]
  simpa using hu
theorem psI_made (w : World) : PsI w w.heap.size (w.heap.size + 1) (w.heap.size + 2) true [] ((w.alloc (.cells #[.bool true] 4)).alloc (.cells #[.slice none 0 0] 46)) := by
  refine ⟨?_, ⟨.slice none 0 0, ?_, World.ownsRow_nil _ _ _ _⟩, fun j => by go_simp, fun j => by go_simp, ((Below.refl _ _).alloc (Nat.le_refl _) _).alloc (by simp) _, by omega, by omega, by omega, by omega, by omega, by simp⟩
  · rw [cell_old _ _ 0 (by simp), cell_new _ _ _ 0 rfl]; rfl
  · rw [cell_new _ _ _ 0 (by simp)]; rfl
theorem slice_one (b n : Nat) (hn : n ≤ 1000000) (W : World) : ∃ A, (Instr.slice 52 (.slice (some ⟨b, 0, none⟩) (n + 1) (n + 1)) (some (.int .i64 1)) none none).run Tryz.prog W = .ok (.slice (some A) n n) W ∧ (0 < n → A = ⟨b, 1, none⟩) := by
  by_cases h : n = 0
  · subst h
    refine ⟨⟨b, 0, none⟩, ?_, fun h => by omega⟩
    go_simp
  · refine ⟨⟨b, 1, none⟩, ?_, fun _ => rfl⟩
    go_simp
    intro hh
    omega
theorem all_take (ns : List (Int × Bool)) {k : Nat} (hk : k < ns.length) : ((ns.take k).all (·.2) && ns[k].2) = (ns.take (k + 1)).all (·.2) := by
  rw [List.take_succ_eq_append_getElem hk, List.all_append]
  simp
theorem fst_take (ns : List (Int × Bool)) {k : Nat} (hk : k < ns.length) : (ns.take k).map (·.1) ++ [ns[k].1] = (ns.take (k + 1)).map (·.1) := by
  rw [List.take_succ_eq_append_getElem hk, List.map_append]
  rfl
set_option maxRecDepth 100000 in
set_option maxHeartbeats 25600000 in
theorem sparse_any (line : List UInt8) (hl : line.length ≤ 10000) (w : World) (he : EnvZ w) : Calls Tryz.prog 9 #[.string (bs line)] w fun e w' => e = .returned (.tuple #[stV (parseP line).1, .int .i64 (parseP line).2]) ∧ Below w.heap.size w w' := by
  have HB0 : Hid (Below w.heap.size w (w.alloc (.cells (stCells zeroS) TSt))) := Lib.hid ((Below.refl _ _).alloc (Nat.le_refl _) _)
  have HZ0 := Lib.hid (CsAt.made w (stCells zeroS) TSt)
  have HE0 := Lib.hid (he.below HB0.out)
  have hsz0 : (w.alloc (.cells (stCells zeroS) TSt)).heap.size = w.heap.size + 1 := by simp
  have hcz : stCells zeroS = #[.int .i64 0, .int .i64 0, .int .i64 0, .int .i64 0, .int .i64 0, .int .i64 0, .int .i64 0, .int .i64 0, .int .i64 0] := rfl
  rw [hcz] at HB0 HZ0 HE0 hsz0
  obtain ⟨T, HT⟩ : ∃ T, Hid (T = parseP line) := ⟨_, Lib.hid rfl⟩
  rw [← HT.out]
  obtain ⟨x, er, HM⟩ : ∃ x er, Hid (mid line = (x, er)) := ⟨_, _, Lib.hid rfl⟩
  have HXO : Hid (StOk x) := Lib.hid (by have h := mid_ok line; rw [HM.out] at h; exact h)
  obtain ⟨w0, rest, hws⟩ := splitL_cons 32 line
  have HMID : Hid (mid line = midP w0 (rest.map pI)) := Lib.hid (by unfold mid; rw [hws]; rfl)
  have hwl := splitL_len 32 line
  have HWP := Lib.hid (splitL_piece 32 line)
  rw [hws] at hwl HWP
  rw [List.length_cons] at hwl
  have HSPL := Lib.hid (split_any line (by omega) _ HE0.out)
  rw [hws, hsz0] at HSPL
  have HSEG := Lib.hid (seg_new (w.alloc (.cells #[.int .i64 0, .int .i64 0, .int .i64 0, .int .i64 0, .int .i64 0, .int .i64 0, .int .i64 0, .int .i64 0, .int .i64 0] TSt)) (strs (w0 :: rest)) 9)
  have HB1 : Hid (Below w.heap.size w ((w.alloc (.cells #[.int .i64 0, .int .i64 0, .int .i64 0, .int .i64 0, .int .i64 0, .int .i64 0, .int .i64 0, .int .i64 0, .int .i64 0] TSt)).alloc (.cells (strs (w0 :: rest)).toArray 9))) := Lib.hid (HB0.out.alloc HB0.out.size _)
  have HZ1 : Hid (CsAt ((w.alloc (.cells #[.int .i64 0, .int .i64 0, .int .i64 0, .int .i64 0, .int .i64 0, .int .i64 0, .int .i64 0, .int .i64 0, .int .i64 0] TSt)).alloc (.cells (strs (w0 :: rest)).toArray 9)) w.heap.size (stCells zeroS)) := Lib.hid (HZ0.out.below (by simp) ((Below.refl _ _).alloc (Nat.le_refl _) _))
  have HE1 := Lib.hid (HE0.out.below ((Below.refl _ _).alloc (Nat.le_refl _) (.cells (strs (w0 :: rest)).toArray 9)))
  have hsz1 : ((w.alloc (.cells #[.int .i64 0, .int .i64 0, .int .i64 0, .int .i64 0, .int .i64 0, .int .i64 0, .int .i64 0, .int .i64 0, .int .i64 0] TSt)).alloc (.cells (strs (w0 :: rest)).toArray 9)).heap.size = w.heap.size + 2 := by simp
  rw [hsz0] at HSEG
  unfold stV stCells
  have HE := Lib.hid he
  clear he hcz hws HB0 HZ0 HE0 hsz0
  go_enter Tryz.func9, Tryz.ntmps9
  go_wp2_with (go_at_call 23; refine HSPL.out.mono ?_)
  rintro e w1 ⟨rfl, hw1⟩
  rw [← hw1] at HSEG HB1 HZ1 HE1 hsz1
  clear hw1 HSPL
  have hz1 : w.heap.size < w1.heap.size := by omega
  have HP0 := Lib.hid (psI_made w1)
  have HS1 := Lib.hid (HSEG.out)
  have hg2 : w.heap.size + 1 < w1.heap.size := by omega
  have hbz := (HP0.out.lt).2.2.2.2.2
  clear hsz1
  have HSW : Hid (∀ W, Below w1.heap.size w1 W → ∀ k (hk : k < (w0 :: rest).length), W.cell? ⟨w.heap.size + 1, k, none⟩ = some (.string (bs ((w0 :: rest)[k])))) := Lib.hid (by
    intro W hW k hk
    obtain ⟨b, o, e, hb, hc⟩ := (HSEG.out.below hW).at (k := k) (by rw [strs_len]; exact hk)
    injection e with e
    injection e with e1 e2
    subst e1 e2
    unfold strs at hc
    rw [List.getElem_map, Nat.zero_add] at hc
    exact hc)
  obtain ⟨A, hsl, hA⟩ := slice_one (w.heap.size + 1) rest.length (by omega) ((w1.alloc (.cells #[.bool true] 4)).alloc (.cells #[.slice none 0 0] 46))
  clear HS1 HSEG
  go_upto_region 5 with fail
  generalize (w1.alloc (.cells #[.bool true] 4)).alloc (.cells #[.slice none 0 0] 46) = w3 at *
  generalize hgg : w1.heap.size = g at *
  go_wp2_with fail
  clear hsl
  have hnl : (rest.map pI).length = rest.length := List.length_map ..
  have HNG : Hid (∀ k (hk : k < rest.length), (rest.map pI)[k]'(by rw [hnl]; exact hk) = pI rest[k]) := Lib.hid fun k hk => List.getElem_map ..
  go_loopw [9, 22] (fun _ i wr => ∃ k : Nat, k ≤ rest.length ∧ i = .int .i64 (k : Int) ∧ Hid (PsI w1 g (g + 1) (g + 2) (((rest.map pI).take k).all (·.2)) (((rest.map pI).take k).map (·.1)) wr)) (fun _ i _ => rest.length - (intOf i).toNat)
  case atStart => exact ⟨0, Nat.zero_le _, rfl, HP0⟩
  case round =>
    clear HP0 hbz
    obtain ⟨k, hk, rfl, HP⟩ := hrel
    have HBW : Hid (Below w1.heap.size w1 wr) := Lib.hid HP.out.b
    have HEW := Lib.hid (HE1.out.below HBW.out)
    by_cases hlt : k < rest.length
    · obtain rfl := hA (by omega)
      have hcw : wr.cell? ⟨w.heap.size + 1, 1 + k, none⟩ = some (.string (bs rest[k])) := by
        have h := HSW.out wr (by rw [← hgg]; exact HBW.out) (k + 1) (by simp; omega)
        rw [Nat.add_comm 1 k]
        exact h
      have HNX := Lib.hid (next_any rest[k] (by have := HWP.out rest[k] (List.mem_cons_of_mem _ (List.getElem_mem hlt)); omega) w1 g (g + 1) (g + 2) _ _ wr HP.out HEW.out (by rw [List.length_map, List.length_take]; omega))
      have hat := all_take (rest.map pI) (k := k) (by omega)
      have hft := fst_take (rest.map pI) (k := k) (by omega)
      rw [HNG.out k hlt] at hat hft
      rw [hat, hft] at HNX
      clear hat hft
      generalize rest[k] = sk at *
      have hk0 : (0 : Int) ≤ (k : Int) := by omega
      have hkb : (k : Int) < (rest.length : Int) := by omega
      go_wp2_with (go_at_call 24; refine HNX.out.mono ?_; rintro e w4 ⟨rfl, hp4⟩; have HP4 := Lib.hid hp4; clear hp4)
      go_roundw
      case rel => exact ⟨k + 1, by omega, by go_num, HP4⟩
      case measure => simp [intOf]; omega
    · obtain rfl : k = rest.length := by omega
      have hta : (rest.map pI).take rest.length = rest.map pI := List.take_of_length_le (by omega)
      rw [hta] at HP
      clear hta HNG
      generalize hnsE : rest.map pI = ns at *
      have HNS := Lib.hid hnsE
      have hnl2 : ns.length ≤ 20000 := by omega
      clear hnsE hnl
      have hge : decide ((rest.length : Int) < (rest.length : Int)) = false := decide_eq_false (by omega)
      -- behind the loop
      have HZW : Hid (CsAt wr w.heap.size (stCells zeroS)) := Lib.hid (HZ1.out.kept (row := none) ⟨HBW.out.os, HBW.out.tape, HBW.out.output, HBW.out.size, fun k hk _ => HBW.out.block k hk⟩ (by omega) (fun e => by cases e))
      have HBWW : Hid (Below w.heap.size w wr) := Lib.hid (HB1.out.trans (HBW.out.mono HB1.out.size))
      have hzr : w.heap.size < wr.heap.size := by have := HBW.out.size; omega
      have hzg : g + 2 ≤ wr.heap.size := HP.out.lt.2.2.2.2.2
      have HA4 : Hid (Below wr.heap.size wr (wr.alloc (.cells #[.int .i64 1, .int .i64 0, .int .i64 0, .int .i64 0, .int .i64 0, .int .i64 0, .int .i64 0, .int .i64 0, .int .i64 0] TSt))) := Lib.hid ((Below.refl _ _).alloc (Nat.le_refl _) _)
      have HX4 : Hid (CsAt (wr.alloc (.cells #[.int .i64 1, .int .i64 0, .int .i64 0, .int .i64 0, .int .i64 0, .int .i64 0, .int .i64 0, .int .i64 0, .int .i64 0] TSt)) wr.heap.size (stCells ⟨1, zeroC, 0⟩)) := Lib.hid (CsAt.made _ _ _)
      have HP4 := Lib.hid (HP.out.below HA4.out)
      have HZ4 := Lib.hid (HZW.out.below hzr HA4.out)
      have HB4 : Hid (Below w.heap.size w (wr.alloc (.cells #[.int .i64 1, .int .i64 0, .int .i64 0, .int .i64 0, .int .i64 0, .int .i64 0, .int .i64 0, .int .i64 0, .int .i64 0] TSt))) := Lib.hid (HBWW.out.trans (HA4.out.mono HBWW.out.size))
      have HE4 := Lib.hid (HEW.out.below HA4.out)
      have q0 : (wr.alloc (.cells #[.int .i64 1, .int .i64 0, .int .i64 0, .int .i64 0, .int .i64 0, .int .i64 0, .int .i64 0, .int .i64 0, .int .i64 0] TSt)).cell? ⟨w.heap.size + 1, 0, none⟩ = some (.string (bs w0)) := by
        rw [HA4.out.cell (p := ⟨w.heap.size + 1, 0, none⟩) (by show w.heap.size + 1 < _; omega)]
        exact HSW.out wr (by rw [← hgg]; exact HBW.out) 0 (by simp)
      have hb10 : wr.heap.size < (wr.alloc (.cells #[.int .i64 1, .int .i64 0, .int .i64 0, .int .i64 0, .int .i64 0, .int .i64 0, .int .i64 0, .int .i64 0, .int .i64 0] TSt)).heap.size := by simp
      obtain ⟨u, du, ho⟩ := HP.out.c6
      obtain ⟨Au, cu, hu⟩ := own_form ho
      subst hu
      rw [List.length_map] at du ho
      have HUB : Hid (∀ b, (Value.slice Au ns.length cu).ownBlock = some b → b < wr.heap.size) := Lib.hid fun b hb => (ho.lt b hb).2
      have HOW := Lib.hid (own_keepS ho HA4.out)
      have du4 : (wr.alloc (.cells #[.int .i64 1, .int .i64 0, .int .i64 0, .int .i64 0, .int .i64 0, .int .i64 0, .int .i64 0, .int .i64 0, .int .i64 0] TSt)).cell? ⟨g + 1, 0, none⟩ = some (.slice Au ns.length cu) := by
        rw [HA4.out.cell (p := ⟨g + 1, 0, none⟩) (by show g + 1 < _; omega)]
        exact du
      have hzg4 : g + 1 < (wr.alloc (.cells #[.int .i64 1, .int .i64 0, .int .i64 0, .int .i64 0, .int .i64 0, .int .i64 0, .int .i64 0, .int .i64 0, .int .i64 0] TSt)).heap.size := by simp; omega
      clear ho du HP HZW HBWW HEW HBW
      go_upto_region 12 with fail
      generalize wr.alloc (.cells #[.int .i64 1, .int .i64 0, .int .i64 0, .int .i64 0, .int .i64 0, .int .i64 0, .int .i64 0, .int .i64 0, .int .i64 0] TSt) = w4 at *
      generalize wr.heap.size = b10 at *
      have HKD := Lib.hid (kind_any w0 w4 HE4.out.s.words)
      have hkl := kind_le w0
      have HKW := Lib.hid (word_kind (w := w0))
      have hmc := HM.out.symm.trans HMID.out
      unfold midP at hmc
      have HMC := Lib.hid hmc
      clear hmc HMID
      generalize hKK : kindW w0 = K at *
      have HKE := Lib.hid hKK
      clear hKK
      go_upto_region 13 with (go_at_call 26; refine HKD.out.mono ?_)
      rintro e w5 ⟨rfl, hb5⟩
      have HP5 := Lib.hid (HP4.out.below hb5)
      have HZ5 := Lib.hid (HZ4.out.below (by omega) hb5)
      have HX5 := Lib.hid (HX4.out.below hb10 hb5)
      have HB5 : Hid (Below w.heap.size w w5) := Lib.hid (HB4.out.trans (hb5.mono HB4.out.size))
      have HE5 := Lib.hid (HE4.out.below hb5)
      have HLX : Hid (b10 < w5.heap.size) := Lib.hid (Nat.lt_of_lt_of_le hb10 hb5.size)
      have HLZ : Hid (w.heap.size < w5.heap.size) := Lib.hid (by have := hb5.size; omega)
      have q5 : w5.cell? ⟨w.heap.size + 1, 0, none⟩ = some (.string (bs w0)) := by
        rw [hb5.cell (p := ⟨w.heap.size + 1, 0, none⟩) (by show w.heap.size + 1 < _; omega)]
        exact q0
      have d5 : w5.cell? ⟨g, 0, none⟩ = some (.bool (ns.all (·.2))) := HP5.out.c5
      have d6 : w5.cell? ⟨g + 1, 0, none⟩ = some (.slice Au ns.length cu) := by
        rw [hb5.cell (p := ⟨g + 1, 0, none⟩) (by show g + 1 < _; omega)]
        exact du4
      have HO := Lib.hid (own_keepS HOW.out hb5)
      clear hb5 du4 HOW hzg4 q0 HKD HP4 HZ4 HX4 HB4 HE4 HA4
      have q0 := q5
      cases hr : ns.all (·.2) with
      | false =>
        have hxe : x = ⟨1, zeroC, 0⟩ ∧ er = 3 := by
          have h := HMC.out
          rw [hr, if_neg (by simp)] at h
          injection h with h1 h2
          exact ⟨h1, h2⟩
        obtain ⟨hx, rfl⟩ := hxe
        rw [← hx] at HX5
        rw [hr] at d5
        have hxk : (x.k == x.k) = true := by simp
        clear hx hr HMC hxk
        have HXT := HX5
        have HZT := HZ5
        have HBT := HB5
        have HET := HE5
        clear HX5 HZ5 HB5 HE5
        have x0 : w5.cell? ⟨b10, 0, none⟩ = some (.int .i64 x.k) := HXT.out.cell 0
        have x1 : w5.cell? ⟨b10, 1, none⟩ = some (.int .i64 x.c.k) := HXT.out.cell 1
        have x2 : w5.cell? ⟨b10, 2, none⟩ = some (.int .i64 x.c.i) := HXT.out.cell 2
        have x3 : w5.cell? ⟨b10, 3, none⟩ = some (.int .i64 x.c.m) := HXT.out.cell 3
        have x4 : w5.cell? ⟨b10, 4, none⟩ = some (.int .i64 x.c.o) := HXT.out.cell 4
        have x5 : w5.cell? ⟨b10, 5, none⟩ = some (.int .i64 x.c.s) := HXT.out.cell 5
        have x6 : w5.cell? ⟨b10, 6, none⟩ = some (.int .i64 x.c.q) := HXT.out.cell 6
        have x7 : w5.cell? ⟨b10, 7, none⟩ = some (.int .i64 x.c.p) := HXT.out.cell 7
        have x8 : w5.cell? ⟨b10, 8, none⟩ = some (.int .i64 x.n) := HXT.out.cell 8
        have HLN := Lib.hid (line_any x HXO.out w5 HET.out.s)
        unfold stV stCells at HLN
        have HT2 : Hid (T = (zeroS, 3)) := Lib.hid (by rw [HT.out]; unfold parseP; rw [HM.out]; exact if_neg (fun h => by have h1 := h.1; simp at h1))
        generalize (if rightS x = true then lineS x else []) = sx at HLN
        generalize errS x = fx at HLN
        go_wp2_with (go_at_call 6; refine HLN.out.mono ?_; rintro e w9 ⟨rfl, hb9⟩; have HZ9 := Lib.hid (HZT.out.below HLZ.out hb9); have HX9 := Lib.hid (HXT.out.below HLX.out hb9); have HB9 : Hid (Below w.heap.size w w9) := Lib.hid (HBT.out.trans (hb9.mono HBT.out.size)); clear hb9 HZT HXT HBT HLN x0 x1 x2 x3 x4 x5 x6 x7 x8; have z0 : w9.cell? ⟨w.heap.size, 0, none⟩ = some (.int .i64 0) := HZ9.out.cell 0; have z1 : w9.cell? ⟨w.heap.size, 1, none⟩ = some (.int .i64 0) := HZ9.out.cell 1; have z2 : w9.cell? ⟨w.heap.size, 2, none⟩ = some (.int .i64 0) := HZ9.out.cell 2; have z3 : w9.cell? ⟨w.heap.size, 3, none⟩ = some (.int .i64 0) := HZ9.out.cell 3; have z4 : w9.cell? ⟨w.heap.size, 4, none⟩ = some (.int .i64 0) := HZ9.out.cell 4; have z5 : w9.cell? ⟨w.heap.size, 5, none⟩ = some (.int .i64 0) := HZ9.out.cell 5; have z6 : w9.cell? ⟨w.heap.size, 6, none⟩ = some (.int .i64 0) := HZ9.out.cell 6; have z7 : w9.cell? ⟨w.heap.size, 7, none⟩ = some (.int .i64 0) := HZ9.out.cell 7; have z8 : w9.cell? ⟨w.heap.size, 8, none⟩ = some (.int .i64 0) := HZ9.out.cell 8; have zf := HZ9.out.fz; have x0 : w9.cell? ⟨b10, 0, none⟩ = some (.int .i64 x.k) := HX9.out.cell 0; have x1 : w9.cell? ⟨b10, 1, none⟩ = some (.int .i64 x.c.k) := HX9.out.cell 1; have x2 : w9.cell? ⟨b10, 2, none⟩ = some (.int .i64 x.c.i) := HX9.out.cell 2; have x3 : w9.cell? ⟨b10, 3, none⟩ = some (.int .i64 x.c.m) := HX9.out.cell 3; have x4 : w9.cell? ⟨b10, 4, none⟩ = some (.int .i64 x.c.o) := HX9.out.cell 4; have x5 : w9.cell? ⟨b10, 5, none⟩ = some (.int .i64 x.c.s) := HX9.out.cell 5; have x6 : w9.cell? ⟨b10, 6, none⟩ = some (.int .i64 x.c.q) := HX9.out.cell 6; have x7 : w9.cell? ⟨b10, 7, none⟩ = some (.int .i64 x.c.p) := HX9.out.cell 7; have x8 : w9.cell? ⟨b10, 8, none⟩ = some (.int .i64 x.n) := HX9.out.cell 8)
        obtain ⟨hov, hgv⟩ := HZ9.out.over zeroS
        obtain ⟨W5, hW5⟩ : ∃ W5, W5 = (World.setCell (World.setCell (World.setCell (World.setCell (World.setCell (World.setCell (World.setCell (World.setCell (World.setCell w9 ⟨w.heap.size, 0, none⟩ (.int .i64 0)) ⟨w.heap.size, 1, none⟩ (.int .i64 0)) ⟨w.heap.size, 2, none⟩ (.int .i64 0)) ⟨w.heap.size, 3, none⟩ (.int .i64 0)) ⟨w.heap.size, 4, none⟩ (.int .i64 0)) ⟨w.heap.size, 5, none⟩ (.int .i64 0)) ⟨w.heap.size, 6, none⟩ (.int .i64 0)) ⟨w.heap.size, 7, none⟩ (.int .i64 0)) ⟨w.heap.size, 8, none⟩ (.int .i64 0)) := ⟨_, rfl⟩
        have HOV : Hid (CsAt W5 w.heap.size (stCells zeroS)) := Lib.hid (by rw [hW5]; exact hov)
        have HGV : Hid (w9.grownBy W5 (some w.heap.size)) := Lib.hid (by rw [hW5]; exact hgv)
        rw [← hW5]
        clear hov hgv hW5
        have y0 : W5.cell? ⟨w.heap.size, 0, none⟩ = some (.int .i64 0) := HOV.out.cell 0
        have y1 : W5.cell? ⟨w.heap.size, 1, none⟩ = some (.int .i64 0) := HOV.out.cell 1
        have y2 : W5.cell? ⟨w.heap.size, 2, none⟩ = some (.int .i64 0) := HOV.out.cell 2
        have y3 : W5.cell? ⟨w.heap.size, 3, none⟩ = some (.int .i64 0) := HOV.out.cell 3
        have y4 : W5.cell? ⟨w.heap.size, 4, none⟩ = some (.int .i64 0) := HOV.out.cell 4
        have y5 : W5.cell? ⟨w.heap.size, 5, none⟩ = some (.int .i64 0) := HOV.out.cell 5
        have y6 : W5.cell? ⟨w.heap.size, 6, none⟩ = some (.int .i64 0) := HOV.out.cell 6
        have y7 : W5.cell? ⟨w.heap.size, 7, none⟩ = some (.int .i64 0) := HOV.out.cell 7
        have y8 : W5.cell? ⟨w.heap.size, 8, none⟩ = some (.int .i64 0) := HOV.out.cell 8
        refine bodyPost_ret (v := .tuple #[.agg #[.int .i64 0, .int .i64 0, .int .i64 0, .int .i64 0, .int .i64 0, .int .i64 0, .int .i64 0, .int .i64 0, .int .i64 0], .int .i64 3]) (by simp [results, Tryz.results9, go_sem, y0, y1, y2, y3, y4, y5, y6, y7, y8]) rfl ?_
        rw [HT2.out]
        exact ⟨rfl, below_byS HB9.out HGV.out⟩
      | true =>
        rw [hr] at d5
        by_cases hK : K = 0
        · have hKb : (K != 0) = false := by simp [hK]
          have HMC2 : Hid ((x, er) = if ns.length = 1 ∧ w0 = fuseW then ((⟨2, zeroC, (ns.map (·.1)).headD 0⟩ : St), (0 : Int)) else if ns.length = 1 ∧ w0 = crashW then (⟨3, zeroC, (ns.map (·.1)).headD 0⟩, 0) else (⟨1, zeroC, 0⟩, 3)) := Lib.hid (by
            have h := HMC.out
            rw [hr, if_pos rfl, if_neg (by simp [hK])] at h
            exact h)
          clear HMC hr hK
          by_cases hl1 : ns.length = 1
          · obtain ⟨p, rfl⟩ := List.length_eq_one_iff.1 hl1
            have HSG := Lib.hid (Seg.of_own HO.out)
            obtain ⟨bn, on, rfl, hbn, hcn⟩ := HSG.out.at (k := 0) (by simp)
            have hcn2 : w5.cell? ⟨bn, on, none⟩ = some (.int .i64 p.1) := hcn
            have hnb : bn < b10 := HUB.out bn rfl
            clear hcn HSG
            by_cases hf : w0 = fuseW
            · have hfb : (w0 == [102, 117, 115, 101]) = true := beq_iff_eq.2 hf
              have hxe : x = ⟨2, zeroC, p.1⟩ ∧ er = 0 := by
                have h := HMC2.out
                rw [if_pos ⟨rfl, hf⟩] at h
                injection h with h1 h2
                exact ⟨h1, h2⟩
              obtain ⟨hx, rfl⟩ := hxe
              clear HMC2 hf
              have b0 : w5.cell? ⟨b10, 0, none⟩ = some (.int .i64 1) := HX5.out.cell 0
              have b8 : w5.cell? ⟨b10, 8, none⟩ = some (.int .i64 0) := HX5.out.cell 8
              have bf := HX5.out.fz
              go_upto_region 17 with fail
              go_region
              clear b0 b8 bf d5 d6 hcn2 hnb q5 q0
              have hov := HX5.out.overN 2 p.1
              have hgd : w5.grownBy ((w5.setCell ⟨b10, 0, none⟩ (.int .i64 2)).setCell ⟨b10, 8, none⟩ (.int .i64 p.1)).drew (some b10) := grown_belowS hov.2 (Below.refl _ _).drew
              have HXT : Hid (CsAt ((w5.setCell ⟨b10, 0, none⟩ (.int .i64 2)).setCell ⟨b10, 8, none⟩ (.int .i64 p.1)).drew b10 (stCells x)) := Lib.hid (by rw [hx]; exact hov.1.below (by have := HLX.out; simpa using this) (Below.refl _ _).drew)
              have HZT : Hid (CsAt ((w5.setCell ⟨b10, 0, none⟩ (.int .i64 2)).setCell ⟨b10, 8, none⟩ (.int .i64 p.1)).drew w.heap.size (stCells zeroS)) := Lib.hid (HZ5.out.kept hgd HLZ.out (fun e => by injection e with e; omega))
              have HBT : Hid (Below w.heap.size w ((w5.setCell ⟨b10, 0, none⟩ (.int .i64 2)).setCell ⟨b10, 8, none⟩ (.int .i64 p.1)).drew) := Lib.hid (HB5.out.grown hgd HB5.out.size (fun k hk => by injection hk with hk; omega))
              have HET := Lib.hid (HE.out.below HBT.out)
              have HLX2 : Hid (b10 < ((w5.setCell ⟨b10, 0, none⟩ (.int .i64 2)).setCell ⟨b10, 8, none⟩ (.int .i64 p.1)).drew.heap.size) := Lib.hid (Nat.lt_of_lt_of_le HLX.out hgd.size)
              have HLZ2 : Hid (w.heap.size < ((w5.setCell ⟨b10, 0, none⟩ (.int .i64 2)).setCell ⟨b10, 8, none⟩ (.int .i64 p.1)).drew.heap.size) := Lib.hid (Nat.lt_of_lt_of_le HLZ.out hgd.size)
              clear hov hgd HX5 HZ5 HB5 HE5 HLX HLZ hx HO HP5 HUB
              have HLX := HLX2
              have HLZ := HLZ2
              clear HLX2 HLZ2
              generalize ((w5.setCell ⟨b10, 0, none⟩ (.int .i64 2)).setCell ⟨b10, 8, none⟩ (.int .i64 p.1)).drew = w6 at *
              have x0 : w6.cell? ⟨b10, 0, none⟩ = some (.int .i64 x.k) := HXT.out.cell 0
              have x1 : w6.cell? ⟨b10, 1, none⟩ = some (.int .i64 x.c.k) := HXT.out.cell 1
              have x2 : w6.cell? ⟨b10, 2, none⟩ = some (.int .i64 x.c.i) := HXT.out.cell 2
              have x3 : w6.cell? ⟨b10, 3, none⟩ = some (.int .i64 x.c.m) := HXT.out.cell 3
              have x4 : w6.cell? ⟨b10, 4, none⟩ = some (.int .i64 x.c.o) := HXT.out.cell 4
              have x5 : w6.cell? ⟨b10, 5, none⟩ = some (.int .i64 x.c.s) := HXT.out.cell 5
              have x6 : w6.cell? ⟨b10, 6, none⟩ = some (.int .i64 x.c.q) := HXT.out.cell 6
              have x7 : w6.cell? ⟨b10, 7, none⟩ = some (.int .i64 x.c.p) := HXT.out.cell 7
              have x8 : w6.cell? ⟨b10, 8, none⟩ = some (.int .i64 x.n) := HXT.out.cell 8
              have HLN := Lib.hid (line_any x HXO.out w6 HET.out.s)
              unfold stV stCells at HLN
              cases hr : rightS x with
              | false =>
                have hes : errS x = 3 := by unfold errS; rw [hr]; rfl
                rw [hr, hes] at HLN
                have HT2 : Hid (T = (zeroS, 3)) := Lib.hid (by rw [HT.out]; unfold parseP; rw [HM.out]; exact if_neg (fun h => by have h2 := h.2.1; simp only at h2; rw [hr] at h2; cases h2))
                clear hr hes
                go_wp2_with (go_at_call 6; refine HLN.out.mono ?_; rintro e w9 ⟨rfl, hb9⟩; have HZ9 := Lib.hid (HZT.out.below HLZ.out hb9); have HX9 := Lib.hid (HXT.out.below HLX.out hb9); have HB9 : Hid (Below w.heap.size w w9) := Lib.hid (HBT.out.trans (hb9.mono HBT.out.size)); clear hb9 HZT HXT HBT HLN x0 x1 x2 x3 x4 x5 x6 x7 x8; have z0 : w9.cell? ⟨w.heap.size, 0, none⟩ = some (.int .i64 0) := HZ9.out.cell 0; have z1 : w9.cell? ⟨w.heap.size, 1, none⟩ = some (.int .i64 0) := HZ9.out.cell 1; have z2 : w9.cell? ⟨w.heap.size, 2, none⟩ = some (.int .i64 0) := HZ9.out.cell 2; have z3 : w9.cell? ⟨w.heap.size, 3, none⟩ = some (.int .i64 0) := HZ9.out.cell 3; have z4 : w9.cell? ⟨w.heap.size, 4, none⟩ = some (.int .i64 0) := HZ9.out.cell 4; have z5 : w9.cell? ⟨w.heap.size, 5, none⟩ = some (.int .i64 0) := HZ9.out.cell 5; have z6 : w9.cell? ⟨w.heap.size, 6, none⟩ = some (.int .i64 0) := HZ9.out.cell 6; have z7 : w9.cell? ⟨w.heap.size, 7, none⟩ = some (.int .i64 0) := HZ9.out.cell 7; have z8 : w9.cell? ⟨w.heap.size, 8, none⟩ = some (.int .i64 0) := HZ9.out.cell 8; have zf := HZ9.out.fz; have x0 : w9.cell? ⟨b10, 0, none⟩ = some (.int .i64 x.k) := HX9.out.cell 0; have x1 : w9.cell? ⟨b10, 1, none⟩ = some (.int .i64 x.c.k) := HX9.out.cell 1; have x2 : w9.cell? ⟨b10, 2, none⟩ = some (.int .i64 x.c.i) := HX9.out.cell 2; have x3 : w9.cell? ⟨b10, 3, none⟩ = some (.int .i64 x.c.m) := HX9.out.cell 3; have x4 : w9.cell? ⟨b10, 4, none⟩ = some (.int .i64 x.c.o) := HX9.out.cell 4; have x5 : w9.cell? ⟨b10, 5, none⟩ = some (.int .i64 x.c.s) := HX9.out.cell 5; have x6 : w9.cell? ⟨b10, 6, none⟩ = some (.int .i64 x.c.q) := HX9.out.cell 6; have x7 : w9.cell? ⟨b10, 7, none⟩ = some (.int .i64 x.c.p) := HX9.out.cell 7; have x8 : w9.cell? ⟨b10, 8, none⟩ = some (.int .i64 x.n) := HX9.out.cell 8)
                obtain ⟨hov, hgv⟩ := HZ9.out.over zeroS
                obtain ⟨W5, hW5⟩ : ∃ W5, W5 = (World.setCell (World.setCell (World.setCell (World.setCell (World.setCell (World.setCell (World.setCell (World.setCell (World.setCell w9 ⟨w.heap.size, 0, none⟩ (.int .i64 0)) ⟨w.heap.size, 1, none⟩ (.int .i64 0)) ⟨w.heap.size, 2, none⟩ (.int .i64 0)) ⟨w.heap.size, 3, none⟩ (.int .i64 0)) ⟨w.heap.size, 4, none⟩ (.int .i64 0)) ⟨w.heap.size, 5, none⟩ (.int .i64 0)) ⟨w.heap.size, 6, none⟩ (.int .i64 0)) ⟨w.heap.size, 7, none⟩ (.int .i64 0)) ⟨w.heap.size, 8, none⟩ (.int .i64 0)) := ⟨_, rfl⟩
                have HOV : Hid (CsAt W5 w.heap.size (stCells zeroS)) := Lib.hid (by rw [hW5]; exact hov)
                have HGV : Hid (w9.grownBy W5 (some w.heap.size)) := Lib.hid (by rw [hW5]; exact hgv)
                rw [← hW5]
                clear hov hgv hW5
                have y0 : W5.cell? ⟨w.heap.size, 0, none⟩ = some (.int .i64 0) := HOV.out.cell 0
                have y1 : W5.cell? ⟨w.heap.size, 1, none⟩ = some (.int .i64 0) := HOV.out.cell 1
                have y2 : W5.cell? ⟨w.heap.size, 2, none⟩ = some (.int .i64 0) := HOV.out.cell 2
                have y3 : W5.cell? ⟨w.heap.size, 3, none⟩ = some (.int .i64 0) := HOV.out.cell 3
                have y4 : W5.cell? ⟨w.heap.size, 4, none⟩ = some (.int .i64 0) := HOV.out.cell 4
                have y5 : W5.cell? ⟨w.heap.size, 5, none⟩ = some (.int .i64 0) := HOV.out.cell 5
                have y6 : W5.cell? ⟨w.heap.size, 6, none⟩ = some (.int .i64 0) := HOV.out.cell 6
                have y7 : W5.cell? ⟨w.heap.size, 7, none⟩ = some (.int .i64 0) := HOV.out.cell 7
                have y8 : W5.cell? ⟨w.heap.size, 8, none⟩ = some (.int .i64 0) := HOV.out.cell 8
                refine bodyPost_ret (v := .tuple #[.agg #[.int .i64 0, .int .i64 0, .int .i64 0, .int .i64 0, .int .i64 0, .int .i64 0, .int .i64 0, .int .i64 0, .int .i64 0], .int .i64 3]) (by simp [results, Tryz.results9, go_sem, y0, y1, y2, y3, y4, y5, y6, y7, y8]) rfl ?_
                rw [HT2.out]
                exact ⟨rfl, below_byS HB9.out HGV.out⟩
              | true =>
                have hes : errS x = 0 := by unfold errS; rw [hr]; rfl
                rw [hr, hes, if_pos rfl] at HLN
                obtain ⟨L, hL⟩ : ∃ L, L = lineS x := ⟨_, rfl⟩
                rw [← hL] at HLN
                by_cases hl2 : L = line
                · have HT2 : Hid (T = (x, 0)) := Lib.hid (by rw [HT.out]; unfold parseP; rw [HM.out]; exact if_pos ⟨rfl, hr, by rw [← hL]; exact hl2⟩)
                  have t1 : (L != line) = false := by simp [hl2]
                  have t2 : (L == line) = true := by simp [hl2]
                  have HLL := Lib.hid hl2
                  clear hr hes hl2 hL
                  go_wp2_with (go_at_call 6; refine HLN.out.mono ?_; rintro e w9 ⟨rfl, hb9⟩; have HZ9 := Lib.hid (HZT.out.below HLZ.out hb9); have HX9 := Lib.hid (HXT.out.below HLX.out hb9); have HB9 : Hid (Below w.heap.size w w9) := Lib.hid (HBT.out.trans (hb9.mono HBT.out.size)); clear hb9 HZT HXT HBT HLN x0 x1 x2 x3 x4 x5 x6 x7 x8; have z0 : w9.cell? ⟨w.heap.size, 0, none⟩ = some (.int .i64 0) := HZ9.out.cell 0; have z1 : w9.cell? ⟨w.heap.size, 1, none⟩ = some (.int .i64 0) := HZ9.out.cell 1; have z2 : w9.cell? ⟨w.heap.size, 2, none⟩ = some (.int .i64 0) := HZ9.out.cell 2; have z3 : w9.cell? ⟨w.heap.size, 3, none⟩ = some (.int .i64 0) := HZ9.out.cell 3; have z4 : w9.cell? ⟨w.heap.size, 4, none⟩ = some (.int .i64 0) := HZ9.out.cell 4; have z5 : w9.cell? ⟨w.heap.size, 5, none⟩ = some (.int .i64 0) := HZ9.out.cell 5; have z6 : w9.cell? ⟨w.heap.size, 6, none⟩ = some (.int .i64 0) := HZ9.out.cell 6; have z7 : w9.cell? ⟨w.heap.size, 7, none⟩ = some (.int .i64 0) := HZ9.out.cell 7; have z8 : w9.cell? ⟨w.heap.size, 8, none⟩ = some (.int .i64 0) := HZ9.out.cell 8; have zf := HZ9.out.fz; have x0 : w9.cell? ⟨b10, 0, none⟩ = some (.int .i64 x.k) := HX9.out.cell 0; have x1 : w9.cell? ⟨b10, 1, none⟩ = some (.int .i64 x.c.k) := HX9.out.cell 1; have x2 : w9.cell? ⟨b10, 2, none⟩ = some (.int .i64 x.c.i) := HX9.out.cell 2; have x3 : w9.cell? ⟨b10, 3, none⟩ = some (.int .i64 x.c.m) := HX9.out.cell 3; have x4 : w9.cell? ⟨b10, 4, none⟩ = some (.int .i64 x.c.o) := HX9.out.cell 4; have x5 : w9.cell? ⟨b10, 5, none⟩ = some (.int .i64 x.c.s) := HX9.out.cell 5; have x6 : w9.cell? ⟨b10, 6, none⟩ = some (.int .i64 x.c.q) := HX9.out.cell 6; have x7 : w9.cell? ⟨b10, 7, none⟩ = some (.int .i64 x.c.p) := HX9.out.cell 7; have x8 : w9.cell? ⟨b10, 8, none⟩ = some (.int .i64 x.n) := HX9.out.cell 8)
                  obtain ⟨hov, hgv⟩ := HZ9.out.over x
                  obtain ⟨W5, hW5⟩ : ∃ W5, W5 = (World.setCell (World.setCell (World.setCell (World.setCell (World.setCell (World.setCell (World.setCell (World.setCell (World.setCell w9 ⟨w.heap.size, 0, none⟩ (.int .i64 x.k)) ⟨w.heap.size, 1, none⟩ (.int .i64 x.c.k)) ⟨w.heap.size, 2, none⟩ (.int .i64 x.c.i)) ⟨w.heap.size, 3, none⟩ (.int .i64 x.c.m)) ⟨w.heap.size, 4, none⟩ (.int .i64 x.c.o)) ⟨w.heap.size, 5, none⟩ (.int .i64 x.c.s)) ⟨w.heap.size, 6, none⟩ (.int .i64 x.c.q)) ⟨w.heap.size, 7, none⟩ (.int .i64 x.c.p)) ⟨w.heap.size, 8, none⟩ (.int .i64 x.n)) := ⟨_, rfl⟩
                  have HOV : Hid (CsAt W5 w.heap.size (stCells x)) := Lib.hid (by rw [hW5]; exact hov)
                  have HGV : Hid (w9.grownBy W5 (some w.heap.size)) := Lib.hid (by rw [hW5]; exact hgv)
                  rw [← hW5]
                  clear hov hgv hW5
                  have y0 : W5.cell? ⟨w.heap.size, 0, none⟩ = some (.int .i64 x.k) := HOV.out.cell 0
                  have y1 : W5.cell? ⟨w.heap.size, 1, none⟩ = some (.int .i64 x.c.k) := HOV.out.cell 1
                  have y2 : W5.cell? ⟨w.heap.size, 2, none⟩ = some (.int .i64 x.c.i) := HOV.out.cell 2
                  have y3 : W5.cell? ⟨w.heap.size, 3, none⟩ = some (.int .i64 x.c.m) := HOV.out.cell 3
                  have y4 : W5.cell? ⟨w.heap.size, 4, none⟩ = some (.int .i64 x.c.o) := HOV.out.cell 4
                  have y5 : W5.cell? ⟨w.heap.size, 5, none⟩ = some (.int .i64 x.c.s) := HOV.out.cell 5
                  have y6 : W5.cell? ⟨w.heap.size, 6, none⟩ = some (.int .i64 x.c.q) := HOV.out.cell 6
                  have y7 : W5.cell? ⟨w.heap.size, 7, none⟩ = some (.int .i64 x.c.p) := HOV.out.cell 7
                  have y8 : W5.cell? ⟨w.heap.size, 8, none⟩ = some (.int .i64 x.n) := HOV.out.cell 8
                  refine bodyPost_ret (v := .tuple #[.agg #[.int .i64 x.k, .int .i64 x.c.k, .int .i64 x.c.i, .int .i64 x.c.m, .int .i64 x.c.o, .int .i64 x.c.s, .int .i64 x.c.q, .int .i64 x.c.p, .int .i64 x.n], .int .i64 0]) (by simp [results, Tryz.results9, go_sem, y0, y1, y2, y3, y4, y5, y6, y7, y8]) rfl ?_
                  rw [HT2.out]
                  exact ⟨rfl, below_byS HB9.out HGV.out⟩
                · have HT2 : Hid (T = (zeroS, 3)) := Lib.hid (by rw [HT.out]; unfold parseP; rw [HM.out]; exact if_neg (fun h => hl2 (by rw [hL]; exact h.2.2)))
                  have t1 : (L != line) = true := by simpa using hl2
                  have t2 : (L == line) = false := by simpa using hl2
                  clear hr hes hl2 hL
                  go_wp2_with (go_at_call 6; refine HLN.out.mono ?_; rintro e w9 ⟨rfl, hb9⟩; have HZ9 := Lib.hid (HZT.out.below HLZ.out hb9); have HX9 := Lib.hid (HXT.out.below HLX.out hb9); have HB9 : Hid (Below w.heap.size w w9) := Lib.hid (HBT.out.trans (hb9.mono HBT.out.size)); clear hb9 HZT HXT HBT HLN x0 x1 x2 x3 x4 x5 x6 x7 x8; have z0 : w9.cell? ⟨w.heap.size, 0, none⟩ = some (.int .i64 0) := HZ9.out.cell 0; have z1 : w9.cell? ⟨w.heap.size, 1, none⟩ = some (.int .i64 0) := HZ9.out.cell 1; have z2 : w9.cell? ⟨w.heap.size, 2, none⟩ = some (.int .i64 0) := HZ9.out.cell 2; have z3 : w9.cell? ⟨w.heap.size, 3, none⟩ = some (.int .i64 0) := HZ9.out.cell 3; have z4 : w9.cell? ⟨w.heap.size, 4, none⟩ = some (.int .i64 0) := HZ9.out.cell 4; have z5 : w9.cell? ⟨w.heap.size, 5, none⟩ = some (.int .i64 0) := HZ9.out.cell 5; have z6 : w9.cell? ⟨w.heap.size, 6, none⟩ = some (.int .i64 0) := HZ9.out.cell 6; have z7 : w9.cell? ⟨w.heap.size, 7, none⟩ = some (.int .i64 0) := HZ9.out.cell 7; have z8 : w9.cell? ⟨w.heap.size, 8, none⟩ = some (.int .i64 0) := HZ9.out.cell 8; have zf := HZ9.out.fz; have x0 : w9.cell? ⟨b10, 0, none⟩ = some (.int .i64 x.k) := HX9.out.cell 0; have x1 : w9.cell? ⟨b10, 1, none⟩ = some (.int .i64 x.c.k) := HX9.out.cell 1; have x2 : w9.cell? ⟨b10, 2, none⟩ = some (.int .i64 x.c.i) := HX9.out.cell 2; have x3 : w9.cell? ⟨b10, 3, none⟩ = some (.int .i64 x.c.m) := HX9.out.cell 3; have x4 : w9.cell? ⟨b10, 4, none⟩ = some (.int .i64 x.c.o) := HX9.out.cell 4; have x5 : w9.cell? ⟨b10, 5, none⟩ = some (.int .i64 x.c.s) := HX9.out.cell 5; have x6 : w9.cell? ⟨b10, 6, none⟩ = some (.int .i64 x.c.q) := HX9.out.cell 6; have x7 : w9.cell? ⟨b10, 7, none⟩ = some (.int .i64 x.c.p) := HX9.out.cell 7; have x8 : w9.cell? ⟨b10, 8, none⟩ = some (.int .i64 x.n) := HX9.out.cell 8)
                  obtain ⟨hov, hgv⟩ := HZ9.out.over zeroS
                  obtain ⟨W5, hW5⟩ : ∃ W5, W5 = (World.setCell (World.setCell (World.setCell (World.setCell (World.setCell (World.setCell (World.setCell (World.setCell (World.setCell w9 ⟨w.heap.size, 0, none⟩ (.int .i64 0)) ⟨w.heap.size, 1, none⟩ (.int .i64 0)) ⟨w.heap.size, 2, none⟩ (.int .i64 0)) ⟨w.heap.size, 3, none⟩ (.int .i64 0)) ⟨w.heap.size, 4, none⟩ (.int .i64 0)) ⟨w.heap.size, 5, none⟩ (.int .i64 0)) ⟨w.heap.size, 6, none⟩ (.int .i64 0)) ⟨w.heap.size, 7, none⟩ (.int .i64 0)) ⟨w.heap.size, 8, none⟩ (.int .i64 0)) := ⟨_, rfl⟩
                  have HOV : Hid (CsAt W5 w.heap.size (stCells zeroS)) := Lib.hid (by rw [hW5]; exact hov)
                  have HGV : Hid (w9.grownBy W5 (some w.heap.size)) := Lib.hid (by rw [hW5]; exact hgv)
                  rw [← hW5]
                  clear hov hgv hW5
                  have y0 : W5.cell? ⟨w.heap.size, 0, none⟩ = some (.int .i64 0) := HOV.out.cell 0
                  have y1 : W5.cell? ⟨w.heap.size, 1, none⟩ = some (.int .i64 0) := HOV.out.cell 1
                  have y2 : W5.cell? ⟨w.heap.size, 2, none⟩ = some (.int .i64 0) := HOV.out.cell 2
                  have y3 : W5.cell? ⟨w.heap.size, 3, none⟩ = some (.int .i64 0) := HOV.out.cell 3
                  have y4 : W5.cell? ⟨w.heap.size, 4, none⟩ = some (.int .i64 0) := HOV.out.cell 4
                  have y5 : W5.cell? ⟨w.heap.size, 5, none⟩ = some (.int .i64 0) := HOV.out.cell 5
                  have y6 : W5.cell? ⟨w.heap.size, 6, none⟩ = some (.int .i64 0) := HOV.out.cell 6
                  have y7 : W5.cell? ⟨w.heap.size, 7, none⟩ = some (.int .i64 0) := HOV.out.cell 7
                  have y8 : W5.cell? ⟨w.heap.size, 8, none⟩ = some (.int .i64 0) := HOV.out.cell 8
                  refine bodyPost_ret (v := .tuple #[.agg #[.int .i64 0, .int .i64 0, .int .i64 0, .int .i64 0, .int .i64 0, .int .i64 0, .int .i64 0, .int .i64 0, .int .i64 0], .int .i64 3]) (by simp [results, Tryz.results9, go_sem, y0, y1, y2, y3, y4, y5, y6, y7, y8]) rfl ?_
                  rw [HT2.out]
                  exact ⟨rfl, below_byS HB9.out HGV.out⟩
            · by_cases hc : w0 = crashW
              · have hfb : (w0 == [102, 117, 115, 101]) = false := beq_eq_false_iff_ne.2 hf
                have hcb : (w0 == [99, 114, 97, 115, 104]) = true := beq_iff_eq.2 hc
                have hxe : x = ⟨3, zeroC, p.1⟩ ∧ er = 0 := by
                  have h := HMC2.out
                  rw [if_neg (fun h => hf h.2), if_pos ⟨rfl, hc⟩] at h
                  injection h with h1 h2
                  exact ⟨h1, h2⟩
                obtain ⟨hx, rfl⟩ := hxe
                clear HMC2 hf hc
                have b0 : w5.cell? ⟨b10, 0, none⟩ = some (.int .i64 1) := HX5.out.cell 0
                have b8 : w5.cell? ⟨b10, 8, none⟩ = some (.int .i64 0) := HX5.out.cell 8
                have bf := HX5.out.fz
                go_upto_region 19 with fail
                go_region
                clear b0 b8 bf d5 d6 hcn2 hnb q5 q0
                have hov := HX5.out.overN 3 p.1
                have hgd : w5.grownBy ((w5.setCell ⟨b10, 0, none⟩ (.int .i64 3)).setCell ⟨b10, 8, none⟩ (.int .i64 p.1)).drew (some b10) := grown_belowS hov.2 (Below.refl _ _).drew
                have HXT : Hid (CsAt ((w5.setCell ⟨b10, 0, none⟩ (.int .i64 3)).setCell ⟨b10, 8, none⟩ (.int .i64 p.1)).drew b10 (stCells x)) := Lib.hid (by rw [hx]; exact hov.1.below (by have := HLX.out; simpa using this) (Below.refl _ _).drew)
                have HZT : Hid (CsAt ((w5.setCell ⟨b10, 0, none⟩ (.int .i64 3)).setCell ⟨b10, 8, none⟩ (.int .i64 p.1)).drew w.heap.size (stCells zeroS)) := Lib.hid (HZ5.out.kept hgd HLZ.out (fun e => by injection e with e; omega))
                have HBT : Hid (Below w.heap.size w ((w5.setCell ⟨b10, 0, none⟩ (.int .i64 3)).setCell ⟨b10, 8, none⟩ (.int .i64 p.1)).drew) := Lib.hid (HB5.out.grown hgd HB5.out.size (fun k hk => by injection hk with hk; omega))
                have HET := Lib.hid (HE.out.below HBT.out)
                have HLX2 : Hid (b10 < ((w5.setCell ⟨b10, 0, none⟩ (.int .i64 3)).setCell ⟨b10, 8, none⟩ (.int .i64 p.1)).drew.heap.size) := Lib.hid (Nat.lt_of_lt_of_le HLX.out hgd.size)
                have HLZ2 : Hid (w.heap.size < ((w5.setCell ⟨b10, 0, none⟩ (.int .i64 3)).setCell ⟨b10, 8, none⟩ (.int .i64 p.1)).drew.heap.size) := Lib.hid (Nat.lt_of_lt_of_le HLZ.out hgd.size)
                clear hov hgd HX5 HZ5 HB5 HE5 HLX HLZ hx HO HP5 HUB
                have HLX := HLX2
                have HLZ := HLZ2
                clear HLX2 HLZ2
                generalize ((w5.setCell ⟨b10, 0, none⟩ (.int .i64 3)).setCell ⟨b10, 8, none⟩ (.int .i64 p.1)).drew = w6 at *
                have x0 : w6.cell? ⟨b10, 0, none⟩ = some (.int .i64 x.k) := HXT.out.cell 0
                have x1 : w6.cell? ⟨b10, 1, none⟩ = some (.int .i64 x.c.k) := HXT.out.cell 1
                have x2 : w6.cell? ⟨b10, 2, none⟩ = some (.int .i64 x.c.i) := HXT.out.cell 2
                have x3 : w6.cell? ⟨b10, 3, none⟩ = some (.int .i64 x.c.m) := HXT.out.cell 3
                have x4 : w6.cell? ⟨b10, 4, none⟩ = some (.int .i64 x.c.o) := HXT.out.cell 4
                have x5 : w6.cell? ⟨b10, 5, none⟩ = some (.int .i64 x.c.s) := HXT.out.cell 5
                have x6 : w6.cell? ⟨b10, 6, none⟩ = some (.int .i64 x.c.q) := HXT.out.cell 6
                have x7 : w6.cell? ⟨b10, 7, none⟩ = some (.int .i64 x.c.p) := HXT.out.cell 7
                have x8 : w6.cell? ⟨b10, 8, none⟩ = some (.int .i64 x.n) := HXT.out.cell 8
                have HLN := Lib.hid (line_any x HXO.out w6 HET.out.s)
                unfold stV stCells at HLN
                cases hr : rightS x with
                | false =>
                  have hes : errS x = 3 := by unfold errS; rw [hr]; rfl
                  rw [hr, hes] at HLN
                  have HT2 : Hid (T = (zeroS, 3)) := Lib.hid (by rw [HT.out]; unfold parseP; rw [HM.out]; exact if_neg (fun h => by have h2 := h.2.1; simp only at h2; rw [hr] at h2; cases h2))
                  clear hr hes
                  go_wp2_with (go_at_call 6; refine HLN.out.mono ?_; rintro e w9 ⟨rfl, hb9⟩; have HZ9 := Lib.hid (HZT.out.below HLZ.out hb9); have HX9 := Lib.hid (HXT.out.below HLX.out hb9); have HB9 : Hid (Below w.heap.size w w9) := Lib.hid (HBT.out.trans (hb9.mono HBT.out.size)); clear hb9 HZT HXT HBT HLN x0 x1 x2 x3 x4 x5 x6 x7 x8; have z0 : w9.cell? ⟨w.heap.size, 0, none⟩ = some (.int .i64 0) := HZ9.out.cell 0; have z1 : w9.cell? ⟨w.heap.size, 1, none⟩ = some (.int .i64 0) := HZ9.out.cell 1; have z2 : w9.cell? ⟨w.heap.size, 2, none⟩ = some (.int .i64 0) := HZ9.out.cell 2; have z3 : w9.cell? ⟨w.heap.size, 3, none⟩ = some (.int .i64 0) := HZ9.out.cell 3; have z4 : w9.cell? ⟨w.heap.size, 4, none⟩ = some (.int .i64 0) := HZ9.out.cell 4; have z5 : w9.cell? ⟨w.heap.size, 5, none⟩ = some (.int .i64 0) := HZ9.out.cell 5; have z6 : w9.cell? ⟨w.heap.size, 6, none⟩ = some (.int .i64 0) := HZ9.out.cell 6; have z7 : w9.cell? ⟨w.heap.size, 7, none⟩ = some (.int .i64 0) := HZ9.out.cell 7; have z8 : w9.cell? ⟨w.heap.size, 8, none⟩ = some (.int .i64 0) := HZ9.out.cell 8; have zf := HZ9.out.fz; have x0 : w9.cell? ⟨b10, 0, none⟩ = some (.int .i64 x.k) := HX9.out.cell 0; have x1 : w9.cell? ⟨b10, 1, none⟩ = some (.int .i64 x.c.k) := HX9.out.cell 1; have x2 : w9.cell? ⟨b10, 2, none⟩ = some (.int .i64 x.c.i) := HX9.out.cell 2; have x3 : w9.cell? ⟨b10, 3, none⟩ = some (.int .i64 x.c.m) := HX9.out.cell 3; have x4 : w9.cell? ⟨b10, 4, none⟩ = some (.int .i64 x.c.o) := HX9.out.cell 4; have x5 : w9.cell? ⟨b10, 5, none⟩ = some (.int .i64 x.c.s) := HX9.out.cell 5; have x6 : w9.cell? ⟨b10, 6, none⟩ = some (.int .i64 x.c.q) := HX9.out.cell 6; have x7 : w9.cell? ⟨b10, 7, none⟩ = some (.int .i64 x.c.p) := HX9.out.cell 7; have x8 : w9.cell? ⟨b10, 8, none⟩ = some (.int .i64 x.n) := HX9.out.cell 8)
                  obtain ⟨hov, hgv⟩ := HZ9.out.over zeroS
                  obtain ⟨W5, hW5⟩ : ∃ W5, W5 = (World.setCell (World.setCell (World.setCell (World.setCell (World.setCell (World.setCell (World.setCell (World.setCell (World.setCell w9 ⟨w.heap.size, 0, none⟩ (.int .i64 0)) ⟨w.heap.size, 1, none⟩ (.int .i64 0)) ⟨w.heap.size, 2, none⟩ (.int .i64 0)) ⟨w.heap.size, 3, none⟩ (.int .i64 0)) ⟨w.heap.size, 4, none⟩ (.int .i64 0)) ⟨w.heap.size, 5, none⟩ (.int .i64 0)) ⟨w.heap.size, 6, none⟩ (.int .i64 0)) ⟨w.heap.size, 7, none⟩ (.int .i64 0)) ⟨w.heap.size, 8, none⟩ (.int .i64 0)) := ⟨_, rfl⟩
                  have HOV : Hid (CsAt W5 w.heap.size (stCells zeroS)) := Lib.hid (by rw [hW5]; exact hov)
                  have HGV : Hid (w9.grownBy W5 (some w.heap.size)) := Lib.hid (by rw [hW5]; exact hgv)
                  rw [← hW5]
                  clear hov hgv hW5
                  have y0 : W5.cell? ⟨w.heap.size, 0, none⟩ = some (.int .i64 0) := HOV.out.cell 0
                  have y1 : W5.cell? ⟨w.heap.size, 1, none⟩ = some (.int .i64 0) := HOV.out.cell 1
                  have y2 : W5.cell? ⟨w.heap.size, 2, none⟩ = some (.int .i64 0) := HOV.out.cell 2
                  have y3 : W5.cell? ⟨w.heap.size, 3, none⟩ = some (.int .i64 0) := HOV.out.cell 3
                  have y4 : W5.cell? ⟨w.heap.size, 4, none⟩ = some (.int .i64 0) := HOV.out.cell 4
                  have y5 : W5.cell? ⟨w.heap.size, 5, none⟩ = some (.int .i64 0) := HOV.out.cell 5
                  have y6 : W5.cell? ⟨w.heap.size, 6, none⟩ = some (.int .i64 0) := HOV.out.cell 6
                  have y7 : W5.cell? ⟨w.heap.size, 7, none⟩ = some (.int .i64 0) := HOV.out.cell 7
                  have y8 : W5.cell? ⟨w.heap.size, 8, none⟩ = some (.int .i64 0) := HOV.out.cell 8
                  refine bodyPost_ret (v := .tuple #[.agg #[.int .i64 0, .int .i64 0, .int .i64 0, .int .i64 0, .int .i64 0, .int .i64 0, .int .i64 0, .int .i64 0, .int .i64 0], .int .i64 3]) (by simp [results, Tryz.results9, go_sem, y0, y1, y2, y3, y4, y5, y6, y7, y8]) rfl ?_
                  rw [HT2.out]
                  exact ⟨rfl, below_byS HB9.out HGV.out⟩
                | true =>
                  have hes : errS x = 0 := by unfold errS; rw [hr]; rfl
                  rw [hr, hes, if_pos rfl] at HLN
                  obtain ⟨L, hL⟩ : ∃ L, L = lineS x := ⟨_, rfl⟩
                  rw [← hL] at HLN
                  by_cases hl2 : L = line
                  · have HT2 : Hid (T = (x, 0)) := Lib.hid (by rw [HT.out]; unfold parseP; rw [HM.out]; exact if_pos ⟨rfl, hr, by rw [← hL]; exact hl2⟩)
                    have t1 : (L != line) = false := by simp [hl2]
                    have t2 : (L == line) = true := by simp [hl2]
                    have HLL := Lib.hid hl2
                    clear hr hes hl2 hL
                    go_wp2_with (go_at_call 6; refine HLN.out.mono ?_; rintro e w9 ⟨rfl, hb9⟩; have HZ9 := Lib.hid (HZT.out.below HLZ.out hb9); have HX9 := Lib.hid (HXT.out.below HLX.out hb9); have HB9 : Hid (Below w.heap.size w w9) := Lib.hid (HBT.out.trans (hb9.mono HBT.out.size)); clear hb9 HZT HXT HBT HLN x0 x1 x2 x3 x4 x5 x6 x7 x8; have z0 : w9.cell? ⟨w.heap.size, 0, none⟩ = some (.int .i64 0) := HZ9.out.cell 0; have z1 : w9.cell? ⟨w.heap.size, 1, none⟩ = some (.int .i64 0) := HZ9.out.cell 1; have z2 : w9.cell? ⟨w.heap.size, 2, none⟩ = some (.int .i64 0) := HZ9.out.cell 2; have z3 : w9.cell? ⟨w.heap.size, 3, none⟩ = some (.int .i64 0) := HZ9.out.cell 3; have z4 : w9.cell? ⟨w.heap.size, 4, none⟩ = some (.int .i64 0) := HZ9.out.cell 4; have z5 : w9.cell? ⟨w.heap.size, 5, none⟩ = some (.int .i64 0) := HZ9.out.cell 5; have z6 : w9.cell? ⟨w.heap.size, 6, none⟩ = some (.int .i64 0) := HZ9.out.cell 6; have z7 : w9.cell? ⟨w.heap.size, 7, none⟩ = some (.int .i64 0) := HZ9.out.cell 7; have z8 : w9.cell? ⟨w.heap.size, 8, none⟩ = some (.int .i64 0) := HZ9.out.cell 8; have zf := HZ9.out.fz; have x0 : w9.cell? ⟨b10, 0, none⟩ = some (.int .i64 x.k) := HX9.out.cell 0; have x1 : w9.cell? ⟨b10, 1, none⟩ = some (.int .i64 x.c.k) := HX9.out.cell 1; have x2 : w9.cell? ⟨b10, 2, none⟩ = some (.int .i64 x.c.i) := HX9.out.cell 2; have x3 : w9.cell? ⟨b10, 3, none⟩ = some (.int .i64 x.c.m) := HX9.out.cell 3; have x4 : w9.cell? ⟨b10, 4, none⟩ = some (.int .i64 x.c.o) := HX9.out.cell 4; have x5 : w9.cell? ⟨b10, 5, none⟩ = some (.int .i64 x.c.s) := HX9.out.cell 5; have x6 : w9.cell? ⟨b10, 6, none⟩ = some (.int .i64 x.c.q) := HX9.out.cell 6; have x7 : w9.cell? ⟨b10, 7, none⟩ = some (.int .i64 x.c.p) := HX9.out.cell 7; have x8 : w9.cell? ⟨b10, 8, none⟩ = some (.int .i64 x.n) := HX9.out.cell 8)
                    obtain ⟨hov, hgv⟩ := HZ9.out.over x
                    obtain ⟨W5, hW5⟩ : ∃ W5, W5 = (World.setCell (World.setCell (World.setCell (World.setCell (World.setCell (World.setCell (World.setCell (World.setCell (World.setCell w9 ⟨w.heap.size, 0, none⟩ (.int .i64 x.k)) ⟨w.heap.size, 1, none⟩ (.int .i64 x.c.k)) ⟨w.heap.size, 2, none⟩ (.int .i64 x.c.i)) ⟨w.heap.size, 3, none⟩ (.int .i64 x.c.m)) ⟨w.heap.size, 4, none⟩ (.int .i64 x.c.o)) ⟨w.heap.size, 5, none⟩ (.int .i64 x.c.s)) ⟨w.heap.size, 6, none⟩ (.int .i64 x.c.q)) ⟨w.heap.size, 7, none⟩ (.int .i64 x.c.p)) ⟨w.heap.size, 8, none⟩ (.int .i64 x.n)) := ⟨_, rfl⟩
                    have HOV : Hid (CsAt W5 w.heap.size (stCells x)) := Lib.hid (by rw [hW5]; exact hov)
                    have HGV : Hid (w9.grownBy W5 (some w.heap.size)) := Lib.hid (by rw [hW5]; exact hgv)
                    rw [← hW5]
                    clear hov hgv hW5
                    have y0 : W5.cell? ⟨w.heap.size, 0, none⟩ = some (.int .i64 x.k) := HOV.out.cell 0
                    have y1 : W5.cell? ⟨w.heap.size, 1, none⟩ = some (.int .i64 x.c.k) := HOV.out.cell 1
                    have y2 : W5.cell? ⟨w.heap.size, 2, none⟩ = some (.int .i64 x.c.i) := HOV.out.cell 2
                    have y3 : W5.cell? ⟨w.heap.size, 3, none⟩ = some (.int .i64 x.c.m) := HOV.out.cell 3
                    have y4 : W5.cell? ⟨w.heap.size, 4, none⟩ = some (.int .i64 x.c.o) := HOV.out.cell 4
                    have y5 : W5.cell? ⟨w.heap.size, 5, none⟩ = some (.int .i64 x.c.s) := HOV.out.cell 5
                    have y6 : W5.cell? ⟨w.heap.size, 6, none⟩ = some (.int .i64 x.c.q) := HOV.out.cell 6
                    have y7 : W5.cell? ⟨w.heap.size, 7, none⟩ = some (.int .i64 x.c.p) := HOV.out.cell 7
                    have y8 : W5.cell? ⟨w.heap.size, 8, none⟩ = some (.int .i64 x.n) := HOV.out.cell 8
                    refine bodyPost_ret (v := .tuple #[.agg #[.int .i64 x.k, .int .i64 x.c.k, .int .i64 x.c.i, .int .i64 x.c.m, .int .i64 x.c.o, .int .i64 x.c.s, .int .i64 x.c.q, .int .i64 x.c.p, .int .i64 x.n], .int .i64 0]) (by simp [results, Tryz.results9, go_sem, y0, y1, y2, y3, y4, y5, y6, y7, y8]) rfl ?_
                    rw [HT2.out]
                    exact ⟨rfl, below_byS HB9.out HGV.out⟩
                  · have HT2 : Hid (T = (zeroS, 3)) := Lib.hid (by rw [HT.out]; unfold parseP; rw [HM.out]; exact if_neg (fun h => hl2 (by rw [hL]; exact h.2.2)))
                    have t1 : (L != line) = true := by simpa using hl2
                    have t2 : (L == line) = false := by simpa using hl2
                    clear hr hes hl2 hL
                    go_wp2_with (go_at_call 6; refine HLN.out.mono ?_; rintro e w9 ⟨rfl, hb9⟩; have HZ9 := Lib.hid (HZT.out.below HLZ.out hb9); have HX9 := Lib.hid (HXT.out.below HLX.out hb9); have HB9 : Hid (Below w.heap.size w w9) := Lib.hid (HBT.out.trans (hb9.mono HBT.out.size)); clear hb9 HZT HXT HBT HLN x0 x1 x2 x3 x4 x5 x6 x7 x8; have z0 : w9.cell? ⟨w.heap.size, 0, none⟩ = some (.int .i64 0) := HZ9.out.cell 0; have z1 : w9.cell? ⟨w.heap.size, 1, none⟩ = some (.int .i64 0) := HZ9.out.cell 1; have z2 : w9.cell? ⟨w.heap.size, 2, none⟩ = some (.int .i64 0) := HZ9.out.cell 2; have z3 : w9.cell? ⟨w.heap.size, 3, none⟩ = some (.int .i64 0) := HZ9.out.cell 3; have z4 : w9.cell? ⟨w.heap.size, 4, none⟩ = some (.int .i64 0) := HZ9.out.cell 4; have z5 : w9.cell? ⟨w.heap.size, 5, none⟩ = some (.int .i64 0) := HZ9.out.cell 5; have z6 : w9.cell? ⟨w.heap.size, 6, none⟩ = some (.int .i64 0) := HZ9.out.cell 6; have z7 : w9.cell? ⟨w.heap.size, 7, none⟩ = some (.int .i64 0) := HZ9.out.cell 7; have z8 : w9.cell? ⟨w.heap.size, 8, none⟩ = some (.int .i64 0) := HZ9.out.cell 8; have zf := HZ9.out.fz; have x0 : w9.cell? ⟨b10, 0, none⟩ = some (.int .i64 x.k) := HX9.out.cell 0; have x1 : w9.cell? ⟨b10, 1, none⟩ = some (.int .i64 x.c.k) := HX9.out.cell 1; have x2 : w9.cell? ⟨b10, 2, none⟩ = some (.int .i64 x.c.i) := HX9.out.cell 2; have x3 : w9.cell? ⟨b10, 3, none⟩ = some (.int .i64 x.c.m) := HX9.out.cell 3; have x4 : w9.cell? ⟨b10, 4, none⟩ = some (.int .i64 x.c.o) := HX9.out.cell 4; have x5 : w9.cell? ⟨b10, 5, none⟩ = some (.int .i64 x.c.s) := HX9.out.cell 5; have x6 : w9.cell? ⟨b10, 6, none⟩ = some (.int .i64 x.c.q) := HX9.out.cell 6; have x7 : w9.cell? ⟨b10, 7, none⟩ = some (.int .i64 x.c.p) := HX9.out.cell 7; have x8 : w9.cell? ⟨b10, 8, none⟩ = some (.int .i64 x.n) := HX9.out.cell 8)
                    obtain ⟨hov, hgv⟩ := HZ9.out.over zeroS
                    obtain ⟨W5, hW5⟩ : ∃ W5, W5 = (World.setCell (World.setCell (World.setCell (World.setCell (World.setCell (World.setCell (World.setCell (World.setCell (World.setCell w9 ⟨w.heap.size, 0, none⟩ (.int .i64 0)) ⟨w.heap.size, 1, none⟩ (.int .i64 0)) ⟨w.heap.size, 2, none⟩ (.int .i64 0)) ⟨w.heap.size, 3, none⟩ (.int .i64 0)) ⟨w.heap.size, 4, none⟩ (.int .i64 0)) ⟨w.heap.size, 5, none⟩ (.int .i64 0)) ⟨w.heap.size, 6, none⟩ (.int .i64 0)) ⟨w.heap.size, 7, none⟩ (.int .i64 0)) ⟨w.heap.size, 8, none⟩ (.int .i64 0)) := ⟨_, rfl⟩
                    have HOV : Hid (CsAt W5 w.heap.size (stCells zeroS)) := Lib.hid (by rw [hW5]; exact hov)
                    have HGV : Hid (w9.grownBy W5 (some w.heap.size)) := Lib.hid (by rw [hW5]; exact hgv)
                    rw [← hW5]
                    clear hov hgv hW5
                    have y0 : W5.cell? ⟨w.heap.size, 0, none⟩ = some (.int .i64 0) := HOV.out.cell 0
                    have y1 : W5.cell? ⟨w.heap.size, 1, none⟩ = some (.int .i64 0) := HOV.out.cell 1
                    have y2 : W5.cell? ⟨w.heap.size, 2, none⟩ = some (.int .i64 0) := HOV.out.cell 2
                    have y3 : W5.cell? ⟨w.heap.size, 3, none⟩ = some (.int .i64 0) := HOV.out.cell 3
                    have y4 : W5.cell? ⟨w.heap.size, 4, none⟩ = some (.int .i64 0) := HOV.out.cell 4
                    have y5 : W5.cell? ⟨w.heap.size, 5, none⟩ = some (.int .i64 0) := HOV.out.cell 5
                    have y6 : W5.cell? ⟨w.heap.size, 6, none⟩ = some (.int .i64 0) := HOV.out.cell 6
                    have y7 : W5.cell? ⟨w.heap.size, 7, none⟩ = some (.int .i64 0) := HOV.out.cell 7
                    have y8 : W5.cell? ⟨w.heap.size, 8, none⟩ = some (.int .i64 0) := HOV.out.cell 8
                    refine bodyPost_ret (v := .tuple #[.agg #[.int .i64 0, .int .i64 0, .int .i64 0, .int .i64 0, .int .i64 0, .int .i64 0, .int .i64 0, .int .i64 0, .int .i64 0], .int .i64 3]) (by simp [results, Tryz.results9, go_sem, y0, y1, y2, y3, y4, y5, y6, y7, y8]) rfl ?_
                    rw [HT2.out]
                    exact ⟨rfl, below_byS HB9.out HGV.out⟩
              · have hfb : (w0 == [102, 117, 115, 101]) = false := beq_eq_false_iff_ne.2 hf
                have hcb : (w0 == [99, 114, 97, 115, 104]) = false := beq_eq_false_iff_ne.2 hc
                have hxe : x = ⟨1, zeroC, 0⟩ ∧ er = 3 := by
                  have h := HMC2.out
                  rw [if_neg (fun h => hf h.2), if_neg (fun h => hc h.2)] at h
                  injection h with h1 h2
                  exact ⟨h1, h2⟩
                obtain ⟨hx, rfl⟩ := hxe
                rw [← hx] at HX5
                clear hx HMC2 hf hc
                have HXT := HX5
                have HZT := HZ5
                have HBT := HB5
                have HET := HE5
                clear HX5 HZ5 HB5 HE5
                have x0 : w5.cell? ⟨b10, 0, none⟩ = some (.int .i64 x.k) := HXT.out.cell 0
                have x1 : w5.cell? ⟨b10, 1, none⟩ = some (.int .i64 x.c.k) := HXT.out.cell 1
                have x2 : w5.cell? ⟨b10, 2, none⟩ = some (.int .i64 x.c.i) := HXT.out.cell 2
                have x3 : w5.cell? ⟨b10, 3, none⟩ = some (.int .i64 x.c.m) := HXT.out.cell 3
                have x4 : w5.cell? ⟨b10, 4, none⟩ = some (.int .i64 x.c.o) := HXT.out.cell 4
                have x5 : w5.cell? ⟨b10, 5, none⟩ = some (.int .i64 x.c.s) := HXT.out.cell 5
                have x6 : w5.cell? ⟨b10, 6, none⟩ = some (.int .i64 x.c.q) := HXT.out.cell 6
                have x7 : w5.cell? ⟨b10, 7, none⟩ = some (.int .i64 x.c.p) := HXT.out.cell 7
                have x8 : w5.cell? ⟨b10, 8, none⟩ = some (.int .i64 x.n) := HXT.out.cell 8
                have HLN := Lib.hid (line_any x HXO.out w5 HET.out.s)
                unfold stV stCells at HLN
                have HT2 : Hid (T = (zeroS, 3)) := Lib.hid (by rw [HT.out]; unfold parseP; rw [HM.out]; exact if_neg (fun h => by have h1 := h.1; simp at h1))
                generalize (if rightS x = true then lineS x else []) = sx at HLN
                generalize errS x = fx at HLN
                go_wp2_with (go_at_call 6; refine HLN.out.mono ?_; rintro e w9 ⟨rfl, hb9⟩; have HZ9 := Lib.hid (HZT.out.below HLZ.out hb9); have HX9 := Lib.hid (HXT.out.below HLX.out hb9); have HB9 : Hid (Below w.heap.size w w9) := Lib.hid (HBT.out.trans (hb9.mono HBT.out.size)); clear hb9 HZT HXT HBT HLN x0 x1 x2 x3 x4 x5 x6 x7 x8; have z0 : w9.cell? ⟨w.heap.size, 0, none⟩ = some (.int .i64 0) := HZ9.out.cell 0; have z1 : w9.cell? ⟨w.heap.size, 1, none⟩ = some (.int .i64 0) := HZ9.out.cell 1; have z2 : w9.cell? ⟨w.heap.size, 2, none⟩ = some (.int .i64 0) := HZ9.out.cell 2; have z3 : w9.cell? ⟨w.heap.size, 3, none⟩ = some (.int .i64 0) := HZ9.out.cell 3; have z4 : w9.cell? ⟨w.heap.size, 4, none⟩ = some (.int .i64 0) := HZ9.out.cell 4; have z5 : w9.cell? ⟨w.heap.size, 5, none⟩ = some (.int .i64 0) := HZ9.out.cell 5; have z6 : w9.cell? ⟨w.heap.size, 6, none⟩ = some (.int .i64 0) := HZ9.out.cell 6; have z7 : w9.cell? ⟨w.heap.size, 7, none⟩ = some (.int .i64 0) := HZ9.out.cell 7; have z8 : w9.cell? ⟨w.heap.size, 8, none⟩ = some (.int .i64 0) := HZ9.out.cell 8; have zf := HZ9.out.fz; have x0 : w9.cell? ⟨b10, 0, none⟩ = some (.int .i64 x.k) := HX9.out.cell 0; have x1 : w9.cell? ⟨b10, 1, none⟩ = some (.int .i64 x.c.k) := HX9.out.cell 1; have x2 : w9.cell? ⟨b10, 2, none⟩ = some (.int .i64 x.c.i) := HX9.out.cell 2; have x3 : w9.cell? ⟨b10, 3, none⟩ = some (.int .i64 x.c.m) := HX9.out.cell 3; have x4 : w9.cell? ⟨b10, 4, none⟩ = some (.int .i64 x.c.o) := HX9.out.cell 4; have x5 : w9.cell? ⟨b10, 5, none⟩ = some (.int .i64 x.c.s) := HX9.out.cell 5; have x6 : w9.cell? ⟨b10, 6, none⟩ = some (.int .i64 x.c.q) := HX9.out.cell 6; have x7 : w9.cell? ⟨b10, 7, none⟩ = some (.int .i64 x.c.p) := HX9.out.cell 7; have x8 : w9.cell? ⟨b10, 8, none⟩ = some (.int .i64 x.n) := HX9.out.cell 8)
                obtain ⟨hov, hgv⟩ := HZ9.out.over zeroS
                obtain ⟨W5, hW5⟩ : ∃ W5, W5 = (World.setCell (World.setCell (World.setCell (World.setCell (World.setCell (World.setCell (World.setCell (World.setCell (World.setCell w9 ⟨w.heap.size, 0, none⟩ (.int .i64 0)) ⟨w.heap.size, 1, none⟩ (.int .i64 0)) ⟨w.heap.size, 2, none⟩ (.int .i64 0)) ⟨w.heap.size, 3, none⟩ (.int .i64 0)) ⟨w.heap.size, 4, none⟩ (.int .i64 0)) ⟨w.heap.size, 5, none⟩ (.int .i64 0)) ⟨w.heap.size, 6, none⟩ (.int .i64 0)) ⟨w.heap.size, 7, none⟩ (.int .i64 0)) ⟨w.heap.size, 8, none⟩ (.int .i64 0)) := ⟨_, rfl⟩
                have HOV : Hid (CsAt W5 w.heap.size (stCells zeroS)) := Lib.hid (by rw [hW5]; exact hov)
                have HGV : Hid (w9.grownBy W5 (some w.heap.size)) := Lib.hid (by rw [hW5]; exact hgv)
                rw [← hW5]
                clear hov hgv hW5
                have y0 : W5.cell? ⟨w.heap.size, 0, none⟩ = some (.int .i64 0) := HOV.out.cell 0
                have y1 : W5.cell? ⟨w.heap.size, 1, none⟩ = some (.int .i64 0) := HOV.out.cell 1
                have y2 : W5.cell? ⟨w.heap.size, 2, none⟩ = some (.int .i64 0) := HOV.out.cell 2
                have y3 : W5.cell? ⟨w.heap.size, 3, none⟩ = some (.int .i64 0) := HOV.out.cell 3
                have y4 : W5.cell? ⟨w.heap.size, 4, none⟩ = some (.int .i64 0) := HOV.out.cell 4
                have y5 : W5.cell? ⟨w.heap.size, 5, none⟩ = some (.int .i64 0) := HOV.out.cell 5
                have y6 : W5.cell? ⟨w.heap.size, 6, none⟩ = some (.int .i64 0) := HOV.out.cell 6
                have y7 : W5.cell? ⟨w.heap.size, 7, none⟩ = some (.int .i64 0) := HOV.out.cell 7
                have y8 : W5.cell? ⟨w.heap.size, 8, none⟩ = some (.int .i64 0) := HOV.out.cell 8
                refine bodyPost_ret (v := .tuple #[.agg #[.int .i64 0, .int .i64 0, .int .i64 0, .int .i64 0, .int .i64 0, .int .i64 0, .int .i64 0, .int .i64 0, .int .i64 0], .int .i64 3]) (by simp [results, Tryz.results9, go_sem, y0, y1, y2, y3, y4, y5, y6, y7, y8]) rfl ?_
                rw [HT2.out]
                exact ⟨rfl, below_byS HB9.out HGV.out⟩
          · have hlb : ((ns.length : Int) == 1) = false := by simpa using (show (ns.length : Int) ≠ 1 by omega)
            have hxe : x = ⟨1, zeroC, 0⟩ ∧ er = 3 := by
              have h := HMC2.out
              rw [if_neg (fun h => hl1 h.1), if_neg (fun h => hl1 h.1)] at h
              injection h with h1 h2
              exact ⟨h1, h2⟩
            obtain ⟨hx, rfl⟩ := hxe
            rw [← hx] at HX5
            clear hx HMC2
            have HXT := HX5
            have HZT := HZ5
            have HBT := HB5
            have HET := HE5
            clear HX5 HZ5 HB5 HE5
            have x0 : w5.cell? ⟨b10, 0, none⟩ = some (.int .i64 x.k) := HXT.out.cell 0
            have x1 : w5.cell? ⟨b10, 1, none⟩ = some (.int .i64 x.c.k) := HXT.out.cell 1
            have x2 : w5.cell? ⟨b10, 2, none⟩ = some (.int .i64 x.c.i) := HXT.out.cell 2
            have x3 : w5.cell? ⟨b10, 3, none⟩ = some (.int .i64 x.c.m) := HXT.out.cell 3
            have x4 : w5.cell? ⟨b10, 4, none⟩ = some (.int .i64 x.c.o) := HXT.out.cell 4
            have x5 : w5.cell? ⟨b10, 5, none⟩ = some (.int .i64 x.c.s) := HXT.out.cell 5
            have x6 : w5.cell? ⟨b10, 6, none⟩ = some (.int .i64 x.c.q) := HXT.out.cell 6
            have x7 : w5.cell? ⟨b10, 7, none⟩ = some (.int .i64 x.c.p) := HXT.out.cell 7
            have x8 : w5.cell? ⟨b10, 8, none⟩ = some (.int .i64 x.n) := HXT.out.cell 8
            have HLN := Lib.hid (line_any x HXO.out w5 HET.out.s)
            unfold stV stCells at HLN
            have HT2 : Hid (T = (zeroS, 3)) := Lib.hid (by rw [HT.out]; unfold parseP; rw [HM.out]; exact if_neg (fun h => by have h1 := h.1; simp at h1))
            generalize (if rightS x = true then lineS x else []) = sx at HLN
            generalize errS x = fx at HLN
            go_wp2_with (go_at_call 6; refine HLN.out.mono ?_; rintro e w9 ⟨rfl, hb9⟩; have HZ9 := Lib.hid (HZT.out.below HLZ.out hb9); have HX9 := Lib.hid (HXT.out.below HLX.out hb9); have HB9 : Hid (Below w.heap.size w w9) := Lib.hid (HBT.out.trans (hb9.mono HBT.out.size)); clear hb9 HZT HXT HBT HLN x0 x1 x2 x3 x4 x5 x6 x7 x8; have z0 : w9.cell? ⟨w.heap.size, 0, none⟩ = some (.int .i64 0) := HZ9.out.cell 0; have z1 : w9.cell? ⟨w.heap.size, 1, none⟩ = some (.int .i64 0) := HZ9.out.cell 1; have z2 : w9.cell? ⟨w.heap.size, 2, none⟩ = some (.int .i64 0) := HZ9.out.cell 2; have z3 : w9.cell? ⟨w.heap.size, 3, none⟩ = some (.int .i64 0) := HZ9.out.cell 3; have z4 : w9.cell? ⟨w.heap.size, 4, none⟩ = some (.int .i64 0) := HZ9.out.cell 4; have z5 : w9.cell? ⟨w.heap.size, 5, none⟩ = some (.int .i64 0) := HZ9.out.cell 5; have z6 : w9.cell? ⟨w.heap.size, 6, none⟩ = some (.int .i64 0) := HZ9.out.cell 6; have z7 : w9.cell? ⟨w.heap.size, 7, none⟩ = some (.int .i64 0) := HZ9.out.cell 7; have z8 : w9.cell? ⟨w.heap.size, 8, none⟩ = some (.int .i64 0) := HZ9.out.cell 8; have zf := HZ9.out.fz; have x0 : w9.cell? ⟨b10, 0, none⟩ = some (.int .i64 x.k) := HX9.out.cell 0; have x1 : w9.cell? ⟨b10, 1, none⟩ = some (.int .i64 x.c.k) := HX9.out.cell 1; have x2 : w9.cell? ⟨b10, 2, none⟩ = some (.int .i64 x.c.i) := HX9.out.cell 2; have x3 : w9.cell? ⟨b10, 3, none⟩ = some (.int .i64 x.c.m) := HX9.out.cell 3; have x4 : w9.cell? ⟨b10, 4, none⟩ = some (.int .i64 x.c.o) := HX9.out.cell 4; have x5 : w9.cell? ⟨b10, 5, none⟩ = some (.int .i64 x.c.s) := HX9.out.cell 5; have x6 : w9.cell? ⟨b10, 6, none⟩ = some (.int .i64 x.c.q) := HX9.out.cell 6; have x7 : w9.cell? ⟨b10, 7, none⟩ = some (.int .i64 x.c.p) := HX9.out.cell 7; have x8 : w9.cell? ⟨b10, 8, none⟩ = some (.int .i64 x.n) := HX9.out.cell 8)
            obtain ⟨hov, hgv⟩ := HZ9.out.over zeroS
            obtain ⟨W5, hW5⟩ : ∃ W5, W5 = (World.setCell (World.setCell (World.setCell (World.setCell (World.setCell (World.setCell (World.setCell (World.setCell (World.setCell w9 ⟨w.heap.size, 0, none⟩ (.int .i64 0)) ⟨w.heap.size, 1, none⟩ (.int .i64 0)) ⟨w.heap.size, 2, none⟩ (.int .i64 0)) ⟨w.heap.size, 3, none⟩ (.int .i64 0)) ⟨w.heap.size, 4, none⟩ (.int .i64 0)) ⟨w.heap.size, 5, none⟩ (.int .i64 0)) ⟨w.heap.size, 6, none⟩ (.int .i64 0)) ⟨w.heap.size, 7, none⟩ (.int .i64 0)) ⟨w.heap.size, 8, none⟩ (.int .i64 0)) := ⟨_, rfl⟩
            have HOV : Hid (CsAt W5 w.heap.size (stCells zeroS)) := Lib.hid (by rw [hW5]; exact hov)
            have HGV : Hid (w9.grownBy W5 (some w.heap.size)) := Lib.hid (by rw [hW5]; exact hgv)
            rw [← hW5]
            clear hov hgv hW5
            have y0 : W5.cell? ⟨w.heap.size, 0, none⟩ = some (.int .i64 0) := HOV.out.cell 0
            have y1 : W5.cell? ⟨w.heap.size, 1, none⟩ = some (.int .i64 0) := HOV.out.cell 1
            have y2 : W5.cell? ⟨w.heap.size, 2, none⟩ = some (.int .i64 0) := HOV.out.cell 2
            have y3 : W5.cell? ⟨w.heap.size, 3, none⟩ = some (.int .i64 0) := HOV.out.cell 3
            have y4 : W5.cell? ⟨w.heap.size, 4, none⟩ = some (.int .i64 0) := HOV.out.cell 4
            have y5 : W5.cell? ⟨w.heap.size, 5, none⟩ = some (.int .i64 0) := HOV.out.cell 5
            have y6 : W5.cell? ⟨w.heap.size, 6, none⟩ = some (.int .i64 0) := HOV.out.cell 6
            have y7 : W5.cell? ⟨w.heap.size, 7, none⟩ = some (.int .i64 0) := HOV.out.cell 7
            have y8 : W5.cell? ⟨w.heap.size, 8, none⟩ = some (.int .i64 0) := HOV.out.cell 8
            refine bodyPost_ret (v := .tuple #[.agg #[.int .i64 0, .int .i64 0, .int .i64 0, .int .i64 0, .int .i64 0, .int .i64 0, .int .i64 0, .int .i64 0, .int .i64 0], .int .i64 3]) (by simp [results, Tryz.results9, go_sem, y0, y1, y2, y3, y4, y5, y6, y7, y8]) rfl ?_
            rw [HT2.out]
            exact ⟨rfl, below_byS HB9.out HGV.out⟩
        · have hKb : (K != 0) = true := by simpa using hK
          have hxe : (x, er) = ((⟨1, (getC (putN (K : Int) ++ (ns.map (·.1)).flatMap putN)).1, 0⟩ : St), (getC (putN (K : Int) ++ (ns.map (·.1)).flatMap putN)).2) := by
            have h := HMC.out
            rw [hr, if_pos rfl, if_pos hK] at h
            exact h
          injection hxe with hx her
          have hik : I64 (K : Int) := by unfold I64; omega
          have hin : ∀ n ∈ ns.map (·.1), I64 n := by
            intro n hn
            obtain ⟨y, hy, rfl⟩ := List.mem_map.1 hn
            rw [← HNS.out] at hy
            obtain ⟨sk, _, rfl⟩ := List.mem_map.1 hy
            exact pI_in sk
          have hpl := putN_len hik
          have hfl := flat_len _ hin
          rw [List.length_map] at hfl
          have HPU := Lib.hid (fun W => put_any (K : Int) W hik)
          have HSG := Lib.hid (Seg.of_own HO.out)
          have HAL0 : Hid (∀ W, Seg W W.heap.size Au ((ns.map (·.1)).map (Value.int .i64)) → Calls Tryz.prog 29 #[.slice Au ns.length cu] W fun e w' => e = .returned (.string (bs ((ns.map (·.1)).flatMap putN))) ∧ Below W.heap.size W w') := Lib.hid fun W hW => by
            have h := all_any (ns.map (·.1)) Au cu W hW hin (by rw [List.length_map]; omega)
            rw [List.length_map] at h
            exact h
          have HGE := Lib.hid (fun W => cget_any (putN (K : Int) ++ (ns.map (·.1)).flatMap putN) W (by rw [List.length_append]; omega))
          unfold cmV at HGE
          generalize hss : getC (putN (K : Int) ++ (ns.map (·.1)).flatMap putN) = GC at *
          obtain ⟨c, ec⟩ := GC
          simp only at hx her HGE
          subst her
          clear hss hin HMC hr hK HNS
          generalize (ns.map (·.1)).flatMap putN = pf at *
          generalize putN (K : Int) = pk at *
          have hs1 := bs_size pk
          have hs2 := bs_size pf
          have hap := bs_append pk pf
          have hbig : ¬ 9223372036854775807 < pk.length + pf.length := by omega
          clear hpl hfl hik
          go_upto_region 15 with fail
          have hgb : g + 1 < w5.heap.size := World.block_lt_of_cell? w5 _ d6
          have hgne : g + 1 ≠ b10 := by omega
          have HAL : Hid (∀ W, Below w5.heap.size w5 W → Calls Tryz.prog 29 #[.slice Au ns.length cu] W fun e w' => e = .returned (.string (bs pf)) ∧ Below W.heap.size W w') := Lib.hid fun W hW => HAL0.out W ((HSG.out.below hW).mono hW.size)
          have HSK : Hid (∀ W, Below w5.heap.size w5 W → W.cell? ⟨g + 1, 0, none⟩ = some (.slice Au ns.length cu)) := Lib.hid fun W hW => (hW.cell (p := ⟨g + 1, 0, none⟩) hgb).trans d6
          have HSK9 : Hid (∀ W W', Below w5.heap.size w5 W → W.grownBy W' (some b10) → W'.cell? ⟨g + 1, 0, none⟩ = some (.slice Au ns.length cu)) := Lib.hid fun W W' hW hg => (World.cell?_of_block (a := ⟨g + 1, 0, none⟩) (hg.block (g + 1) (Nat.lt_of_lt_of_le hgb hW.size) (fun e => hgne (by injection e)))).trans ((hW.cell (p := ⟨g + 1, 0, none⟩) hgb).trans d6)
          have hbd : Below w5.heap.size w5 w5.drew := (Below.refl _ _).drew
          clear d5 q5 q0 HSG HAL0
          go_region_held3 (fun W => W.cell? ⟨g + 1, 0, none⟩ = some (.slice Au ns.length cu)) (first | (with_reducible exact HSK.out _ hbd) | (with_reducible exact HSK.out _ hb6) | (with_reducible exact HSK.out _ hb7) | (with_reducible exact HSK.out _ hb8) | (with_reducible exact HSK9.out _ _ hb8 hov.2)) ((first | (go_at_call 28; refine (HPU.out _).mono ?_; rintro e w6 ⟨rfl, hb⟩; have hb6 : Below w5.heap.size w5 w6 := hbd.trans (hb.mono hbd.size); clear hb) | (go_at_call 29; refine (HAL.out _ hb6).mono ?_; rintro e w7 ⟨rfl, hb⟩; have hb7 : Below w5.heap.size w5 w7 := hb6.trans (hb.mono hb6.size); clear hb) | (go_at_call 27; refine (HGE.out _).mono ?_; rintro e w8 ⟨rfl, hb⟩; have hb8 : Below w5.heap.size w5 w8 := hb7.trans (hb.mono hb7.size); clear hb; have HX8 := Lib.hid (HX5.out.below HLX.out hb8); have b1 : w8.cell? ⟨b10, 1, none⟩ = some (.int .i64 0) := HX8.out.cell 1; have b2 : w8.cell? ⟨b10, 2, none⟩ = some (.int .i64 0) := HX8.out.cell 2; have b3 : w8.cell? ⟨b10, 3, none⟩ = some (.int .i64 0) := HX8.out.cell 3; have b4 : w8.cell? ⟨b10, 4, none⟩ = some (.int .i64 0) := HX8.out.cell 4; have b5 : w8.cell? ⟨b10, 5, none⟩ = some (.int .i64 0) := HX8.out.cell 5; have b6 : w8.cell? ⟨b10, 6, none⟩ = some (.int .i64 0) := HX8.out.cell 6; have b7 : w8.cell? ⟨b10, 7, none⟩ = some (.int .i64 0) := HX8.out.cell 7; have bf := HX8.out.fz; have hov := HX8.out.overC c)))
          clear b1 b2 b3 b4 b5 b6 b7 bf HSK HSK9 HGE HPU HAL hb6 hb7 HP5 HUB HO
          have HXT : Hid (CsAt (World.setCell (World.setCell (World.setCell (World.setCell (World.setCell (World.setCell (World.setCell w8 ⟨b10, 1, none⟩ (.int .i64 c.k)) ⟨b10, 2, none⟩ (.int .i64 c.i)) ⟨b10, 3, none⟩ (.int .i64 c.m)) ⟨b10, 4, none⟩ (.int .i64 c.o)) ⟨b10, 5, none⟩ (.int .i64 c.s)) ⟨b10, 6, none⟩ (.int .i64 c.q)) ⟨b10, 7, none⟩ (.int .i64 c.p)) b10 (stCells x)) := Lib.hid (by rw [hx]; exact hov.1)
          have HZ8 := Lib.hid (HZ5.out.below HLZ.out hb8)
          have HZT : Hid (CsAt (World.setCell (World.setCell (World.setCell (World.setCell (World.setCell (World.setCell (World.setCell w8 ⟨b10, 1, none⟩ (.int .i64 c.k)) ⟨b10, 2, none⟩ (.int .i64 c.i)) ⟨b10, 3, none⟩ (.int .i64 c.m)) ⟨b10, 4, none⟩ (.int .i64 c.o)) ⟨b10, 5, none⟩ (.int .i64 c.s)) ⟨b10, 6, none⟩ (.int .i64 c.q)) ⟨b10, 7, none⟩ (.int .i64 c.p)) w.heap.size (stCells zeroS)) := Lib.hid (HZ8.out.kept hov.2 (Nat.lt_of_lt_of_le HLZ.out hb8.size) (fun e => by injection e with e; omega))
          have HBT : Hid (Below w.heap.size w (World.setCell (World.setCell (World.setCell (World.setCell (World.setCell (World.setCell (World.setCell w8 ⟨b10, 1, none⟩ (.int .i64 c.k)) ⟨b10, 2, none⟩ (.int .i64 c.i)) ⟨b10, 3, none⟩ (.int .i64 c.m)) ⟨b10, 4, none⟩ (.int .i64 c.o)) ⟨b10, 5, none⟩ (.int .i64 c.s)) ⟨b10, 6, none⟩ (.int .i64 c.q)) ⟨b10, 7, none⟩ (.int .i64 c.p))) := Lib.hid ((HB5.out.trans (hb8.mono HB5.out.size)).grown hov.2 (Nat.le_trans HB5.out.size hb8.size) (fun k hk => by injection hk with hk; omega))
          have HET := Lib.hid (HE.out.below HBT.out)
          have HLX2 : Hid (b10 < (World.heap (World.setCell (World.setCell (World.setCell (World.setCell (World.setCell (World.setCell (World.setCell w8 ⟨b10, 1, none⟩ (.int .i64 c.k)) ⟨b10, 2, none⟩ (.int .i64 c.i)) ⟨b10, 3, none⟩ (.int .i64 c.m)) ⟨b10, 4, none⟩ (.int .i64 c.o)) ⟨b10, 5, none⟩ (.int .i64 c.s)) ⟨b10, 6, none⟩ (.int .i64 c.q)) ⟨b10, 7, none⟩ (.int .i64 c.p))).size) := Lib.hid (Nat.lt_of_lt_of_le HLX.out (Nat.le_trans hb8.size hov.2.size))
          have HLZ2 : Hid (w.heap.size < (World.heap (World.setCell (World.setCell (World.setCell (World.setCell (World.setCell (World.setCell (World.setCell w8 ⟨b10, 1, none⟩ (.int .i64 c.k)) ⟨b10, 2, none⟩ (.int .i64 c.i)) ⟨b10, 3, none⟩ (.int .i64 c.m)) ⟨b10, 4, none⟩ (.int .i64 c.o)) ⟨b10, 5, none⟩ (.int .i64 c.s)) ⟨b10, 6, none⟩ (.int .i64 c.q)) ⟨b10, 7, none⟩ (.int .i64 c.p))).size) := Lib.hid (Nat.lt_of_lt_of_le HLZ.out (Nat.le_trans hb8.size hov.2.size))
          clear hov HX5 HZ5 HB5 HE5 HLX HLZ HX8 HZ8 hx hb8 hbd
          have HLX := HLX2
          have HLZ := HLZ2
          clear HLX2 HLZ2
          generalize (World.setCell (World.setCell (World.setCell (World.setCell (World.setCell (World.setCell (World.setCell w8 ⟨b10, 1, none⟩ (.int .i64 c.k)) ⟨b10, 2, none⟩ (.int .i64 c.i)) ⟨b10, 3, none⟩ (.int .i64 c.m)) ⟨b10, 4, none⟩ (.int .i64 c.o)) ⟨b10, 5, none⟩ (.int .i64 c.s)) ⟨b10, 6, none⟩ (.int .i64 c.q)) ⟨b10, 7, none⟩ (.int .i64 c.p)) = w6 at *
          by_cases he0 : er = 0
          · subst he0
            have x0 : w6.cell? ⟨b10, 0, none⟩ = some (.int .i64 x.k) := HXT.out.cell 0
            have x1 : w6.cell? ⟨b10, 1, none⟩ = some (.int .i64 x.c.k) := HXT.out.cell 1
            have x2 : w6.cell? ⟨b10, 2, none⟩ = some (.int .i64 x.c.i) := HXT.out.cell 2
            have x3 : w6.cell? ⟨b10, 3, none⟩ = some (.int .i64 x.c.m) := HXT.out.cell 3
            have x4 : w6.cell? ⟨b10, 4, none⟩ = some (.int .i64 x.c.o) := HXT.out.cell 4
            have x5 : w6.cell? ⟨b10, 5, none⟩ = some (.int .i64 x.c.s) := HXT.out.cell 5
            have x6 : w6.cell? ⟨b10, 6, none⟩ = some (.int .i64 x.c.q) := HXT.out.cell 6
            have x7 : w6.cell? ⟨b10, 7, none⟩ = some (.int .i64 x.c.p) := HXT.out.cell 7
            have x8 : w6.cell? ⟨b10, 8, none⟩ = some (.int .i64 x.n) := HXT.out.cell 8
            have HLN := Lib.hid (line_any x HXO.out w6 HET.out.s)
            unfold stV stCells at HLN
            cases hr : rightS x with
            | false =>
              have hes : errS x = 3 := by unfold errS; rw [hr]; rfl
              rw [hr, hes] at HLN
              have HT2 : Hid (T = (zeroS, 3)) := Lib.hid (by rw [HT.out]; unfold parseP; rw [HM.out]; exact if_neg (fun h => by have h2 := h.2.1; simp only at h2; rw [hr] at h2; cases h2))
              clear hr hes
              go_wp2_with (go_at_call 6; refine HLN.out.mono ?_; rintro e w9 ⟨rfl, hb9⟩; have HZ9 := Lib.hid (HZT.out.below HLZ.out hb9); have HX9 := Lib.hid (HXT.out.below HLX.out hb9); have HB9 : Hid (Below w.heap.size w w9) := Lib.hid (HBT.out.trans (hb9.mono HBT.out.size)); clear hb9 HZT HXT HBT HLN x0 x1 x2 x3 x4 x5 x6 x7 x8; have z0 : w9.cell? ⟨w.heap.size, 0, none⟩ = some (.int .i64 0) := HZ9.out.cell 0; have z1 : w9.cell? ⟨w.heap.size, 1, none⟩ = some (.int .i64 0) := HZ9.out.cell 1; have z2 : w9.cell? ⟨w.heap.size, 2, none⟩ = some (.int .i64 0) := HZ9.out.cell 2; have z3 : w9.cell? ⟨w.heap.size, 3, none⟩ = some (.int .i64 0) := HZ9.out.cell 3; have z4 : w9.cell? ⟨w.heap.size, 4, none⟩ = some (.int .i64 0) := HZ9.out.cell 4; have z5 : w9.cell? ⟨w.heap.size, 5, none⟩ = some (.int .i64 0) := HZ9.out.cell 5; have z6 : w9.cell? ⟨w.heap.size, 6, none⟩ = some (.int .i64 0) := HZ9.out.cell 6; have z7 : w9.cell? ⟨w.heap.size, 7, none⟩ = some (.int .i64 0) := HZ9.out.cell 7; have z8 : w9.cell? ⟨w.heap.size, 8, none⟩ = some (.int .i64 0) := HZ9.out.cell 8; have zf := HZ9.out.fz; have x0 : w9.cell? ⟨b10, 0, none⟩ = some (.int .i64 x.k) := HX9.out.cell 0; have x1 : w9.cell? ⟨b10, 1, none⟩ = some (.int .i64 x.c.k) := HX9.out.cell 1; have x2 : w9.cell? ⟨b10, 2, none⟩ = some (.int .i64 x.c.i) := HX9.out.cell 2; have x3 : w9.cell? ⟨b10, 3, none⟩ = some (.int .i64 x.c.m) := HX9.out.cell 3; have x4 : w9.cell? ⟨b10, 4, none⟩ = some (.int .i64 x.c.o) := HX9.out.cell 4; have x5 : w9.cell? ⟨b10, 5, none⟩ = some (.int .i64 x.c.s) := HX9.out.cell 5; have x6 : w9.cell? ⟨b10, 6, none⟩ = some (.int .i64 x.c.q) := HX9.out.cell 6; have x7 : w9.cell? ⟨b10, 7, none⟩ = some (.int .i64 x.c.p) := HX9.out.cell 7; have x8 : w9.cell? ⟨b10, 8, none⟩ = some (.int .i64 x.n) := HX9.out.cell 8)
              obtain ⟨hov, hgv⟩ := HZ9.out.over zeroS
              obtain ⟨W5, hW5⟩ : ∃ W5, W5 = (World.setCell (World.setCell (World.setCell (World.setCell (World.setCell (World.setCell (World.setCell (World.setCell (World.setCell w9 ⟨w.heap.size, 0, none⟩ (.int .i64 0)) ⟨w.heap.size, 1, none⟩ (.int .i64 0)) ⟨w.heap.size, 2, none⟩ (.int .i64 0)) ⟨w.heap.size, 3, none⟩ (.int .i64 0)) ⟨w.heap.size, 4, none⟩ (.int .i64 0)) ⟨w.heap.size, 5, none⟩ (.int .i64 0)) ⟨w.heap.size, 6, none⟩ (.int .i64 0)) ⟨w.heap.size, 7, none⟩ (.int .i64 0)) ⟨w.heap.size, 8, none⟩ (.int .i64 0)) := ⟨_, rfl⟩
              have HOV : Hid (CsAt W5 w.heap.size (stCells zeroS)) := Lib.hid (by rw [hW5]; exact hov)
              have HGV : Hid (w9.grownBy W5 (some w.heap.size)) := Lib.hid (by rw [hW5]; exact hgv)
              rw [← hW5]
              clear hov hgv hW5
              have y0 : W5.cell? ⟨w.heap.size, 0, none⟩ = some (.int .i64 0) := HOV.out.cell 0
              have y1 : W5.cell? ⟨w.heap.size, 1, none⟩ = some (.int .i64 0) := HOV.out.cell 1
              have y2 : W5.cell? ⟨w.heap.size, 2, none⟩ = some (.int .i64 0) := HOV.out.cell 2
              have y3 : W5.cell? ⟨w.heap.size, 3, none⟩ = some (.int .i64 0) := HOV.out.cell 3
              have y4 : W5.cell? ⟨w.heap.size, 4, none⟩ = some (.int .i64 0) := HOV.out.cell 4
              have y5 : W5.cell? ⟨w.heap.size, 5, none⟩ = some (.int .i64 0) := HOV.out.cell 5
              have y6 : W5.cell? ⟨w.heap.size, 6, none⟩ = some (.int .i64 0) := HOV.out.cell 6
              have y7 : W5.cell? ⟨w.heap.size, 7, none⟩ = some (.int .i64 0) := HOV.out.cell 7
              have y8 : W5.cell? ⟨w.heap.size, 8, none⟩ = some (.int .i64 0) := HOV.out.cell 8
              refine bodyPost_ret (v := .tuple #[.agg #[.int .i64 0, .int .i64 0, .int .i64 0, .int .i64 0, .int .i64 0, .int .i64 0, .int .i64 0, .int .i64 0, .int .i64 0], .int .i64 3]) (by simp [results, Tryz.results9, go_sem, y0, y1, y2, y3, y4, y5, y6, y7, y8]) rfl ?_
              rw [HT2.out]
              exact ⟨rfl, below_byS HB9.out HGV.out⟩
            | true =>
              have hes : errS x = 0 := by unfold errS; rw [hr]; rfl
              rw [hr, hes, if_pos rfl] at HLN
              obtain ⟨L, hL⟩ : ∃ L, L = lineS x := ⟨_, rfl⟩
              rw [← hL] at HLN
              by_cases hl2 : L = line
              · have HT2 : Hid (T = (x, 0)) := Lib.hid (by rw [HT.out]; unfold parseP; rw [HM.out]; exact if_pos ⟨rfl, hr, by rw [← hL]; exact hl2⟩)
                have t1 : (L != line) = false := by simp [hl2]
                have t2 : (L == line) = true := by simp [hl2]
                have HLL := Lib.hid hl2
                clear hr hes hl2 hL
                go_wp2_with (go_at_call 6; refine HLN.out.mono ?_; rintro e w9 ⟨rfl, hb9⟩; have HZ9 := Lib.hid (HZT.out.below HLZ.out hb9); have HX9 := Lib.hid (HXT.out.below HLX.out hb9); have HB9 : Hid (Below w.heap.size w w9) := Lib.hid (HBT.out.trans (hb9.mono HBT.out.size)); clear hb9 HZT HXT HBT HLN x0 x1 x2 x3 x4 x5 x6 x7 x8; have z0 : w9.cell? ⟨w.heap.size, 0, none⟩ = some (.int .i64 0) := HZ9.out.cell 0; have z1 : w9.cell? ⟨w.heap.size, 1, none⟩ = some (.int .i64 0) := HZ9.out.cell 1; have z2 : w9.cell? ⟨w.heap.size, 2, none⟩ = some (.int .i64 0) := HZ9.out.cell 2; have z3 : w9.cell? ⟨w.heap.size, 3, none⟩ = some (.int .i64 0) := HZ9.out.cell 3; have z4 : w9.cell? ⟨w.heap.size, 4, none⟩ = some (.int .i64 0) := HZ9.out.cell 4; have z5 : w9.cell? ⟨w.heap.size, 5, none⟩ = some (.int .i64 0) := HZ9.out.cell 5; have z6 : w9.cell? ⟨w.heap.size, 6, none⟩ = some (.int .i64 0) := HZ9.out.cell 6; have z7 : w9.cell? ⟨w.heap.size, 7, none⟩ = some (.int .i64 0) := HZ9.out.cell 7; have z8 : w9.cell? ⟨w.heap.size, 8, none⟩ = some (.int .i64 0) := HZ9.out.cell 8; have zf := HZ9.out.fz; have x0 : w9.cell? ⟨b10, 0, none⟩ = some (.int .i64 x.k) := HX9.out.cell 0; have x1 : w9.cell? ⟨b10, 1, none⟩ = some (.int .i64 x.c.k) := HX9.out.cell 1; have x2 : w9.cell? ⟨b10, 2, none⟩ = some (.int .i64 x.c.i) := HX9.out.cell 2; have x3 : w9.cell? ⟨b10, 3, none⟩ = some (.int .i64 x.c.m) := HX9.out.cell 3; have x4 : w9.cell? ⟨b10, 4, none⟩ = some (.int .i64 x.c.o) := HX9.out.cell 4; have x5 : w9.cell? ⟨b10, 5, none⟩ = some (.int .i64 x.c.s) := HX9.out.cell 5; have x6 : w9.cell? ⟨b10, 6, none⟩ = some (.int .i64 x.c.q) := HX9.out.cell 6; have x7 : w9.cell? ⟨b10, 7, none⟩ = some (.int .i64 x.c.p) := HX9.out.cell 7; have x8 : w9.cell? ⟨b10, 8, none⟩ = some (.int .i64 x.n) := HX9.out.cell 8)
                obtain ⟨hov, hgv⟩ := HZ9.out.over x
                obtain ⟨W5, hW5⟩ : ∃ W5, W5 = (World.setCell (World.setCell (World.setCell (World.setCell (World.setCell (World.setCell (World.setCell (World.setCell (World.setCell w9 ⟨w.heap.size, 0, none⟩ (.int .i64 x.k)) ⟨w.heap.size, 1, none⟩ (.int .i64 x.c.k)) ⟨w.heap.size, 2, none⟩ (.int .i64 x.c.i)) ⟨w.heap.size, 3, none⟩ (.int .i64 x.c.m)) ⟨w.heap.size, 4, none⟩ (.int .i64 x.c.o)) ⟨w.heap.size, 5, none⟩ (.int .i64 x.c.s)) ⟨w.heap.size, 6, none⟩ (.int .i64 x.c.q)) ⟨w.heap.size, 7, none⟩ (.int .i64 x.c.p)) ⟨w.heap.size, 8, none⟩ (.int .i64 x.n)) := ⟨_, rfl⟩
                have HOV : Hid (CsAt W5 w.heap.size (stCells x)) := Lib.hid (by rw [hW5]; exact hov)
                have HGV : Hid (w9.grownBy W5 (some w.heap.size)) := Lib.hid (by rw [hW5]; exact hgv)
                rw [← hW5]
                clear hov hgv hW5
                have y0 : W5.cell? ⟨w.heap.size, 0, none⟩ = some (.int .i64 x.k) := HOV.out.cell 0
                have y1 : W5.cell? ⟨w.heap.size, 1, none⟩ = some (.int .i64 x.c.k) := HOV.out.cell 1
                have y2 : W5.cell? ⟨w.heap.size, 2, none⟩ = some (.int .i64 x.c.i) := HOV.out.cell 2
                have y3 : W5.cell? ⟨w.heap.size, 3, none⟩ = some (.int .i64 x.c.m) := HOV.out.cell 3
                have y4 : W5.cell? ⟨w.heap.size, 4, none⟩ = some (.int .i64 x.c.o) := HOV.out.cell 4
                have y5 : W5.cell? ⟨w.heap.size, 5, none⟩ = some (.int .i64 x.c.s) := HOV.out.cell 5
                have y6 : W5.cell? ⟨w.heap.size, 6, none⟩ = some (.int .i64 x.c.q) := HOV.out.cell 6
                have y7 : W5.cell? ⟨w.heap.size, 7, none⟩ = some (.int .i64 x.c.p) := HOV.out.cell 7
                have y8 : W5.cell? ⟨w.heap.size, 8, none⟩ = some (.int .i64 x.n) := HOV.out.cell 8
                refine bodyPost_ret (v := .tuple #[.agg #[.int .i64 x.k, .int .i64 x.c.k, .int .i64 x.c.i, .int .i64 x.c.m, .int .i64 x.c.o, .int .i64 x.c.s, .int .i64 x.c.q, .int .i64 x.c.p, .int .i64 x.n], .int .i64 0]) (by simp [results, Tryz.results9, go_sem, y0, y1, y2, y3, y4, y5, y6, y7, y8]) rfl ?_
                rw [HT2.out]
                exact ⟨rfl, below_byS HB9.out HGV.out⟩
              · have HT2 : Hid (T = (zeroS, 3)) := Lib.hid (by rw [HT.out]; unfold parseP; rw [HM.out]; exact if_neg (fun h => hl2 (by rw [hL]; exact h.2.2)))
                have t1 : (L != line) = true := by simpa using hl2
                have t2 : (L == line) = false := by simpa using hl2
                clear hr hes hl2 hL
                go_wp2_with (go_at_call 6; refine HLN.out.mono ?_; rintro e w9 ⟨rfl, hb9⟩; have HZ9 := Lib.hid (HZT.out.below HLZ.out hb9); have HX9 := Lib.hid (HXT.out.below HLX.out hb9); have HB9 : Hid (Below w.heap.size w w9) := Lib.hid (HBT.out.trans (hb9.mono HBT.out.size)); clear hb9 HZT HXT HBT HLN x0 x1 x2 x3 x4 x5 x6 x7 x8; have z0 : w9.cell? ⟨w.heap.size, 0, none⟩ = some (.int .i64 0) := HZ9.out.cell 0; have z1 : w9.cell? ⟨w.heap.size, 1, none⟩ = some (.int .i64 0) := HZ9.out.cell 1; have z2 : w9.cell? ⟨w.heap.size, 2, none⟩ = some (.int .i64 0) := HZ9.out.cell 2; have z3 : w9.cell? ⟨w.heap.size, 3, none⟩ = some (.int .i64 0) := HZ9.out.cell 3; have z4 : w9.cell? ⟨w.heap.size, 4, none⟩ = some (.int .i64 0) := HZ9.out.cell 4; have z5 : w9.cell? ⟨w.heap.size, 5, none⟩ = some (.int .i64 0) := HZ9.out.cell 5; have z6 : w9.cell? ⟨w.heap.size, 6, none⟩ = some (.int .i64 0) := HZ9.out.cell 6; have z7 : w9.cell? ⟨w.heap.size, 7, none⟩ = some (.int .i64 0) := HZ9.out.cell 7; have z8 : w9.cell? ⟨w.heap.size, 8, none⟩ = some (.int .i64 0) := HZ9.out.cell 8; have zf := HZ9.out.fz; have x0 : w9.cell? ⟨b10, 0, none⟩ = some (.int .i64 x.k) := HX9.out.cell 0; have x1 : w9.cell? ⟨b10, 1, none⟩ = some (.int .i64 x.c.k) := HX9.out.cell 1; have x2 : w9.cell? ⟨b10, 2, none⟩ = some (.int .i64 x.c.i) := HX9.out.cell 2; have x3 : w9.cell? ⟨b10, 3, none⟩ = some (.int .i64 x.c.m) := HX9.out.cell 3; have x4 : w9.cell? ⟨b10, 4, none⟩ = some (.int .i64 x.c.o) := HX9.out.cell 4; have x5 : w9.cell? ⟨b10, 5, none⟩ = some (.int .i64 x.c.s) := HX9.out.cell 5; have x6 : w9.cell? ⟨b10, 6, none⟩ = some (.int .i64 x.c.q) := HX9.out.cell 6; have x7 : w9.cell? ⟨b10, 7, none⟩ = some (.int .i64 x.c.p) := HX9.out.cell 7; have x8 : w9.cell? ⟨b10, 8, none⟩ = some (.int .i64 x.n) := HX9.out.cell 8)
                obtain ⟨hov, hgv⟩ := HZ9.out.over zeroS
                obtain ⟨W5, hW5⟩ : ∃ W5, W5 = (World.setCell (World.setCell (World.setCell (World.setCell (World.setCell (World.setCell (World.setCell (World.setCell (World.setCell w9 ⟨w.heap.size, 0, none⟩ (.int .i64 0)) ⟨w.heap.size, 1, none⟩ (.int .i64 0)) ⟨w.heap.size, 2, none⟩ (.int .i64 0)) ⟨w.heap.size, 3, none⟩ (.int .i64 0)) ⟨w.heap.size, 4, none⟩ (.int .i64 0)) ⟨w.heap.size, 5, none⟩ (.int .i64 0)) ⟨w.heap.size, 6, none⟩ (.int .i64 0)) ⟨w.heap.size, 7, none⟩ (.int .i64 0)) ⟨w.heap.size, 8, none⟩ (.int .i64 0)) := ⟨_, rfl⟩
                have HOV : Hid (CsAt W5 w.heap.size (stCells zeroS)) := Lib.hid (by rw [hW5]; exact hov)
                have HGV : Hid (w9.grownBy W5 (some w.heap.size)) := Lib.hid (by rw [hW5]; exact hgv)
                rw [← hW5]
                clear hov hgv hW5
                have y0 : W5.cell? ⟨w.heap.size, 0, none⟩ = some (.int .i64 0) := HOV.out.cell 0
                have y1 : W5.cell? ⟨w.heap.size, 1, none⟩ = some (.int .i64 0) := HOV.out.cell 1
                have y2 : W5.cell? ⟨w.heap.size, 2, none⟩ = some (.int .i64 0) := HOV.out.cell 2
                have y3 : W5.cell? ⟨w.heap.size, 3, none⟩ = some (.int .i64 0) := HOV.out.cell 3
                have y4 : W5.cell? ⟨w.heap.size, 4, none⟩ = some (.int .i64 0) := HOV.out.cell 4
                have y5 : W5.cell? ⟨w.heap.size, 5, none⟩ = some (.int .i64 0) := HOV.out.cell 5
                have y6 : W5.cell? ⟨w.heap.size, 6, none⟩ = some (.int .i64 0) := HOV.out.cell 6
                have y7 : W5.cell? ⟨w.heap.size, 7, none⟩ = some (.int .i64 0) := HOV.out.cell 7
                have y8 : W5.cell? ⟨w.heap.size, 8, none⟩ = some (.int .i64 0) := HOV.out.cell 8
                refine bodyPost_ret (v := .tuple #[.agg #[.int .i64 0, .int .i64 0, .int .i64 0, .int .i64 0, .int .i64 0, .int .i64 0, .int .i64 0, .int .i64 0, .int .i64 0], .int .i64 3]) (by simp [results, Tryz.results9, go_sem, y0, y1, y2, y3, y4, y5, y6, y7, y8]) rfl ?_
                rw [HT2.out]
                exact ⟨rfl, below_byS HB9.out HGV.out⟩
          · have HEN : Hid (er ≠ 0) := Lib.hid he0
            have hne : (er != 0) = true := by simpa using he0
            clear he0
            have x0 : w6.cell? ⟨b10, 0, none⟩ = some (.int .i64 x.k) := HXT.out.cell 0
            have x1 : w6.cell? ⟨b10, 1, none⟩ = some (.int .i64 x.c.k) := HXT.out.cell 1
            have x2 : w6.cell? ⟨b10, 2, none⟩ = some (.int .i64 x.c.i) := HXT.out.cell 2
            have x3 : w6.cell? ⟨b10, 3, none⟩ = some (.int .i64 x.c.m) := HXT.out.cell 3
            have x4 : w6.cell? ⟨b10, 4, none⟩ = some (.int .i64 x.c.o) := HXT.out.cell 4
            have x5 : w6.cell? ⟨b10, 5, none⟩ = some (.int .i64 x.c.s) := HXT.out.cell 5
            have x6 : w6.cell? ⟨b10, 6, none⟩ = some (.int .i64 x.c.q) := HXT.out.cell 6
            have x7 : w6.cell? ⟨b10, 7, none⟩ = some (.int .i64 x.c.p) := HXT.out.cell 7
            have x8 : w6.cell? ⟨b10, 8, none⟩ = some (.int .i64 x.n) := HXT.out.cell 8
            have HLN := Lib.hid (line_any x HXO.out w6 HET.out.s)
            unfold stV stCells at HLN
            have HT2 : Hid (T = (zeroS, 3)) := Lib.hid (by rw [HT.out]; unfold parseP; rw [HM.out]; exact if_neg (fun h => HEN.out h.1))
            generalize (if rightS x = true then lineS x else []) = sx at HLN
            generalize errS x = fx at HLN
            go_wp2_with (go_at_call 6; refine HLN.out.mono ?_; rintro e w9 ⟨rfl, hb9⟩; have HZ9 := Lib.hid (HZT.out.below HLZ.out hb9); have HX9 := Lib.hid (HXT.out.below HLX.out hb9); have HB9 : Hid (Below w.heap.size w w9) := Lib.hid (HBT.out.trans (hb9.mono HBT.out.size)); clear hb9 HZT HXT HBT HLN x0 x1 x2 x3 x4 x5 x6 x7 x8; have z0 : w9.cell? ⟨w.heap.size, 0, none⟩ = some (.int .i64 0) := HZ9.out.cell 0; have z1 : w9.cell? ⟨w.heap.size, 1, none⟩ = some (.int .i64 0) := HZ9.out.cell 1; have z2 : w9.cell? ⟨w.heap.size, 2, none⟩ = some (.int .i64 0) := HZ9.out.cell 2; have z3 : w9.cell? ⟨w.heap.size, 3, none⟩ = some (.int .i64 0) := HZ9.out.cell 3; have z4 : w9.cell? ⟨w.heap.size, 4, none⟩ = some (.int .i64 0) := HZ9.out.cell 4; have z5 : w9.cell? ⟨w.heap.size, 5, none⟩ = some (.int .i64 0) := HZ9.out.cell 5; have z6 : w9.cell? ⟨w.heap.size, 6, none⟩ = some (.int .i64 0) := HZ9.out.cell 6; have z7 : w9.cell? ⟨w.heap.size, 7, none⟩ = some (.int .i64 0) := HZ9.out.cell 7; have z8 : w9.cell? ⟨w.heap.size, 8, none⟩ = some (.int .i64 0) := HZ9.out.cell 8; have zf := HZ9.out.fz; have x0 : w9.cell? ⟨b10, 0, none⟩ = some (.int .i64 x.k) := HX9.out.cell 0; have x1 : w9.cell? ⟨b10, 1, none⟩ = some (.int .i64 x.c.k) := HX9.out.cell 1; have x2 : w9.cell? ⟨b10, 2, none⟩ = some (.int .i64 x.c.i) := HX9.out.cell 2; have x3 : w9.cell? ⟨b10, 3, none⟩ = some (.int .i64 x.c.m) := HX9.out.cell 3; have x4 : w9.cell? ⟨b10, 4, none⟩ = some (.int .i64 x.c.o) := HX9.out.cell 4; have x5 : w9.cell? ⟨b10, 5, none⟩ = some (.int .i64 x.c.s) := HX9.out.cell 5; have x6 : w9.cell? ⟨b10, 6, none⟩ = some (.int .i64 x.c.q) := HX9.out.cell 6; have x7 : w9.cell? ⟨b10, 7, none⟩ = some (.int .i64 x.c.p) := HX9.out.cell 7; have x8 : w9.cell? ⟨b10, 8, none⟩ = some (.int .i64 x.n) := HX9.out.cell 8)
            obtain ⟨hov, hgv⟩ := HZ9.out.over zeroS
            obtain ⟨W5, hW5⟩ : ∃ W5, W5 = (World.setCell (World.setCell (World.setCell (World.setCell (World.setCell (World.setCell (World.setCell (World.setCell (World.setCell w9 ⟨w.heap.size, 0, none⟩ (.int .i64 0)) ⟨w.heap.size, 1, none⟩ (.int .i64 0)) ⟨w.heap.size, 2, none⟩ (.int .i64 0)) ⟨w.heap.size, 3, none⟩ (.int .i64 0)) ⟨w.heap.size, 4, none⟩ (.int .i64 0)) ⟨w.heap.size, 5, none⟩ (.int .i64 0)) ⟨w.heap.size, 6, none⟩ (.int .i64 0)) ⟨w.heap.size, 7, none⟩ (.int .i64 0)) ⟨w.heap.size, 8, none⟩ (.int .i64 0)) := ⟨_, rfl⟩
            have HOV : Hid (CsAt W5 w.heap.size (stCells zeroS)) := Lib.hid (by rw [hW5]; exact hov)
            have HGV : Hid (w9.grownBy W5 (some w.heap.size)) := Lib.hid (by rw [hW5]; exact hgv)
            rw [← hW5]
            clear hov hgv hW5
            have y0 : W5.cell? ⟨w.heap.size, 0, none⟩ = some (.int .i64 0) := HOV.out.cell 0
            have y1 : W5.cell? ⟨w.heap.size, 1, none⟩ = some (.int .i64 0) := HOV.out.cell 1
            have y2 : W5.cell? ⟨w.heap.size, 2, none⟩ = some (.int .i64 0) := HOV.out.cell 2
            have y3 : W5.cell? ⟨w.heap.size, 3, none⟩ = some (.int .i64 0) := HOV.out.cell 3
            have y4 : W5.cell? ⟨w.heap.size, 4, none⟩ = some (.int .i64 0) := HOV.out.cell 4
            have y5 : W5.cell? ⟨w.heap.size, 5, none⟩ = some (.int .i64 0) := HOV.out.cell 5
            have y6 : W5.cell? ⟨w.heap.size, 6, none⟩ = some (.int .i64 0) := HOV.out.cell 6
            have y7 : W5.cell? ⟨w.heap.size, 7, none⟩ = some (.int .i64 0) := HOV.out.cell 7
            have y8 : W5.cell? ⟨w.heap.size, 8, none⟩ = some (.int .i64 0) := HOV.out.cell 8
            refine bodyPost_ret (v := .tuple #[.agg #[.int .i64 0, .int .i64 0, .int .i64 0, .int .i64 0, .int .i64 0, .int .i64 0, .int .i64 0, .int .i64 0, .int .i64 0], .int .i64 3]) (by simp [results, Tryz.results9, go_sem, y0, y1, y2, y3, y4, y5, y6, y7, y8]) rfl ?_
            rw [HT2.out]
            exact ⟨rfl, below_byS HB9.out HGV.out⟩
end Go.Proofs.YtmplokdbbhlomaaGreatDoor
