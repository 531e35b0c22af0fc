/-
  What the method Open of complineref19.Sheet comes to, over this seat's translation: a contract for callers.
-/
import Derived.Test.YtkjkkcaiddeggaaObRef3
import Derived.StillTailTactics
namespace Go.Proofs.Ytkjkkcaiddeggaa
open Go.RowKit

theorem grown_far1 {wr w3 : World} {o1 : Obj} {row : Option Nat} (hg : (wr.alloc o1).drew.grownBy w3 row) {k : Nat} (hk : k < wr.heap.size) (hne : some k ≠ row) : w3.heap[k]? = wr.heap[k]? := by
  have h1 := hg.block k (by show k < (wr.alloc o1).heap.size; simp; omega) hne
  rw [h1]
  show (wr.alloc o1).heap[k]? = _
  rw [heap_alloc_old' _ _ hk]
/-- One net more has been opened. -/
theorem ropen_step {L : List Ob} {cy : Int} {nets : List Lg} {k : Nat} {hkl : k < nets.length} {bs base g cap : Nat} {v v1 : Value} {w wr w3 : World} {o1 : Obj}
    (hon : Only bs v w wr) (hb3 : w3.heap[bs]? = some (.cells #[v1] 41 (0, 0)))
    (ho3 : w3.ownsRow base 37 6 (.slice (some ⟨g, 0, none⟩) ((L ++ (nets.take k).map (newOb cy)).length + 1) cap) ((L ++ (nets.take k).map (newOb cy)).length + 1) (obRows (L ++ (nets.take k).map (newOb cy)) ++ (newOb cy nets[k]).cells))
    (hg3 : (wr.alloc o1).drew.grownBy w3 v1.ownBlock) (hfr : From w v v1) (hat : v1.ownBlock = some g ∨ g = wr.heap.size + 1) (hms : (nets.take (k + 1)).map (newOb cy) = (nets.take k).map (newOb cy) ++ [newOb cy nets[k]]) :
    (∃ v', RfAt (w3.setCell ⟨bs, 0, none⟩ (.slice (some ⟨g, 0, none⟩) ((L ++ (nets.take k).map (newOb cy)).length + 1) cap)) bs base v' (L ++ (nets.take (k + 1)).map (newOb cy)) ∧ From w v v') ∧
      Only bs v w (w3.setCell ⟨bs, 0, none⟩ (.slice (some ⟨g, 0, none⟩) ((L ++ (nets.take k).map (newOb cy)).length + 1) cap)) := by
  have hrow : obRows (L ++ (nets.take (k + 1)).map (newOb cy)) = obRows (L ++ (nets.take k).map (newOb cy)) ++ (newOb cy nets[k]).cells := by
    rw [hms, ← List.append_assoc, obRows_snoc]
  have hlen1 : (L ++ (nets.take (k + 1)).map (newOb cy)).length = (L ++ (nets.take k).map (newOb cy)).length + 1 := by
    rw [hms, ← List.append_assoc, List.length_append, List.length_singleton]
  have hne3 : (Value.slice (some ⟨g, 0, none⟩) ((L ++ (nets.take k).map (newOb cy)).length + 1) cap).ownBlock ≠ some bs := own_ne ho3 hb3 (by decide)
  have hz2 := hon.size
  have h4 : (wr.alloc o1).drew.heap.size = wr.heap.size + 1 := by show (wr.alloc o1).heap.size = _; simp
  refine ⟨⟨.slice (some ⟨g, 0, none⟩) ((L ++ (nets.take k).map (newOb cy)).length + 1) cap, ⟨?_, ?_⟩, ?_⟩, ⟨hg3.os.trans hon.os, hg3.tape.trans hon.tape, hg3.output.trans hon.output, ?_, ?_⟩⟩
  · rw [blk_set hb3]; rfl
  · rw [hrow, hlen1]
    exact own_setCell ho3 hne3 _
  · intro j hj
    have e : g = j := by simpa [Value.ownBlock] using hj
    subst e
    rcases hat with h | h
    · exact hfr g h
    · right; omega
  · have h2 := hg3.size
    simp only [World.setCell, Array.size_modify]
    omega
  · intro j hj hjb hjo
    rw [Below.heap_setCell _ _ _ _ hjb, hg3.block j (by omega) (fun e => ?_)]
    · show (wr.alloc o1).heap[j]? = _
      rw [heap_alloc_old' _ _ (by omega)]
      exact hon.block j hj hjb hjo
    · rcases hfr j e.symm with h | h
      · exact hjo h.symm
      · omega

theorem twice_ways {nets : List Lg} {i : Nat} {hi : i < nets.length} (h : twiceB nets i hi = true) (hz : zeroB nets[i] = false) : ∃ j, ∃ hj : j < i, likeB nets[i] (nets[j]'(by omega)) = true := by
  unfold twiceB at h
  rw [hz, Bool.false_or, List.any_eq_true] at h
  obtain ⟨x, hx, hl⟩ := h
  obtain ⟨j, hj, e⟩ := List.mem_iff_getElem.1 hx
  have hj' : j < i := by simp at hj; omega
  refine ⟨j, hj', ?_⟩
  rw [List.getElem_take] at e
  rw [e]
  exact hl
theorem twice_no {nets : List Lg} {i : Nat} {hi : i < nets.length} (hz : zeroB nets[i] = false) (h : ∀ j (hj : j < i), likeB nets[i] (nets[j]'(by omega)) = false) : twiceB nets i hi = false := by
  unfold twiceB
  rw [hz, Bool.false_or, List.any_eq_false]
  intro x hx
  obtain ⟨j, hj, e⟩ := List.mem_iff_getElem.1 hx
  have hj' : j < i := by simp at hj; omega
  rw [List.getElem_take] at e
  rw [← e, h j hj']
  simp
theorem twice_zero {nets : List Lg} {i : Nat} {hi : i < nets.length} (hz : zeroB nets[i] = true) : twiceB nets i hi = true := by
  unfold twiceB
  rw [hz]
  rfl
theorem twice_like {nets : List Lg} {i j : Nat} {hi : i < nets.length} (hj : j < i) (h : likeB nets[i] (nets[j]'(by omega)) = true) : twiceB nets i hi = true := by
  unfold twiceB
  rw [Bool.or_eq_true]
  right
  rw [List.any_eq_true]
  refine ⟨nets[j]'(by omega), ?_, h⟩
  rw [List.mem_iff_getElem]
  exact ⟨j, by simp; omega, by simp⟩

set_option maxRecDepth 100000 in
set_option maxHeartbeats 3200000 in
theorem ropen_any (L : List Ob) (cy : Int) (nets : List Lg) (A : Option Addr) (c : Nat) (v : Value) (bs base : Nat) (w : World) (h : RfAt w bs base v L) (hL : Fine L) (hs : Seg w w.heap.size A (lgRows nets)) (hA : nets ≠ [] → ∀ p, A = some p → p.block ≠ bs ∧ some p.block ≠ v.ownBlock) (hbase : base ≤ w.heap.size)
    (hn : nets.length ≤ 100000) :
    Calls Try.prog 31 #[.pointer (some ⟨bs, 0, none⟩), .int .i64 cy, .slice A nets.length c] w (RefP bs base v (openL cy nets L) (openE cy nets L) w) := by
  have hl24 := hL.len
  have hl : L.length ≤ 1000000 := by omega
  have hlt := h.lt
  have HH := Lib.hid h
  have HS := Lib.hid hs
  have HA := Lib.hid hA
  have c0 := h.c0
  obtain ⟨A0, k0, hv⟩ := own_form h.own
  have hEdef : openE cy nets L = if 1024 - (L.length : Int) < nets.length then 6 else if L.any isOpen then 17 else if L.any (fun x => decide (cy ≤ x.c)) then 7 else if badB nets then 1 else 0 := rfl
  have HE := Lib.hid hEdef
  have hLdef : openL cy nets L = if openE cy nets L = 0 then L ++ nets.map (newOb cy) else L := rfl
  have HL := Lib.hid hLdef
  have HCO := Lib.hid (count_open L)
  subst hv
  clear h hs hA hEdef hLdef
  by_cases h6 : 1024 - (L.length : Int) < nets.length
  · have hE : openE cy nets L = 6 := by rw [HE.out, if_pos h6]
    have hO : openL cy nets L = L := by rw [HL.out, hE]; rfl
    have HE6 := Lib.hid hE
    have HO6 := Lib.hid hO
    clear hE hO
    by_cases hbig : 1024 < nets.length
    · go_enter Try.func31, Try.ntmps31
      go_wp2_with fail
      go_ret
      exact ⟨_, ret_int HE6.out.symm, by rw [HO6.out]; exact HH.out, Only.of_below (Below.refl _ _), from_same rfl⟩
    · go_enter Try.func31, Try.ntmps31
      go_wp2_with fail
      go_ret
      exact ⟨_, ret_int HE6.out.symm, by rw [HO6.out]; exact HH.out, Only.of_below (Below.refl _ _), from_same rfl⟩
  cases h17 : L.any isOpen
  · have h17' : decide (0 < countI 1 L) = false := HCO.out.trans h17
    have hE3 : openE cy nets L = if L.any (fun x => decide (cy ≤ x.c)) then 7 else if badB nets then 1 else 0 := by rw [HE.out, if_neg h6, h17]; rfl
    have HE3 := Lib.hid hE3
    clear hE3 h17
    obtain ⟨i0, hi0, hz0, hz1', hz2⟩ := info_parts ob_info
    have HSO := Lib.hid (Seg.of_own HH.out.own)
    go_enter Try.func31, Try.ntmps31
    go_wp2_with fail
    refine (rcount_any L 1 _ bs base _ HH.out hl).mono ?_
    rintro e w1 ⟨rfl, rfl⟩
    go_wp2_with fail
    go_loop [7] (fun i => ∃ k : Nat, k ≤ L.length ∧ i = .int .i64 k ∧ Hid ((L.take k).any (fun x => decide (cy ≤ x.c)) = false)) (fun i => L.length - (intOf i).toNat)
    case atStart => exact ⟨0, Nat.zero_le _, rfl, rfl⟩
    case round =>
      obtain ⟨k, hk, rfl, HN⟩ := hrel
      by_cases hkl : k < L.length
      · obtain ⟨b, o, rfl, hb, d0, d1, d2, d3, d4, d5⟩ := ob_at HSO.out hkl
        by_cases hp : cy ≤ L[k].c
        · have h7 : L.any (fun x => decide (cy ≤ x.c)) = true := by rw [List.any_eq_true]; exact ⟨_, List.getElem_mem hkl, by simpa using hp⟩
          have hE : openE cy nets L = 7 := by rw [HE3.out, h7]; rfl
          have hO : openL cy nets L = L := by rw [HL.out, hE]; rfl
          have HE6 := Lib.hid hE
          have HO6 := Lib.hid hO
          clear hE hO h7
          go_wp2_with fail
          go_ret
          exact ⟨_, ret_int HE6.out.symm, by rw [HO6.out]; exact HH.out, Only.of_below (Below.refl _ _), from_same rfl⟩
        · have HX : Hid ((L.take (k + 1)).any (fun x => decide (cy ≤ x.c)) = false) := by show _ = _; rw [any_snoc _ hkl, HN.out]; simpa using hp
          go_wp2_with fail
          go_round
          case rel => exact ⟨k + 1, by omega, by go_num, HX⟩
          case measure => simp [intOf]; omega
      · obtain rfl : k = L.length := by omega
        have h7 := HN.out
        rw [List.take_length] at h7
        have hE4 : openE cy nets L = if badB nets then 1 else 0 := by rw [HE3.out, h7]; rfl
        have HE4 := Lib.hid hE4
        clear h7 hE4
        go_wp2_with fail
        go_loopw [8, 9] (fun i _ wr => ∃ k : Nat, k ≤ nets.length ∧ i = .int .i64 k ∧ Hid (∃ n, w.drewN n = wr) ∧ Hid (∀ j (hj : j < nets.length), j < k → twiceB nets j hj = false)) (fun i _ _ => nets.length - (intOf i).toNat)
        case atStart => exact ⟨0, Nat.zero_le _, rfl, ⟨0, rfl⟩, fun _ _ h => absurd h (by omega)⟩
        case round =>
          obtain ⟨k, hk, rfl, HW, HK⟩ := hrel
          obtain ⟨nd, rfl⟩ := HW.out
          by_cases hkl : k < nets.length
          · obtain ⟨b, o, rfl, hb, n0, n1, n2⟩ := lg_at HS.out hkl
            by_cases hz : zeroB nets[k] = true
            · have hE : openE cy nets L = 1 := by rw [HE4.out, bad_yes (twice_zero hz)]; rfl
              have hO : openL cy nets L = L := by rw [HL.out, hE]; rfl
              have HE6 := Lib.hid hE
              have HO6 := Lib.hid hO
              clear hE hO
              have hways : (nets[k].n == 0) = true ∨ (nets[k].n == 0) = false ∧ (nets[k].n == -9223372036854775808) = true := by
                revert hz
                unfold zeroB minI
                cases (nets[k].n == 0) <;> simp
              clear hz
              rcases hways with h1 | ⟨h1, h2⟩
              all_goals
                go_wp2_with fail
                go_ret
                exact ⟨_, ret_int HE6.out.symm, by rw [HO6.out]; exact HH.out.drewN _, Only.of_below (below_drewN (Below.refl _ _) _), from_same rfl⟩
            · have hz' : zeroB nets[k] = false := by simpa using hz
              have HZ := Lib.hid hz'
              have hz1 : (nets[k].n == 0) = false ∧ (nets[k].n == -9223372036854775808) = false := by
                revert hz'
                unfold zeroB minI
                cases (nets[k].n == 0) <;> simp
              obtain ⟨hza, hzb⟩ := hz1
              clear hz hz'
              go_wp2_with fail
              obtain ⟨ke, rfl⟩ : ∃ ke : Nat, ke = nd := ⟨_, rfl⟩
              go_loopw [9] (fun i wr => ∃ j : Nat, j ≤ k ∧ i = .int .i64 j ∧ Hid (∃ n, w.drewN n = wr) ∧ Hid (∀ q (hq : q < j) (hqk : q < nets.length), likeB nets[k] nets[q] = false)) (fun i _ => k - (intOf i).toNat)
              case atStart => exact ⟨0, Nat.zero_le _, rfl, ⟨ke, rfl⟩, fun _ h => absurd h (by omega)⟩
              case round =>
                obtain ⟨j, hj, rfl, HW, HQ⟩ := hrel
                obtain ⟨nd, rfl⟩ := HW.out
                by_cases hjk : j < k
                · have hjl : j < nets.length := by omega
                  obtain ⟨b', o', e', hb', m0, m1, m2⟩ := lg_at HS.out hjl
                  injection e' with e'
                  injection e' with e1 e2
                  subst e1 e2
                  have hkb : (k : Int) < (nets.length : Int) := by omega
                  have hk0 : (0 : Int) ≤ (k : Int) := by omega
                  have hjb : (j : Int) < (nets.length : Int) := by omega
                  have hj0 : (0 : Int) ≤ (j : Int) := by omega
                  by_cases hli : likeB nets[k] nets[j] = true
                  · have hE : openE cy nets L = 1 := by rw [HE4.out, bad_yes (twice_like hjk hli)]; rfl
                    have hO : openL cy nets L = L := by rw [HL.out, hE]; rfl
                    have HE6 := Lib.hid hE
                    have HO6 := Lib.hid hO
                    clear hE hO
                    unfold likeB at hli
                    rw [Bool.and_eq_true] at hli
                    obtain ⟨l1, l2⟩ := hli
                    go_wp2_with fail
                    go_quiet (fail)
                    go_wp2_with fail
                    go_ret
                    exact ⟨_, ret_int HE6.out.symm, by rw [HO6.out]; exact (HH.out.drewN _).drewN _, Only.of_below (below_drewN (below_drewN (Below.refl _ _) _) _), from_same rfl⟩
                  · have hli' : likeB nets[k] nets[j] = false := by simpa using hli
                    have HX : Hid (∀ q (hq : q < j + 1) (hqk : q < nets.length), likeB nets[k] nets[q] = false) := fun q hq hqk => by
                      rcases Nat.lt_or_ge q j with h1 | h1
                      · exact HQ.out q h1 hqk
                      · obtain rfl : q = j := by omega
                        exact hli'
                    have hways : (nets[j].m == nets[k].m) = false ∨ (nets[j].m == nets[k].m) = true ∧ (nets[j].a == nets[k].a) = false := by
                      revert hli'
                      unfold likeB
                      cases (nets[j].m == nets[k].m) <;> simp
                    clear hli hli'
                    rcases hways with l1 | ⟨l1, l2⟩
                    all_goals
                      go_wp2_with fail
                      go_quiet (fail)
                      go_wp2_with fail
                      go_roundw
                      case rel => exact ⟨j + 1, by omega, by go_num, ⟨nd + nq, rfl⟩, HX⟩
                      case measure => simp [intOf]; omega
                · have HX : Hid (∀ j (hj : j < nets.length), j < k + 1 → twiceB nets j hj = false) := fun q hq hqk => by
                    rcases Nat.lt_or_ge q k with h1 | h1
                    · exact HK.out q hq h1
                    · obtain rfl : q = k := by omega
                      exact twice_no HZ.out fun q' hq' => HQ.out q' (by omega) (by omega)
                  go_wp2_with fail
                  go_roundw
                  case rel => exact ⟨k + 1, by omega, by go_num, ⟨nd, rfl⟩, HX⟩
                  case measure => simp [intOf]; omega
          · obtain rfl : k = nets.length := by omega
            have hE : openE cy nets L = 0 := by rw [HE4.out, bad_none (fun j hj => HK.out j hj hj)]; rfl
            have hO : openL cy nets L = L ++ nets.map (newOb cy) := by rw [HL.out, hE]; rfl
            have HE6 := Lib.hid hE
            have HO6 := Lib.hid hO
            clear hE hO
            obtain ⟨ke, rfl⟩ : ∃ ke : Nat, ke = nd := ⟨_, rfl⟩
            go_wp2_with fail
            go_loopw [10] (fun i wr => ∃ k : Nat, k ≤ nets.length ∧ i = .int .i64 k ∧ Hid (∃ v', RfAt wr bs base v' (L ++ (nets.take k).map (newOb cy)) ∧ From w (.slice A0 L.length k0) v') ∧ Hid (Only bs (.slice A0 L.length k0) w wr)) (fun i _ => nets.length - (intOf i).toNat)
            case atStart => exact ⟨0, Nat.zero_le _, rfl, ⟨.slice A0 L.length k0, by simpa using HH.out.drewN ke, fun j hj => .inl hj⟩, Only.of_below (below_drewN (Below.refl _ _) _)⟩
            case round =>
              obtain ⟨k, hk, rfl, HSh, HOn⟩ := hrel
              obtain ⟨v1, hsh, hfr⟩ := HSh.out
              have HFR := Lib.hid hfr
              clear hfr c0
              by_cases hkl : k < nets.length
              · have hBel := HS.out.only (fun hx => HA.out fun e => hx (by rw [e]; rfl)) HOn.out
                have hszr := HOn.out.size
                have hlen : (L ++ (nets.take k).map (newOb cy)).length = L.length + k := by simp; omega
                have HLen := Lib.hid hlen
                obtain ⟨b, o, rfl, hb, n0, n1, n2⟩ := lg_at hBel hkl
                have s0 := hsh.c0
                have sf := hsh.f0
                have sblt := hsh.lt
                have HSh1 := Lib.hid hsh
                have HMS := Lib.hid (map_snoc (newOb cy) hkl)
                have hkb : (k : Int) < (nets.length : Int) := by omega
                have hkz : (0 : Int) ≤ (k : Int) := by omega
                have hbbs : b ≠ bs := (HA.out (fun e => by rw [e] at hkl; simp at hkl) _ rfl).1
                have hbv : some b ≠ v1.ownBlock := fun e => by
                  rcases HFR.out b e.symm with h1 | h1
                  · exact (HA.out (fun e => by rw [e] at hkl; simp at hkl) _ rfl).2 h1.symm
                  · omega
                have hbr : b < wr.heap.size := by omega
                clear hsh hBel hlen
                go_wp2_with fail
                refine wp_region_held_drew (S := (fun w' => w'.cell? ⟨b, o + k * 3, none⟩ = some (.int .i64 nets[k].m) ∧ w'.cell? ⟨b, o + k * 3 + 1, none⟩ = some (.int .i64 nets[k].a) ∧ w'.cell? ⟨b, o + k * 3 + 2, none⟩ = some (.int .i64 nets[k].n))) (by kernel_rfl) (by go_keep) (fun hHeld => ?_)
                refine wpAnyH_take (i := 0) (v := .pointer (some ⟨bs, 0, none⟩)) rfl (by kernel_rfl) (by kernel_rfl) (by kernel_rfl) (fun _ _ _ h => h) (Or.inl ⟨by rfl, fun w' hSw => by dsimp only at hSw; go_simp⟩) hHeld ?_
                refine wpAnyH_take (i := 1) (v := .pointer (some ⟨bs, 0, none⟩)) rfl (by kernel_rfl) (by kernel_rfl) (by kernel_rfl) (fun _ _ _ h => h) (Or.inl ⟨by rfl, fun w' hSw => by dsimp only at hSw; go_simp⟩) hHeld ?_
                refine wpAnyH_take (i := 2) (v := .pointer (some ⟨bs, 0, none⟩)) rfl (by kernel_rfl) (by kernel_rfl) (by kernel_rfl) (fun _ _ _ h => h) (Or.inl ⟨by rfl, fun w' hSw => by dsimp only at hSw; go_simp⟩) hHeld ?_
                refine wpAnyH_take (i := 3) (v := .pointer (some ⟨bs, 0, none⟩)) rfl (by kernel_rfl) (by kernel_rfl) (by kernel_rfl) (fun _ _ _ h => h) (Or.inl ⟨by rfl, fun w' hSw => by dsimp only at hSw; go_simp⟩) hHeld ?_
                refine wpAnyH_take (i := 5) (v := .int .i64 cy) rfl (by kernel_rfl) (by kernel_rfl) (by kernel_rfl) (fun _ _ _ h => h) (Or.inl ⟨by rfl, fun w' hSw => by dsimp only at hSw; go_simp⟩) hHeld ?_
                refine wpAnyH_take (i := 6) (v := .slice (some ⟨b, o, none⟩) nets.length c) rfl (by kernel_rfl) (by kernel_rfl) (by kernel_rfl) (fun _ _ _ h => h) (Or.inl ⟨by rfl, fun w' hSw => by dsimp only at hSw; go_simp⟩) hHeld ?_
                refine wpAnyH_take (i := 7) (v := .int .i64 k) rfl (by kernel_rfl) (by kernel_rfl) (by kernel_rfl) (fun _ _ _ h => h) (Or.inl ⟨by rfl, fun w' hSw => by dsimp only at hSw; go_simp⟩) hHeld ?_
                refine wpAnyH_take (i := 8) (v := .pointer (some ⟨b, o + k * 3, none⟩)) rfl (by kernel_rfl) (by kernel_rfl) (by kernel_rfl) (fun _ _ _ h => h) (Or.inl ⟨by rfl, fun w' hSw => by dsimp only at hSw; go_simp⟩) hHeld ?_
                refine wpAnyH_take (i := 9) (v := .pointer (some ⟨b, o + k * 3, none⟩)) rfl (by kernel_rfl) (by kernel_rfl) (by kernel_rfl) (fun _ _ _ h => h) (Or.inl ⟨by rfl, fun w' hSw => by dsimp only at hSw; go_simp⟩) hHeld ?_
                refine wpAnyH_take (i := 10) (v := .int .i64 nets[k].m) rfl (by kernel_rfl) (by kernel_rfl) (by kernel_rfl) (fun _ _ _ h => h) (Or.inl ⟨by rfl, fun w' hSw => by dsimp only at hSw; go_simp⟩) hHeld ?_
                refine wpAnyH_take (i := 11) (v := .slice (some ⟨b, o, none⟩) nets.length c) rfl (by kernel_rfl) (by kernel_rfl) (by kernel_rfl) (fun _ _ _ h => h) (Or.inl ⟨by rfl, fun w' hSw => by dsimp only at hSw; go_simp⟩) hHeld ?_
                refine wpAnyH_take (i := 12) (v := .int .i64 k) rfl (by kernel_rfl) (by kernel_rfl) (by kernel_rfl) (fun _ _ _ h => h) (Or.inl ⟨by rfl, fun w' hSw => by dsimp only at hSw; go_simp⟩) hHeld ?_
                refine wpAnyH_take (i := 13) (v := .pointer (some ⟨b, o + k * 3, none⟩)) rfl (by kernel_rfl) (by kernel_rfl) (by kernel_rfl) (fun _ _ _ h => h) (Or.inl ⟨by rfl, fun w' hSw => by dsimp only at hSw; go_simp⟩) hHeld ?_
                refine wpAnyH_take (i := 14) (v := .pointer (some ⟨b, o + k * 3 + 1, none⟩)) rfl (by kernel_rfl) (by kernel_rfl) (by kernel_rfl) (fun _ _ _ h => h) (Or.inl ⟨by rfl, fun w' hSw => by dsimp only at hSw; go_simp⟩) hHeld ?_
                refine wpAnyH_take (i := 15) (v := .int .i64 nets[k].a) rfl (by kernel_rfl) (by kernel_rfl) (by kernel_rfl) (fun _ _ _ h => h) (Or.inl ⟨by rfl, fun w' hSw => by dsimp only at hSw; go_simp⟩) hHeld ?_
                refine wpAnyH_take (i := 16) (v := .slice (some ⟨b, o, none⟩) nets.length c) rfl (by kernel_rfl) (by kernel_rfl) (by kernel_rfl) (fun _ _ _ h => h) (Or.inl ⟨by rfl, fun w' hSw => by dsimp only at hSw; go_simp⟩) hHeld ?_
                refine wpAnyH_take (i := 17) (v := .int .i64 k) rfl (by kernel_rfl) (by kernel_rfl) (by kernel_rfl) (fun _ _ _ h => h) (Or.inl ⟨by rfl, fun w' hSw => by dsimp only at hSw; go_simp⟩) hHeld ?_
                refine wpAnyH_take (i := 18) (v := .pointer (some ⟨b, o + k * 3, none⟩)) rfl (by kernel_rfl) (by kernel_rfl) (by kernel_rfl) (fun _ _ _ h => h) (Or.inl ⟨by rfl, fun w' hSw => by dsimp only at hSw; go_simp⟩) hHeld ?_
                refine wpAnyH_take (i := 19) (v := .pointer (some ⟨b, o + k * 3 + 2, none⟩)) rfl (by kernel_rfl) (by kernel_rfl) (by kernel_rfl) (fun _ _ _ h => h) (Or.inl ⟨by rfl, fun w' hSw => by dsimp only at hSw; go_simp⟩) hHeld ?_
                refine wpAnyH_take (i := 20) (v := .int .i64 nets[k].n) rfl (by kernel_rfl) (by kernel_rfl) (by kernel_rfl) (fun _ _ _ h => h) (Or.inl ⟨by rfl, fun w' hSw => by dsimp only at hSw; go_simp⟩) hHeld ?_
                refine wpAnyH_take (i := 21) (v := .agg #[.int .i64 cy, .int .i64 nets[k].m, .int .i64 nets[k].a, .int .i64 nets[k].n, .int .i64 0, .int .i64 1]) rfl (by kernel_rfl) (by kernel_rfl) (by kernel_rfl) (fun _ _ _ h => h) (Or.inl ⟨by rfl, fun w' hSw => by dsimp only at hSw; go_simp⟩) hHeld ?_
                refine wpAnyH_ready (rs := [4, 22]) (by kernel_rfl) (by simp) ?_
                refine AllReadyH.cons rfl (fun K hK => ?_) (AllReadyH.cons rfl (fun K hK => ?_) AllReadyH.nil)
                · go_simp
                  refine hK.out _ _ hHeld (fun hHeld => ?_)
                  clear hK K
                  refine wpAnyH_ready (rs := [22]) (by kernel_rfl) (by simp) ?_
                  refine AllReadyH.cons rfl (fun K hK => ?_) AllReadyH.nil
                  go_simp
                  refine hK.out _ _ (by go_keep) (fun hHeld => ?_)
                  clear hK K
                  refine wpAnyH_ready (rs := [23]) (by kernel_rfl) (by simp) ?_
                  refine AllReadyH.cons rfl (fun K hK => ?_) AllReadyH.nil
                  refine step_append_lies _ rfl (.tmp 106) (.tmp 124) 27 rfl base 37 i0 _ 6 48 Try.underlying27 hi0 hz0 hz1' hz2 rfl (by decide) v1 _ _ rfl (HSh1.out.own.alloc _) ⟨wr.heap.size, 0, none⟩ 1 1 (newOb cy nets[k]).cells rfl rfl (new_cells _ _ #[_, _, _, _, _, _] rfl) (by intro u hu; simp [Ob.cells] at hu; rcases hu with rfl | rfl | rfl | rfl | rfl | rfl <;> rfl) (by decide) (by rw [HLen.out]; simp only [maxLen]; omega) (by rw [HLen.out]; omega) (by simp; omega) (wr.heap.size + 1) (by simp) ?_
                  intro g cap w3 hown3 hgr3 hat3 _
                  have b3 := (grown_far1 hgr3 sblt (fun e => HSh1.out.ne e.symm)).trans HSh1.out.s
                  have q3 : w3.heap[b]? = wr.heap[b]? := grown_far1 hgr3 hbr hbv
                  have s3 : w3.cell? ⟨bs, 0, none⟩ = some v1 := cell_of_row _ _ _ _ _ (0, 0) b3
                  have f3 : w3.frozen? ⟨bs, 0, none⟩ = false := by simp [World.frozen?, b3]
                  have m3 : w3.cell? ⟨b, o + k * 3, none⟩ = some (.int .i64 nets[k].m) := (World.cell?_of_block (w := wr) (a := ⟨b, o + k * 3, none⟩) q3).trans n0
                  have a3 : w3.cell? ⟨b, o + k * 3 + 1, none⟩ = some (.int .i64 nets[k].a) := (World.cell?_of_block (w := wr) (a := ⟨b, o + k * 3 + 1, none⟩) q3).trans n1
                  have n3 : w3.cell? ⟨b, o + k * 3 + 2, none⟩ = some (.int .i64 nets[k].n) := (World.cell?_of_block (w := wr) (a := ⟨b, o + k * 3 + 2, none⟩) q3).trans n2
                  have HO3 := Lib.hid hown3
                  have HG3 := Lib.hid hgr3
                  have HA3 := Lib.hid hat3
                  have HB3 := Lib.hid b3
                  clear hown3 hgr3 hat3 b3 q3
                  refine hK.out _ _ ⟨m3, a3, n3⟩ (fun hHeld => ?_)
                  clear hK K
                  refine wpAnyH_take (i := 24) (v := .pointer (some ⟨bs, 0, none⟩)) rfl (by kernel_rfl) (by kernel_rfl) (by kernel_rfl) (fun _ _ _ h => h) (Or.inl ⟨by rfl, fun w' hSw => by dsimp only at hSw; go_simp⟩) hHeld ?_
                  refine wpAnyH_take (i := 25) (v := .pointer (some ⟨bs, 0, none⟩)) rfl (by kernel_rfl) (by kernel_rfl) (by kernel_rfl) (fun _ _ _ h => h) (Or.inl ⟨by rfl, fun w' hSw => by dsimp only at hSw; go_simp⟩) hHeld ?_
                  refine wpAnyH_ready (rs := [26]) (by kernel_rfl) (by simp) ?_
                  refine AllReadyH.cons rfl (fun K hK => ?_) AllReadyH.nil
                  go_simp
                  refine hK.out _ _ ⟨(World.cell?_setCell_other _ _ _ _ (fun e => hbbs (congrArg Addr.block e).symm)).trans m3, (World.cell?_setCell_other _ _ _ _ (fun e => hbbs (congrArg Addr.block e).symm)).trans a3, (World.cell?_setCell_other _ _ _ _ (fun e => hbbs (congrArg Addr.block e).symm)).trans n3⟩ (fun hHeld => ?_)
                  clear hK K hHeld
                  refine wpAnyH_done (by kernel_rfl) ?_ _
                  have hrel2 := ropen_step HOn.out HB3.out HO3.out HG3.out HFR.out HA3.out HMS.out
                  rw [HLen.out] at hrel2
                  have HREL := Lib.hid hrel2
                  clear hrel2
                  clear s3 f3 m3 a3 n3 s0 sf n0 n1 n2
                  go_wp2_with fail
                  go_roundw
                  case rel => exact ⟨k + 1, by omega, by go_num, HREL.out.1, HREL.out.2⟩
                  case measure => simp [intOf]; omega
                · go_simp
                  refine hK.out _ _ (by go_keep) (fun hHeld => ?_)
                  clear hK K
                  refine wpAnyH_ready (rs := [4]) (by kernel_rfl) (by simp) ?_
                  refine AllReadyH.cons rfl (fun K hK => ?_) AllReadyH.nil
                  go_simp
                  refine hK.out _ _ hHeld (fun hHeld => ?_)
                  clear hK K
                  refine wpAnyH_ready (rs := [23]) (by kernel_rfl) (by simp) ?_
                  refine AllReadyH.cons rfl (fun K hK => ?_) AllReadyH.nil
                  refine step_append_lies _ rfl (.tmp 106) (.tmp 124) 27 rfl base 37 i0 _ 6 48 Try.underlying27 hi0 hz0 hz1' hz2 rfl (by decide) v1 _ _ rfl (HSh1.out.own.alloc _) ⟨wr.heap.size, 0, none⟩ 1 1 (newOb cy nets[k]).cells rfl rfl (new_cells _ _ #[_, _, _, _, _, _] rfl) (by intro u hu; simp [Ob.cells] at hu; rcases hu with rfl | rfl | rfl | rfl | rfl | rfl <;> rfl) (by decide) (by rw [HLen.out]; simp only [maxLen]; omega) (by rw [HLen.out]; omega) (by simp; omega) (wr.heap.size + 1) (by simp) ?_
                  intro g cap w3 hown3 hgr3 hat3 _
                  have b3 := (grown_far1 hgr3 sblt (fun e => HSh1.out.ne e.symm)).trans HSh1.out.s
                  have q3 : w3.heap[b]? = wr.heap[b]? := grown_far1 hgr3 hbr hbv
                  have s3 : w3.cell? ⟨bs, 0, none⟩ = some v1 := cell_of_row _ _ _ _ _ (0, 0) b3
                  have f3 : w3.frozen? ⟨bs, 0, none⟩ = false := by simp [World.frozen?, b3]
                  have m3 : w3.cell? ⟨b, o + k * 3, none⟩ = some (.int .i64 nets[k].m) := (World.cell?_of_block (w := wr) (a := ⟨b, o + k * 3, none⟩) q3).trans n0
                  have a3 : w3.cell? ⟨b, o + k * 3 + 1, none⟩ = some (.int .i64 nets[k].a) := (World.cell?_of_block (w := wr) (a := ⟨b, o + k * 3 + 1, none⟩) q3).trans n1
                  have n3 : w3.cell? ⟨b, o + k * 3 + 2, none⟩ = some (.int .i64 nets[k].n) := (World.cell?_of_block (w := wr) (a := ⟨b, o + k * 3 + 2, none⟩) q3).trans n2
                  have HO3 := Lib.hid hown3
                  have HG3 := Lib.hid hgr3
                  have HA3 := Lib.hid hat3
                  have HB3 := Lib.hid b3
                  clear hown3 hgr3 hat3 b3 q3
                  refine hK.out _ _ ⟨m3, a3, n3⟩ (fun hHeld => ?_)
                  clear hK K
                  refine wpAnyH_take (i := 24) (v := .pointer (some ⟨bs, 0, none⟩)) rfl (by kernel_rfl) (by kernel_rfl) (by kernel_rfl) (fun _ _ _ h => h) (Or.inl ⟨by rfl, fun w' hSw => by dsimp only at hSw; go_simp⟩) hHeld ?_
                  refine wpAnyH_take (i := 25) (v := .pointer (some ⟨bs, 0, none⟩)) rfl (by kernel_rfl) (by kernel_rfl) (by kernel_rfl) (fun _ _ _ h => h) (Or.inl ⟨by rfl, fun w' hSw => by dsimp only at hSw; go_simp⟩) hHeld ?_
                  refine wpAnyH_ready (rs := [26]) (by kernel_rfl) (by simp) ?_
                  refine AllReadyH.cons rfl (fun K hK => ?_) AllReadyH.nil
                  go_simp
                  refine hK.out _ _ ⟨(World.cell?_setCell_other _ _ _ _ (fun e => hbbs (congrArg Addr.block e).symm)).trans m3, (World.cell?_setCell_other _ _ _ _ (fun e => hbbs (congrArg Addr.block e).symm)).trans a3, (World.cell?_setCell_other _ _ _ _ (fun e => hbbs (congrArg Addr.block e).symm)).trans n3⟩ (fun hHeld => ?_)
                  clear hK K hHeld
                  refine wpAnyH_done (by kernel_rfl) ?_ _
                  have hrel2 := ropen_step HOn.out HB3.out HO3.out HG3.out HFR.out HA3.out HMS.out
                  rw [HLen.out] at hrel2
                  have HREL := Lib.hid hrel2
                  clear hrel2
                  clear s3 f3 m3 a3 n3 s0 sf n0 n1 n2
                  go_wp2_with fail
                  go_roundw
                  case rel => exact ⟨k + 1, by omega, by go_num, HREL.out.1, HREL.out.2⟩
                  case measure => simp [intOf]; omega
              · obtain rfl : k = nets.length := by omega
                have HSh1 := Lib.hid hsh
                clear hsh
                go_wp2_with fail
                go_ret
                refine ⟨v1, ret_int HE6.out.symm, ?_, HOn.out, HFR.out⟩
                rw [HO6.out]
                have := HSh1.out
                rw [List.take_length] at this
                exact this
  · have hE : openE cy nets L = 17 := by rw [HE.out, if_neg h6, h17]; rfl
    have hO : openL cy nets L = L := by rw [HL.out, hE]; rfl
    have HE6 := Lib.hid hE
    have HO6 := Lib.hid hO
    have h17' : decide (0 < countI 1 L) = true := HCO.out.trans h17
    clear hE hO h17
    go_enter Try.func31, Try.ntmps31
    go_wp2_with fail
    refine (rcount_any L 1 _ bs base _ HH.out hl).mono ?_
    rintro e w1 ⟨rfl, rfl⟩
    go_wp2_with fail
    go_ret
    exact ⟨_, ret_int HE6.out.symm, by rw [HO6.out]; exact HH.out, Only.of_below (Below.refl _ _), from_same rfl⟩
end Go.Proofs.Ytkjkkcaiddeggaa
