/-
  What the method Open of oblig.Sheet comes to, over this seat's translation: a contract for callers.
-/
import Derived.Test.YtkjkkcaiddeggaaObSheet4
namespace Go.Proofs.Ytkjkkcaiddeggaa
open Go.RowKit

theorem own_ne {w : World} {base : Nat} {e t : TypeId} {size n g : Nat} {v : Value} {xs : List Value} {cs : Array Value} (h : w.ownsRow base e size v n xs) (hg : w.heap[g]? = some (.cells cs t (0, 0))) (hne : t ≠ e) : v.ownBlock ≠ some g := by
  rcases h.2 with ⟨rfl, _⟩ | ⟨g', cap, cur, rfl, _, hh, _⟩
  · simp [Value.ownBlock]
  · intro e'
    have e2 : g' = g := by simpa [Value.ownBlock] using e'
    subst e2
    rw [hg] at hh
    injection hh with hh
    injection hh with _ ht
    exact hne ht

theorem bad_yes {nets : List Lg} {i : Nat} {hi : i < nets.length} (h : twiceB nets i hi = true) : badB nets = true := by
  unfold badB
  rw [List.any_eq_true]
  exact ⟨i, List.mem_range.2 hi, by rw [dif_pos hi]; exact h⟩
theorem bad_none {nets : List Lg} (h : ∀ i (hi : i < nets.length), twiceB nets i hi = false) : badB nets = false := by
  unfold badB
  rw [List.any_eq_false]
  intro i hi
  rw [dif_pos (List.mem_range.1 hi), h]
  simp

theorem obRows_snoc (L : List Ob) (x : Ob) : obRows (L ++ [x]) = obRows L ++ x.cells := by
  unfold obRows; simp
theorem map_snoc {α β : Type} (f : α → β) {l : List α} {k : Nat} (hk : k < l.length) : (l.take (k + 1)).map f = (l.take k).map f ++ [f l[k]] := by
  rw [List.take_succ_eq_append_getElem hk, List.map_append]; rfl

theorem blk_set {w : World} {g : Nat} {cs : Array Value} {t : TypeId} (h : w.heap[g]? = some (.cells cs t (0, 0))) (i : Nat) (u : Value) : (w.setCell ⟨g, i, none⟩ u).heap[g]? = some (.cells (cs.setIfInBounds i u) t (0, 0)) := by
  simp [World.setCell, Array.getElem?_modify, h]
theorem own_setCell {w : World} {base : Nat} {e : TypeId} {size n : Nat} {v : Value} {xs : List Value} (h : w.ownsRow base e size v n xs) {p : Addr} (hp : v.ownBlock ≠ some p.block) (u : Value) : (w.setCell p u).ownsRow base e size v n xs := by
  have hg : w.grownBy (w.setCell p u) (some p.block) := ⟨rfl, rfl, rfl, by simp [World.setCell], fun i _ hi => Below.heap_setCell _ _ _ _ (fun e => hi (by rw [e]))⟩
  exact h.kept hg (Or.inr hp)
theorem Seg.only {w w' : World} {bs : Nat} {v : Value} {A : Option Addr} {xs : List Value} (h : Seg w w.heap.size A xs) (hA : xs ≠ [] → ∀ p, A = some p → p.block ≠ bs ∧ some p.block ≠ v.ownBlock) (ho : Only bs v w w') : Seg w' w.heap.size A xs := fun j u hu => by
  obtain ⟨b, o, e, hb, hc⟩ := h j u hu
  obtain ⟨h1, h2⟩ := hA (fun e => by rw [e] at hu; simp at hu) _ e
  exact ⟨b, o, e, hb, (World.cell?_of_block (w := w) (a := ⟨b, o + j, none⟩) (ho.block b hb h1 h2)).trans hc⟩
theorem grown_far {wr w3 : World} {o1 o2 : Obj} {row : Option Nat} (hg : ((wr.alloc o1).alloc o2).drew.grownBy w3 row) {k : Nat} (hk : k < wr.heap.size) (hne : some k ≠ row) : w3.heap[k]? = wr.heap[k]? := by
  have h1 := hg.block k (by show k < ((wr.alloc o1).alloc o2).heap.size; simp; omega) hne
  rw [h1]
  show ((wr.alloc o1).alloc o2).heap[k]? = _
  rw [heap_alloc_old' _ _ (by simp; omega), heap_alloc_old' _ _ hk]

theorem grown_new {wr w3 : World} {o1 o2 : Obj} {row : Option Nat} (hg : ((wr.alloc o1).alloc o2).drew.grownBy w3 row) (hne : some wr.heap.size ≠ row) : w3.heap[wr.heap.size]? = some o1 := by
  have h1 := hg.block wr.heap.size (by show wr.heap.size < ((wr.alloc o1).alloc o2).heap.size; simp; omega) hne
  rw [h1]
  show ((wr.alloc o1).alloc o2).heap[wr.heap.size]? = _
  rw [heap_alloc_old' _ _ (by simp)]
  exact heap_alloc_new wr o1

/-- One net more has been opened. -/
theorem open_step {L : List Ob} {cy : Int} {nets : List Lg} {k : Nat} {hkl : k < nets.length} {bs base g cap : Nat} {v v1 : Value} {w wr w3 : World} {o1 o2 : Obj}
    (hon : Only bs v w wr) (hb3 : w3.heap[bs]? = some (.cells #[v1] 54 (0, 0))) (hr3 : w3.heap[w.heap.size]? = some (.cells #[.int .i64 cy] 3 (0, 0)))
    (ho3 : w3.ownsRow base 37 6 (.slice (some ⟨g, 0, none⟩) ((L ++ (nets.take k).map (newOb cy)).length + 1) cap) ((L ++ (nets.take k).map (newOb cy)).length + 1) (obRows (L ++ (nets.take k).map (newOb cy)) ++ (newOb cy nets[k]).cells))
    (hg3 : ((wr.alloc o1).alloc o2).drew.grownBy w3 v1.ownBlock) (hfr : From w v v1) (hat : v1.ownBlock = some g ∨ g = wr.heap.size + 1 + 1) (hms : (nets.take (k + 1)).map (newOb cy) = (nets.take k).map (newOb cy) ++ [newOb cy nets[k]]) (hbs : bs ≠ w.heap.size) :
    (∃ v', ShAt (w3.setCell ⟨bs, 0, none⟩ (.slice (some ⟨g, 0, none⟩) ((L ++ (nets.take k).map (newOb cy)).length + 1) cap)) bs base v' (L ++ (nets.take (k + 1)).map (newOb cy)) ∧ From w v v') ∧
      Only bs v w (w3.setCell ⟨bs, 0, none⟩ (.slice (some ⟨g, 0, none⟩) ((L ++ (nets.take k).map (newOb cy)).length + 1) cap)) ∧
      (w3.setCell ⟨bs, 0, none⟩ (.slice (some ⟨g, 0, none⟩) ((L ++ (nets.take k).map (newOb cy)).length + 1) cap)).heap[w.heap.size]? = some (.cells #[.int .i64 cy] 3 (0, 0)) := by
  have hrow : obRows (L ++ (nets.take (k + 1)).map (newOb cy)) = obRows (L ++ (nets.take k).map (newOb cy)) ++ (newOb cy nets[k]).cells := by
    rw [hms, ← List.append_assoc, obRows_snoc]
  have hlen1 : (L ++ (nets.take (k + 1)).map (newOb cy)).length = (L ++ (nets.take k).map (newOb cy)).length + 1 := by
    rw [hms, ← List.append_assoc, List.length_append, List.length_singleton]
  have hne3 : (Value.slice (some ⟨g, 0, none⟩) ((L ++ (nets.take k).map (newOb cy)).length + 1) cap).ownBlock ≠ some bs := own_ne ho3 hb3 (by decide)
  have hz2 := hon.size
  refine ⟨⟨.slice (some ⟨g, 0, none⟩) ((L ++ (nets.take k).map (newOb cy)).length + 1) cap, ⟨?_, ?_⟩, ?_⟩, ⟨hg3.os.trans hon.os, hg3.tape.trans hon.tape, hg3.output.trans hon.output, ?_, ?_⟩, ?_⟩
  · rw [blk_set hb3]; rfl
  · rw [hrow, hlen1]
    exact own_setCell ho3 hne3 _
  · intro j hj
    have e : g = j := by simpa [Value.ownBlock] using hj
    subst e
    rcases hat with h | h
    · exact hfr g h
    · right; omega
  · have h2 := hg3.size
    have h3 := hon.size
    have h4 : ((wr.alloc o1).alloc o2).drew.heap.size = wr.heap.size + 2 := by show ((wr.alloc o1).alloc o2).heap.size = _; simp
    simp only [World.setCell, Array.size_modify]
    omega
  · intro j hj hjb hjo
    rw [Below.heap_setCell _ _ _ _ hjb, grown_far hg3 (by omega) (fun e => ?_)]
    · exact hon.block j hj hjb hjo
    · rcases hfr j e.symm with h | h
      · exact hjo h.symm
      · omega
  · rw [Below.heap_setCell _ _ _ _ (fun e => hbs e.symm)]
    exact hr3

set_option maxRecDepth 100000 in
set_option maxHeartbeats 3200000 in
theorem open_any (L : List Ob) (cy : Int) (nets : List Lg) (A : Option Addr) (c : Nat) (v : Value) (bs base : Nat) (w : World) (h : ShAt w bs base v L) (hL : Fine L) (hs : Seg w w.heap.size A (lgRows nets)) (hA : nets ≠ [] → ∀ p, A = some p → p.block ≠ bs ∧ some p.block ≠ v.ownBlock) (hbase : base ≤ w.heap.size)
    (hn : nets.length ≤ 100000) (hc : nets.length ≤ c) (hI : ∀ y ∈ nets, I64 y.n) :
    Calls Try.prog 10 #[.pointer (some ⟨bs, 0, none⟩), .int .i64 cy, .slice A nets.length c] w (SheetP bs base v (openL cy nets L) (openE cy nets L) w) := by
  have hl24 := hL.len
  have hl : L.length ≤ 1000000 := by omega
  have hlt := h.lt
  have hW0 : Below w.heap.size w (w.alloc (.cells #[.int .i64 cy] 3)) := (Below.refl _ _).alloc (Nat.le_refl _) _
  have HH := Lib.hid (h.below hW0)
  have HW0 := Lib.hid hW0
  have HS := Lib.hid hs
  have HI := Lib.hid hI
  have HA := Lib.hid hA
  have c0 := (h.below hW0).c0
  obtain ⟨A0, k0, hv⟩ := own_form h.own
  have hEdef : openE cy nets L = if 1024 - (L.length : Int) < nets.length then 6 else if L.any isOpen then 17 else if L.any (fun x => decide (cy ≤ x.c)) then 7 else if badB nets then 1 else 0 := rfl
  have HE := Lib.hid hEdef
  have hLdef : openL cy nets L = if openE cy nets L = 0 then L ++ nets.map (newOb cy) else L := rfl
  have HL := Lib.hid hLdef
  have HCO := Lib.hid (count_open L)
  subst hv
  clear h hs hI hA hW0 hEdef hLdef
  by_cases h6 : 1024 - (L.length : Int) < nets.length
  · have hE : openE cy nets L = 6 := by rw [HE.out, if_pos h6]
    have hO : openL cy nets L = L := by rw [HL.out, hE]; rfl
    have HE6 := Lib.hid hE
    have HO6 := Lib.hid hO
    clear hE hO
    go_enter Try.func10, Try.ntmps10
    go_wp2_with fail
    go_ret
    exact ⟨_, ret_int HE6.out.symm, by rw [HO6.out]; exact HH.out, Only.of_below HW0.out, from_same rfl⟩
  cases h17 : L.any isOpen
  · cases h7 : L.any (fun x => decide (cy ≤ x.c))
    · have h17' : decide (0 < countI 1 L) = false := HCO.out.trans h17
      have hE4 : openE cy nets L = if badB nets then 1 else 0 := by rw [HE.out, if_neg h6, h17, h7]; rfl
      have HE4 := Lib.hid hE4
      have H7 := Lib.hid h7
      clear hE4 h17 h7
      obtain ⟨i0, hi0, hz0, hz1', hz2⟩ := info_parts ob_info
      go_enter Try.func10, Try.ntmps10
      go_wp2_with fail
      refine (count_any L 1 _ bs base _ HH.out hl).mono ?_
      rintro e w1 ⟨rfl, hb1⟩
      have HH1 := Lib.hid (HH.out.below hb1)
      have c1 := (HH.out.below hb1).c0
      have HB1 := Lib.hid hb1
      have hz1 := hb1.size
      simp at hz1
      clear hb1
      go_wp2_with fail
      refine (has_cyc L A0 k0 _ (fun x => decide (cy ≤ x.c)) _ (Seg.of_own HH1.out.own) hl ?_).mono ?_
      · intro x W hbW
        have hzW := hbW.size
        refine cyc1_any x cy _ W ?_ (by omega)
        rw [hbW.cell (p := ⟨w.heap.size, 0, none⟩) (by simp; omega), HB1.out.cell (p := ⟨w.heap.size, 0, none⟩) (by simp), cell_new _ _ _ _ rfl]
        rfl
      rintro e w2 ⟨rfl, hb2⟩
      have HB2 := Lib.hid hb2
      have hz2' := hb2.size
      clear hb2
      rw [H7.out]
      have HW2 : Hid (Below w.heap.size w w2) := HW0.out.trans ((HB1.out.mono (by simp)).trans (HB2.out.mono (by omega)))
      have HH2 := Lib.hid (HH1.out.below HB2.out)
      have hbx : w2.heap[w.heap.size]? = some (.cells #[.int .i64 cy] 3 (0, 0)) := by
        rw [HB2.out.block _ (by omega), HB1.out.block _ (by simp)]
        exact heap_alloc_new w _
      have HBX := Lib.hid hbx
      have HS2 : Hid (Seg w2 w2.heap.size A (lgRows nets)) := (HS.out.below HW2.out).mono (by omega)
      clear hbx c1 c0
      go_wp2_with fail
      go_loopw [7, 36] (fun _ i wr => ∃ k : Nat, k ≤ nets.length ∧ i = .int .i64 k ∧ Hid (Below w2.heap.size w2 wr) ∧ Hid (∀ j (hj : j < nets.length), j < k → twiceB nets j hj = false)) (fun _ i _ => nets.length - (intOf i).toNat)
      case atStart => exact ⟨0, Nat.zero_le _, rfl, Below.refl _ _, fun _ _ h => absurd h (by omega)⟩
      case round =>
        obtain ⟨k, hk, rfl, HB, HK⟩ := hrel
        have hsz := HB.out.size
        by_cases hkl : k < nets.length
        · have HIk := Lib.hid (HI.out nets[k] (List.getElem_mem hkl))
          cases ht : twiceB nets k hkl
          · go_wp2_with (go_at_call 27; refine (twice_any nets A c k _ ((HS2.out.below HB.out).mono hsz) hkl (by omega) hc HIk.out).mono ?_; rintro e w3 ⟨rfl, hb3⟩; have HB3 := Lib.hid hb3; clear hb3)
            go_roundw
            case rel => exact ⟨k + 1, by omega, by go_num, HB.out.trans (HB3.out.mono hsz), Lib.hid (fun j hj hjk => by
              rcases Nat.lt_or_ge j k with h1 | h1
              · exact HK.out j hj h1
              · obtain rfl : j = k := by omega
                exact ht)⟩
            case measure => simp [intOf]; omega
          · have hE : openE cy nets L = 1 := by rw [HE4.out, bad_yes ht]; rfl
            have hO : openL cy nets L = L := by rw [HL.out, hE]; rfl
            have HE6 := Lib.hid hE
            have HO6 := Lib.hid hO
            clear hE hO
            go_wp2_with (go_at_call 27; refine (twice_any nets A c k _ ((HS2.out.below HB.out).mono hsz) hkl (by omega) hc HIk.out).mono ?_; rintro e w3 ⟨rfl, hb3⟩; have HB3 := Lib.hid hb3; clear hb3)
            go_ret
            have hbb : Below w2.heap.size w2 w3 := HB.out.trans (HB3.out.mono hsz)
            exact ⟨_, ret_int HE6.out.symm, by rw [HO6.out]; exact HH2.out.below hbb, Only.of_below (HW2.out.trans (hbb.mono (by omega))), from_same rfl⟩
        · obtain rfl : k = nets.length := by omega
          have hE : openE cy nets L = 0 := by rw [HE4.out, bad_none (fun j hj => HK.out j hj hj)]; rfl
          have hO : openL cy nets L = L ++ nets.map (newOb cy) := by rw [HL.out, hE]; rfl
          have HE6 := Lib.hid hE
          have HO6 := Lib.hid hO
          clear hE hO
          obtain ⟨wo, rfl⟩ : ∃ wo : World, wo = wr := ⟨_, rfl⟩
          have HHo := Lib.hid (HH2.out.below HB.out)
          have HBXo : Hid (wo.heap[w.heap.size]? = some (.cells #[.int .i64 cy] 3 (0, 0))) := (HB.out.block _ (by omega)).trans HBX.out
          have HWo : Hid (Below w.heap.size w wo) := HW2.out.trans (HB.out.mono (by omega))
          go_wp2_with fail
          go_loopw [9, 45] (fun _ i wr => ∃ k : Nat, k ≤ nets.length ∧ i = .int .i64 k ∧ Hid (∃ v', ShAt wr bs base v' (L ++ (nets.take k).map (newOb cy)) ∧ From w (.slice A0 L.length k0) v') ∧ Hid (Only bs (.slice A0 L.length k0) w wr) ∧ Hid (wr.heap[w.heap.size]? = some (.cells #[.int .i64 cy] 3 (0, 0)))) (fun _ i _ => nets.length - (intOf i).toNat)
          case atStart => exact ⟨0, Nat.zero_le _, rfl, ⟨.slice A0 L.length k0, by simpa using HHo.out, fun j hj => .inl hj⟩, Only.of_below HWo.out, HBXo.out⟩
          case round =>
            obtain ⟨k, hk, rfl, HSh, HOn, HBx⟩ := hrel
            obtain ⟨v1, hsh, hfr⟩ := HSh.out
            have HFR := Lib.hid hfr
            clear hfr
            by_cases hkl : k < nets.length
            · have hBel := HS.out.only (fun hx => HA.out fun e => hx (by rw [e]; rfl)) HOn.out
              have hszr := HOn.out.size
              have hlen : (L ++ (nets.take k).map (newOb cy)).length = L.length + k := by simp; omega
              have HLen := Lib.hid hlen
              obtain ⟨b, o, rfl, hb, n0, n1, n2⟩ := lg_at hBel hkl
              have hbx0 : wr.cell? ⟨w.heap.size, 0, none⟩ = some (.int .i64 cy) := cell_of_row _ _ _ _ _ (0, 0) HBx.out
              have hbxlt : w.heap.size < wr.heap.size := (Array.getElem?_eq_some_iff.1 HBx.out).1
              have s0 := hsh.c0
              have sf := hsh.f0
              have sblt := hsh.lt
              have hbsx : bs ≠ w.heap.size := by omega
              have HSh1 := Lib.hid hsh
              have HMS := Lib.hid (map_snoc (newOb cy) hkl)
              have hbbs : b ≠ bs := (HA.out (fun e => by rw [e] at hkl; simp at hkl) _ rfl).1
              have hbr : bs ≠ wr.heap.size := by omega
              have hbr' : wr.heap.size ≠ bs := by omega
              have hbsx' : w.heap.size ≠ bs := by omega
              have hfa : ∀ o, (wr.alloc o).frozen? ⟨bs, 0, none⟩ = false := fun o => (World.frozen?_of_block (w := wr) (heap_alloc_old' _ _ sblt)).trans sf
              have hfb : ∀ o o', ((wr.alloc o).alloc o').frozen? ⟨bs, 0, none⟩ = false := fun o o' => (World.frozen?_of_block (w := wr) ((heap_alloc_old' _ _ (by simp; omega)).trans (heap_alloc_old' _ _ sblt))).trans sf
              clear hsh hBel hlen
              go_wp2_with fail
              refine wp_region_held_drew (S := (fun w' => w'.cell? ⟨w.heap.size, 0, none⟩ = some (.int .i64 cy) ∧ w'.cell? ⟨wr.heap.size, 0, none⟩ = some (.int .i64 nets[k].m) ∧ w'.cell? ⟨wr.heap.size, 1, none⟩ = some (.int .i64 nets[k].a) ∧ w'.cell? ⟨wr.heap.size, 2, none⟩ = some (.int .i64 nets[k].n))) (by kernel_rfl) (by go_keep) (fun hHeld => ?_)
              refine wpAnyH_take (i := 0) (v := .pointer (some ⟨bs, 0, none⟩)) rfl (by kernel_rfl) (by kernel_rfl) (by kernel_rfl) (fun _ _ _ h => h) (Or.inl ⟨by rfl, fun w' hSw => by dsimp only at hSw; go_simp⟩) hHeld ?_
              refine wpAnyH_take (i := 1) (v := .pointer (some ⟨bs, 0, none⟩)) rfl (by kernel_rfl) (by kernel_rfl) (by kernel_rfl) (fun _ _ _ h => h) (Or.inl ⟨by rfl, fun w' hSw => by dsimp only at hSw; go_simp⟩) hHeld ?_
              refine wpAnyH_take (i := 2) (v := .pointer (some ⟨bs, 0, none⟩)) rfl (by kernel_rfl) (by kernel_rfl) (by kernel_rfl) (fun _ _ _ h => h) (Or.inl ⟨by rfl, fun w' hSw => by dsimp only at hSw; go_simp⟩) hHeld ?_
              refine wpAnyH_take (i := 3) (v := .pointer (some ⟨bs, 0, none⟩)) rfl (by kernel_rfl) (by kernel_rfl) (by kernel_rfl) (fun _ _ _ h => h) (Or.inl ⟨by rfl, fun w' hSw => by dsimp only at hSw; go_simp⟩) hHeld ?_
              refine wpAnyH_take (i := 5) (v := .int .i64 cy) rfl (by kernel_rfl) (by kernel_rfl) (by kernel_rfl) (fun _ _ _ h => h) (Or.inl ⟨by rfl, fun w' hSw => by dsimp only at hSw; go_simp⟩) hHeld ?_
              refine wpAnyH_take (i := 6) (v := .pointer (some ⟨wr.heap.size, 0, none⟩)) rfl (by kernel_rfl) (by kernel_rfl) (by kernel_rfl) (fun _ _ _ h => h) (Or.inl ⟨by rfl, fun w' hSw => by dsimp only at hSw; go_simp⟩) hHeld ?_
              refine wpAnyH_take (i := 7) (v := .int .i64 nets[k].m) rfl (by kernel_rfl) (by kernel_rfl) (by kernel_rfl) (fun _ _ _ h => h) (Or.inl ⟨by rfl, fun w' hSw => by dsimp only at hSw; go_simp⟩) hHeld ?_
              refine wpAnyH_take (i := 8) (v := .pointer (some ⟨wr.heap.size, 1, none⟩)) rfl (by kernel_rfl) (by kernel_rfl) (by kernel_rfl) (fun _ _ _ h => h) (Or.inl ⟨by rfl, fun w' hSw => by dsimp only at hSw; go_simp⟩) hHeld ?_
              refine wpAnyH_take (i := 9) (v := .int .i64 nets[k].a) rfl (by kernel_rfl) (by kernel_rfl) (by kernel_rfl) (fun _ _ _ h => h) (Or.inl ⟨by rfl, fun w' hSw => by dsimp only at hSw; go_simp⟩) hHeld ?_
              refine wpAnyH_take (i := 10) (v := .pointer (some ⟨wr.heap.size, 2, none⟩)) rfl (by kernel_rfl) (by kernel_rfl) (by kernel_rfl) (fun _ _ _ h => h) (Or.inl ⟨by rfl, fun w' hSw => by dsimp only at hSw; go_simp⟩) hHeld ?_
              refine wpAnyH_take (i := 11) (v := .int .i64 nets[k].n) rfl (by kernel_rfl) (by kernel_rfl) (by kernel_rfl) (fun _ _ _ h => h) (Or.inl ⟨by rfl, fun w' hSw => by dsimp only at hSw; go_simp⟩) hHeld ?_
              refine wpAnyH_take (i := 12) (v := .agg #[.int .i64 cy, .int .i64 nets[k].m, .int .i64 nets[k].a, .int .i64 nets[k].n, .int .i64 0, .int .i64 1]) rfl (by kernel_rfl) (by kernel_rfl) (by kernel_rfl) (fun _ _ _ h => h) (Or.inl ⟨by rfl, fun w' hSw => by dsimp only at hSw; go_simp⟩) hHeld ?_
              refine wpAnyH_ready (rs := [4, 13]) (by kernel_rfl) (by simp) ?_
              refine AllReadyH.cons rfl (fun K hK => ?_) (AllReadyH.cons rfl (fun K hK => ?_) AllReadyH.nil)
              · go_simp
                refine hK.out _ _ hHeld (fun hHeld => ?_)
                clear hK K
                refine wpAnyH_ready (rs := [13]) (by kernel_rfl) (by simp) ?_
                refine AllReadyH.cons rfl (fun K hK => ?_) AllReadyH.nil
                go_simp
                refine hK.out _ _ (by go_keep) (fun hHeld => ?_)
                clear hK K
                refine wpAnyH_ready (rs := [14]) (by kernel_rfl) (by simp) ?_
                refine AllReadyH.cons rfl (fun K hK => ?_) AllReadyH.nil
                refine step_append_lies _ rfl (.tmp 53) (.tmp 62) 27 rfl base 37 i0 _ 6 48 Try.underlying27 hi0 hz0 hz1' hz2 rfl (by decide) v1 _ _ rfl ((HSh1.out.own.alloc _).alloc _) ⟨wr.heap.size + 1, 0, none⟩ 1 1 (newOb cy nets[k]).cells rfl rfl (new_cells _ _ #[_, _, _, _, _, _] (by simp)) (by intro u hu; simp [Ob.cells] at hu; rcases hu with rfl | rfl | rfl | rfl | rfl | rfl <;> rfl) (by decide) (by rw [HLen.out]; simp only [maxLen]; omega) (by rw [HLen.out]; omega) (by simp; omega) (wr.heap.size + 1 + 1) (by simp) ?_
                intro g cap w3 hown3 hgr3 hat3 _
                have b3 := (grown_far hgr3 sblt (fun e => HSh1.out.ne e.symm)).trans HSh1.out.s
                have q3 := grown_new hgr3 (fun e => by have := (HSh1.out.own.lt _ e.symm).2; omega)
                have r3 := (grown_far hgr3 hbxlt (fun e => own_ne HSh1.out.own HBx.out (by decide) e.symm)).trans HBx.out
                have s3 : w3.cell? ⟨bs, 0, none⟩ = some v1 := cell_of_row _ _ _ _ _ (0, 0) b3
                have f3 : w3.frozen? ⟨bs, 0, none⟩ = false := by simp [World.frozen?, b3]
                have x3 : w3.cell? ⟨w.heap.size, 0, none⟩ = some (.int .i64 cy) := cell_of_row _ _ _ _ _ (0, 0) r3
                have m3 : w3.cell? ⟨wr.heap.size, 0, none⟩ = some (.int .i64 nets[k].m) := cell_of_row _ _ _ _ _ (0, 0) q3
                have a3 : w3.cell? ⟨wr.heap.size, 1, none⟩ = some (.int .i64 nets[k].a) := cell_of_row _ _ _ _ _ (0, 0) q3
                have n3 : w3.cell? ⟨wr.heap.size, 2, none⟩ = some (.int .i64 nets[k].n) := cell_of_row _ _ _ _ _ (0, 0) q3
                have HO3 := Lib.hid hown3
                have HG3 := Lib.hid hgr3
                have HA3 := Lib.hid hat3
                have HB3 := Lib.hid b3
                have HR3 := Lib.hid r3
                clear hown3 hgr3 hat3 b3 q3 r3
                refine hK.out _ _ ⟨x3, m3, a3, n3⟩ (fun hHeld => ?_)
                clear hK K
                refine wpAnyH_take (i := 15) (v := .pointer (some ⟨bs, 0, none⟩)) rfl (by kernel_rfl) (by kernel_rfl) (by kernel_rfl) (fun _ _ _ h => h) (Or.inl ⟨by rfl, fun w' hSw => by dsimp only at hSw; go_simp⟩) hHeld ?_
                refine wpAnyH_take (i := 16) (v := .pointer (some ⟨bs, 0, none⟩)) rfl (by kernel_rfl) (by kernel_rfl) (by kernel_rfl) (fun _ _ _ h => h) (Or.inl ⟨by rfl, fun w' hSw => by dsimp only at hSw; go_simp⟩) hHeld ?_
                refine wpAnyH_ready (rs := [17]) (by kernel_rfl) (by simp) ?_
                refine AllReadyH.cons rfl (fun K hK => ?_) AllReadyH.nil
                go_simp
                refine hK.out _ _ ⟨(World.cell?_setCell_other _ _ _ _ (fun e => hbsx (congrArg Addr.block e))).trans x3, (World.cell?_setCell_other _ _ _ _ (fun e => hbr (congrArg Addr.block e))).trans m3, (World.cell?_setCell_other _ _ _ _ (fun e => hbr (congrArg Addr.block e))).trans a3, (World.cell?_setCell_other _ _ _ _ (fun e => hbr (congrArg Addr.block e))).trans n3⟩ (fun hHeld => ?_)
                clear hK K hHeld
                refine wpAnyH_done (by kernel_rfl) ?_ _
                have hrel2 := open_step HOn.out HB3.out HR3.out HO3.out HG3.out HFR.out HA3.out HMS.out hbsx
                rw [HLen.out] at hrel2
                have HREL := Lib.hid hrel2
                clear hrel2
                clear s3 f3 x3 m3 a3 n3 s0 sf hfa hfb hbx0 n0 n1 n2
                go_wp2_with fail
                go_roundw
                case rel => exact ⟨k + 1, by omega, by go_num, HREL.out.1, HREL.out.2.1, HREL.out.2.2⟩
                case measure => simp [intOf]; omega
              · go_simp
                refine hK.out _ _ (by go_keep) (fun hHeld => ?_)
                clear hK K
                refine wpAnyH_ready (rs := [4]) (by kernel_rfl) (by simp) ?_
                refine AllReadyH.cons rfl (fun K hK => ?_) AllReadyH.nil
                go_simp
                refine hK.out _ _ hHeld (fun hHeld => ?_)
                clear hK K
                refine wpAnyH_ready (rs := [14]) (by kernel_rfl) (by simp) ?_
                refine AllReadyH.cons rfl (fun K hK => ?_) AllReadyH.nil
                refine step_append_lies _ rfl (.tmp 53) (.tmp 62) 27 rfl base 37 i0 _ 6 48 Try.underlying27 hi0 hz0 hz1' hz2 rfl (by decide) v1 _ _ rfl ((HSh1.out.own.alloc _).alloc _) ⟨wr.heap.size + 1, 0, none⟩ 1 1 (newOb cy nets[k]).cells rfl rfl (new_cells _ _ #[_, _, _, _, _, _] (by simp)) (by intro u hu; simp [Ob.cells] at hu; rcases hu with rfl | rfl | rfl | rfl | rfl | rfl <;> rfl) (by decide) (by rw [HLen.out]; simp only [maxLen]; omega) (by rw [HLen.out]; omega) (by simp; omega) (wr.heap.size + 1 + 1) (by simp) ?_
                intro g cap w3 hown3 hgr3 hat3 _
                have b3 := (grown_far hgr3 sblt (fun e => HSh1.out.ne e.symm)).trans HSh1.out.s
                have q3 := grown_new hgr3 (fun e => by have := (HSh1.out.own.lt _ e.symm).2; omega)
                have r3 := (grown_far hgr3 hbxlt (fun e => own_ne HSh1.out.own HBx.out (by decide) e.symm)).trans HBx.out
                have s3 : w3.cell? ⟨bs, 0, none⟩ = some v1 := cell_of_row _ _ _ _ _ (0, 0) b3
                have f3 : w3.frozen? ⟨bs, 0, none⟩ = false := by simp [World.frozen?, b3]
                have x3 : w3.cell? ⟨w.heap.size, 0, none⟩ = some (.int .i64 cy) := cell_of_row _ _ _ _ _ (0, 0) r3
                have m3 : w3.cell? ⟨wr.heap.size, 0, none⟩ = some (.int .i64 nets[k].m) := cell_of_row _ _ _ _ _ (0, 0) q3
                have a3 : w3.cell? ⟨wr.heap.size, 1, none⟩ = some (.int .i64 nets[k].a) := cell_of_row _ _ _ _ _ (0, 0) q3
                have n3 : w3.cell? ⟨wr.heap.size, 2, none⟩ = some (.int .i64 nets[k].n) := cell_of_row _ _ _ _ _ (0, 0) q3
                have HO3 := Lib.hid hown3
                have HG3 := Lib.hid hgr3
                have HA3 := Lib.hid hat3
                have HB3 := Lib.hid b3
                have HR3 := Lib.hid r3
                clear hown3 hgr3 hat3 b3 q3 r3
                refine hK.out _ _ ⟨x3, m3, a3, n3⟩ (fun hHeld => ?_)
                clear hK K
                refine wpAnyH_take (i := 15) (v := .pointer (some ⟨bs, 0, none⟩)) rfl (by kernel_rfl) (by kernel_rfl) (by kernel_rfl) (fun _ _ _ h => h) (Or.inl ⟨by rfl, fun w' hSw => by dsimp only at hSw; go_simp⟩) hHeld ?_
                refine wpAnyH_take (i := 16) (v := .pointer (some ⟨bs, 0, none⟩)) rfl (by kernel_rfl) (by kernel_rfl) (by kernel_rfl) (fun _ _ _ h => h) (Or.inl ⟨by rfl, fun w' hSw => by dsimp only at hSw; go_simp⟩) hHeld ?_
                refine wpAnyH_ready (rs := [17]) (by kernel_rfl) (by simp) ?_
                refine AllReadyH.cons rfl (fun K hK => ?_) AllReadyH.nil
                go_simp
                refine hK.out _ _ ⟨(World.cell?_setCell_other _ _ _ _ (fun e => hbsx (congrArg Addr.block e))).trans x3, (World.cell?_setCell_other _ _ _ _ (fun e => hbr (congrArg Addr.block e))).trans m3, (World.cell?_setCell_other _ _ _ _ (fun e => hbr (congrArg Addr.block e))).trans a3, (World.cell?_setCell_other _ _ _ _ (fun e => hbr (congrArg Addr.block e))).trans n3⟩ (fun hHeld => ?_)
                clear hK K hHeld
                refine wpAnyH_done (by kernel_rfl) ?_ _
                have hrel2 := open_step HOn.out HB3.out HR3.out HO3.out HG3.out HFR.out HA3.out HMS.out hbsx
                rw [HLen.out] at hrel2
                have HREL := Lib.hid hrel2
                clear hrel2
                clear s3 f3 x3 m3 a3 n3 s0 sf hfa hfb hbx0 n0 n1 n2
                go_wp2_with fail
                go_roundw
                case rel => exact ⟨k + 1, by omega, by go_num, HREL.out.1, HREL.out.2.1, HREL.out.2.2⟩
                case measure => simp [intOf]; omega
            · obtain rfl : k = nets.length := by omega
              have HSh1 := Lib.hid hsh
              clear hsh
              go_wp2_with fail
              go_ret
              refine ⟨v1, ret_int HE6.out.symm, ?_, HOn.out, HFR.out⟩
              rw [HO6.out]
              have := HSh1.out
              rw [List.take_length] at this
              exact this
    · have hE : openE cy nets L = 7 := by rw [HE.out, if_neg h6, h17, h7]; rfl
      have hO : openL cy nets L = L := by rw [HL.out, hE]; rfl
      have HE6 := Lib.hid hE
      have HO6 := Lib.hid hO
      have h17' : decide (0 < countI 1 L) = false := HCO.out.trans h17
      have H7 := Lib.hid h7
      clear hE hO h17 h7
      go_enter Try.func10, Try.ntmps10
      go_wp2_with fail
      refine (count_any L 1 _ bs base _ HH.out hl).mono ?_
      rintro e w1 ⟨rfl, hb1⟩
      have HH1 := Lib.hid (HH.out.below hb1)
      have c1 := (HH.out.below hb1).c0
      have HB1 := Lib.hid hb1
      have hz1 := hb1.size
      simp at hz1
      clear hb1
      go_wp2_with fail
      refine (has_cyc L A0 k0 _ (fun x => decide (cy ≤ x.c)) _ (Seg.of_own HH1.out.own) hl ?_).mono ?_
      · intro x W hbW
        have hzW := hbW.size
        refine cyc1_any x cy _ W ?_ (by omega)
        rw [hbW.cell (p := ⟨w.heap.size, 0, none⟩) (by simp; omega), HB1.out.cell (p := ⟨w.heap.size, 0, none⟩) (by simp), cell_new _ _ _ _ rfl]
        rfl
      rintro e w2 ⟨rfl, hb2⟩
      have HB2 := Lib.hid hb2
      clear hb2
      rw [H7.out]
      go_wp2_with fail
      go_ret
      exact ⟨_, ret_int HE6.out.symm, by rw [HO6.out]; exact HH1.out.below HB2.out, Only.of_below (HW0.out.trans ((HB1.out.mono (by simp)).trans (HB2.out.mono (by omega)))), from_same rfl⟩
  · have hE : openE cy nets L = 17 := by rw [HE.out, if_neg h6, h17]; rfl
    have hO : openL cy nets L = L := by rw [HL.out, hE]; rfl
    have HE6 := Lib.hid hE
    have HO6 := Lib.hid hO
    have h17' : decide (0 < countI 1 L) = true := HCO.out.trans h17
    clear hE hO h17
    go_enter Try.func10, Try.ntmps10
    go_wp2_with fail
    refine (count_any L 1 _ bs base _ HH.out hl).mono ?_
    rintro e w1 ⟨rfl, hb1⟩
    have HB1 := Lib.hid hb1
    clear hb1
    go_wp2_with fail
    go_ret
    exact ⟨_, ret_int HE6.out.symm, by rw [HO6.out]; exact HH.out.below HB1.out, Only.of_below (HW0.out.trans (HB1.out.mono (by simp))), from_same rfl⟩
end Go.Proofs.Ytkjkkcaiddeggaa
