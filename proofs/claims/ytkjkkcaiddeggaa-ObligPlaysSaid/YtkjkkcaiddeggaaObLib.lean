/-
  What slices.Clone and slices.IndexFunc come to at obligations, over this seat's translation: contracts for callers.
-/
import Derived.Test.YtkjkkcaiddeggaaProg
import Derived.Test.YtkjkkcaiddeggaaObPlain
namespace Go.Proofs.Ytkjkkcaiddeggaa
open Go.RowKit

theorem ob_info : (Try.prog.info? 37).map (fun i => (i.zero, i.size, i.bytes)) = some (some (.agg #[.int .i64 0, .int .i64 0, .int .i64 0, .int .i64 0, .int .i64 0, .int .i64 0]), 6, 48) := by kernel_rfl
theorem ob_one (L : List Ob) : ∀ u ∈ obRows L, u.oneCell' = true := by
  intro u hu
  unfold obRows at hu
  obtain ⟨x, _, hx⟩ := List.mem_flatMap.1 hu
  simp [Ob.cells] at hx
  rcases hx with rfl | rfl | rfl | rfl | rfl | rfl <;> rfl
theorem ob_len (L : List Ob) : (obRows L).length = L.length * 6 := by
  unfold obRows
  induction L with
  | nil => rfl
  | cons a l ih => rw [List.flatMap_cons, List.length_append, ih]; simp [Ob.cells]; omega

/-- A slice of obligations of one's own has come back. -/
def GotObs (w : World) (L : List Ob) (e : Ending) (w' : World) : Prop :=
  ∃ v, e = .returned v ∧ w'.ownsRow w.heap.size 37 6 v L.length (obRows L) ∧ Below w.heap.size w w'

set_option maxHeartbeats 400000 in
theorem clone_any (L : List Ob) (v : Value) (base : Nat) (w : World) (hown : w.ownsRow base 37 6 v L.length (obRows L)) (hl : L.length ≤ 1000000) :
    Calls Try.prog 24 #[v] w (GotObs w L) := by
  obtain ⟨i0, hi0, hz0, hz1, hz2⟩ := info_parts ob_info
  have hq := slice_is_nil Try.underlying27
  rcases hown.2 with ⟨rfl, h0⟩ | ⟨g, cap, cur, rfl, hg, hh, hnc, hcm, hcs, htk⟩
  · have hL : L = [] := List.eq_nil_of_length_eq_zero h0
    subst hL
    clear h0 hown hi0 hz0 hz1 hz2 hl
    go_enter Try.func24, Try.ntmps24
    go_wp2
    go_ret
    exact ⟨_, rfl, ⟨by simp [obRows], Or.inl ⟨rfl, rfl⟩⟩, Below.refl _ _⟩
  · have hcells := hown.cells (g := g) rfl
    have HC := Lib.hid hcells
    have hlt : g < w.heap.size := (Array.getElem?_eq_some_iff.1 hh).1
    have HL := Lib.hid (ob_len L)
    clear hown hh hcells hcs htk hnc hcm hg
    go_enter Try.func24, Try.ntmps24
    go_wp2_with (at_builtin; refine wpList_append_own _ rfl _ _ 27 rfl w.heap.size 37 i0 _ 6 48 Try.underlying27 hi0 hz0 hz1 hz2 rfl (by decide) _ 0 [] rfl ?c0 ⟨g, 0, none⟩ L.length cap (obRows L) rfl HL.out ?c1 (ob_one L) ?c3 ?c4 ?c5 ?_)
    case c0 => exact own_empty w _ 6
    case c1 => exact fun j u hu => (World.cell?_alloc_lt _ _ _ (by rw [addr_block]; exact hlt)).trans (HC.out j u hu)
    case c3 => simp only [maxLen]; omega
    case c4 => omega
    case c5 => simp
    intro v' w1 hown1 hgrow1 _
    have HO1 := Lib.hid hown1
    have HG1 := Lib.hid hgrow1
    clear hown1 hgrow1
    go_wp2
    go_ret
    refine ⟨_, rfl, by simpa using HO1.out, ((Below.refl _ _).alloc (Nat.le_refl _) _).grown HG1.out (by simp) ?_⟩
    intro k hk
    simp [Value.ownBlock] at hk
    omega

theorem findIdx_before {α : Type} (p : α → Bool) (l : List α) (k : Nat) (h : (l.take k).any p = false) : k ≤ l.length → k ≤ l.findIdx p := by
  intro hk
  rw [List.any_eq_false] at h
  rcases Nat.lt_or_ge (l.findIdx p) k with hlt | hge
  · exfalso
    have hl : l.findIdx p < l.length := by omega
    have h1 := List.findIdx_getElem (xs := l) (p := p) (w := hl)
    have : l[l.findIdx p] ∈ l.take k := by rw [List.mem_take_iff_getElem]; exact ⟨_, by omega, rfl⟩
    exact h _ this h1
  · exact hge
def idxI {α : Type} (p : α → Bool) (l : List α) : Int := if l.findIdx p < l.length then (l.findIdx p : Int) else -1
theorem any_snoc {α : Type} (p : α → Bool) {l : List α} {k : Nat} (hk : k < l.length) : (l.take (k + 1)).any p = ((l.take k).any p || p l[k]) := by
  rw [List.take_succ_eq_append_getElem hk, List.any_append]; simp
theorem idx_found {α : Type} (p : α → Bool) {l : List α} {k : Nat} (hk : k < l.length) (h : (l.take k).any p = false) (hp : p l[k] = true) : (k : Int) = idxI p l := by
  have h1 := findIdx_before p l k h (by omega)
  have h2 : l.findIdx p ≤ k := by
    rcases Nat.lt_or_ge k (l.findIdx p) with hlt | hge
    · have := List.not_of_lt_findIdx hlt
      simp [hp] at this
    · exact hge
  have e : l.findIdx p = k := by omega
  unfold idxI
  rw [e, if_pos hk]
theorem idx_none {α : Type} (p : α → Bool) {l : List α} (h : l.any p = false) : (-1 : Int) = idxI p l := by
  unfold idxI
  rw [if_neg]
  intro hl
  have h1 := List.findIdx_getElem (xs := l) (p := p) (w := hl)
  rw [List.any_eq_false] at h
  exact h _ (List.getElem_mem hl) h1

theorem ret_int {k : IntKind} {a b : Int} (h : a = b) : Ending.returned (.int k a) = .returned (.int k b) := by rw [h]
theorem ret_bool {a b : Bool} (h : a = b) : Ending.returned (.bool a) = .returned (.bool b) := by rw [h]

set_option maxHeartbeats 400000 in
theorem index_find (L : List Ob) (A : Option Addr) (c : Nat) (c1 c2 : Value) (p : Ob → Bool) (w : World) (hs : Seg w w.heap.size A (obRows L)) (hl : L.length ≤ 1000000)
    (hp : ∀ (x : Ob) (W : World), Below w.heap.size w W → Calls Try.prog 47 #[x.val, c1, c2] W fun e w' => e = .returned (.bool (p x)) ∧ Below W.heap.size W w') :
    Calls Try.prog 43 #[.slice A L.length c, .func (.func 47) #[] #[c1, c2]] w fun e w' => e = .returned (.int .i64 (idxI p L)) ∧ Below w.heap.size w w' := by
  have HS := Lib.hid hs
  have HP := Lib.hid hp
  clear hs hp
  go_enter Try.func43, Try.ntmps43
  go_wp2_with fail
  go_loopw [5, 8] (fun _ i wr => ∃ k : Nat, k ≤ L.length ∧ i = .int .i64 k ∧ Hid (Below w.heap.size w wr) ∧ Hid ((L.take k).any p = false)) (fun _ i _ => L.length - (intOf i).toNat)
  case atStart => exact ⟨0, Nat.zero_le _, rfl, Below.refl _ _, rfl⟩
  case round =>
    obtain ⟨k, hk, rfl, HB, HK⟩ := hrel
    have hsz := HB.out.size
    by_cases hlt : k < L.length
    · obtain ⟨b, o, rfl, hb, d0, d1, d2, d3, d4, d5⟩ := ob_at (HS.out.below HB.out) hlt
      have HA := Lib.hid (any_snoc p hlt)
      cases hp : p L[k]
      · go_wp2_with (go_at_call 47; refine (HP.out L[k] _ HB.out).mono ?_; rintro e w1 ⟨rfl, hb1⟩; have HB1 := Lib.hid hb1; clear hb1)
        go_roundw
        case rel => exact ⟨k + 1, by omega, by go_num, HB.out.trans (HB1.out.mono hsz), Lib.hid (by rw [HA.out, HK.out, hp]; rfl)⟩
        case measure => simp [intOf]; omega
      · have HF := Lib.hid (idx_found p hlt HK.out hp)
        go_wp2_with (go_at_call 47; refine (HP.out L[k] _ HB.out).mono ?_; rintro e w1 ⟨rfl, hb1⟩; have HB1 := Lib.hid hb1; clear hb1)
        go_ret
        exact ⟨ret_int HF.out, HB.out.trans (HB1.out.mono hsz)⟩
    · obtain rfl : k = L.length := by omega
      have hn := HK.out
      rw [List.take_length] at hn
      have HN := Lib.hid (idx_none p hn)
      clear hn
      go_wp2_with fail
      go_ret
      exact ⟨ret_int HN.out, HB.out⟩

set_option maxHeartbeats 400000 in
theorem index_cyc (L : List Ob) (A : Option Addr) (c : Nat) (c1 : Value) (p : Ob → Bool) (w : World) (hs : Seg w w.heap.size A (obRows L)) (hl : L.length ≤ 1000000)
    (hp : ∀ (x : Ob) (W : World), Below w.heap.size w W → Calls Try.prog 26 #[x.val, c1] W fun e w' => e = .returned (.bool (p x)) ∧ Below W.heap.size W w') :
    Calls Try.prog 43 #[.slice A L.length c, .func (.func 26) #[] #[c1]] w fun e w' => e = .returned (.int .i64 (idxI p L)) ∧ Below w.heap.size w w' := by
  have HS := Lib.hid hs
  have HP := Lib.hid hp
  clear hs hp
  go_enter Try.func43, Try.ntmps43
  go_wp2_with fail
  go_loopw [5, 8] (fun _ i wr => ∃ k : Nat, k ≤ L.length ∧ i = .int .i64 k ∧ Hid (Below w.heap.size w wr) ∧ Hid ((L.take k).any p = false)) (fun _ i _ => L.length - (intOf i).toNat)
  case atStart => exact ⟨0, Nat.zero_le _, rfl, Below.refl _ _, rfl⟩
  case round =>
    obtain ⟨k, hk, rfl, HB, HK⟩ := hrel
    have hsz := HB.out.size
    by_cases hlt : k < L.length
    · obtain ⟨b, o, rfl, hb, d0, d1, d2, d3, d4, d5⟩ := ob_at (HS.out.below HB.out) hlt
      have HA := Lib.hid (any_snoc p hlt)
      cases hp : p L[k]
      · go_wp2_with (go_at_call 26; refine (HP.out L[k] _ HB.out).mono ?_; rintro e w1 ⟨rfl, hb1⟩; have HB1 := Lib.hid hb1; clear hb1)
        go_roundw
        case rel => exact ⟨k + 1, by omega, by go_num, HB.out.trans (HB1.out.mono hsz), Lib.hid (by rw [HA.out, HK.out, hp]; rfl)⟩
        case measure => simp [intOf]; omega
      · have HF := Lib.hid (idx_found p hlt HK.out hp)
        go_wp2_with (go_at_call 26; refine (HP.out L[k] _ HB.out).mono ?_; rintro e w1 ⟨rfl, hb1⟩; have HB1 := Lib.hid hb1; clear hb1)
        go_ret
        exact ⟨ret_int HF.out, HB.out.trans (HB1.out.mono hsz)⟩
    · obtain rfl : k = L.length := by omega
      have hn := HK.out
      rw [List.take_length] at hn
      have HN := Lib.hid (idx_none p hn)
      clear hn
      go_wp2_with fail
      go_ret
      exact ⟨ret_int HN.out, HB.out⟩

set_option maxHeartbeats 400000 in
theorem index_like (L : List Lg) (A : Option Addr) (c : Nat) (c1 : Value) (p : Lg → Bool) (w : World) (hs : Seg w w.heap.size A (lgRows L)) (hl : L.length ≤ 1000000)
    (hp : ∀ (x : Lg) (W : World), Below w.heap.size w W → Calls Try.prog 46 #[x.val, c1] W fun e w' => e = .returned (.bool (p x)) ∧ Below W.heap.size W w') :
    Calls Try.prog 51 #[.slice A L.length c, .func (.func 46) #[] #[c1]] w fun e w' => e = .returned (.int .i64 (idxI p L)) ∧ Below w.heap.size w w' := by
  have HS := Lib.hid hs
  have HP := Lib.hid hp
  clear hs hp
  go_enter Try.func51, Try.ntmps51
  go_wp2_with fail
  go_loopw [5, 8] (fun _ i wr => ∃ k : Nat, k ≤ L.length ∧ i = .int .i64 k ∧ Hid (Below w.heap.size w wr) ∧ Hid ((L.take k).any p = false)) (fun _ i _ => L.length - (intOf i).toNat)
  case atStart => exact ⟨0, Nat.zero_le _, rfl, Below.refl _ _, rfl⟩
  case round =>
    obtain ⟨k, hk, rfl, HB, HK⟩ := hrel
    have hsz := HB.out.size
    by_cases hlt : k < L.length
    · obtain ⟨b, o, rfl, hb, d0, d1, d2⟩ := lg_at (HS.out.below HB.out) hlt
      have HA := Lib.hid (any_snoc p hlt)
      cases hp : p L[k]
      · go_wp2_with (go_at_call 46; refine (HP.out L[k] _ HB.out).mono ?_; rintro e w1 ⟨rfl, hb1⟩; have HB1 := Lib.hid hb1; clear hb1)
        go_roundw
        case rel => exact ⟨k + 1, by omega, by go_num, HB.out.trans (HB1.out.mono hsz), Lib.hid (by rw [HA.out, HK.out, hp]; rfl)⟩
        case measure => simp [intOf]; omega
      · have HF := Lib.hid (idx_found p hlt HK.out hp)
        go_wp2_with (go_at_call 46; refine (HP.out L[k] _ HB.out).mono ?_; rintro e w1 ⟨rfl, hb1⟩; have HB1 := Lib.hid hb1; clear hb1)
        go_ret
        exact ⟨ret_int HF.out, HB.out.trans (HB1.out.mono hsz)⟩
    · obtain rfl : k = L.length := by omega
      have hn := HK.out
      rw [List.take_length] at hn
      have HN := Lib.hid (idx_none p hn)
      clear hn
      go_wp2_with fail
      go_ret
      exact ⟨ret_int HN.out, HB.out⟩

end Go.Proofs.Ytkjkkcaiddeggaa
