/-
  What fall.give comes to, over this seat's translation: a contract for callers.
-/
import Derived.Test.YtglpnpjjjihghaaFl1
import Derived.Test.YtglpnpjjjihghaaMgD
import Derived.Test.YtglpnpjjjihghaaAlLaw
import Derived.Laws.EntriesVeiled
namespace Go.Proofs.Ytglpnpjjjihghaa
open Go.RowKit

theorem alL_le (T : Int) (l : List Int) : (alL T l).length ≤ l.length := by
  unfold alL appL
  split
  · simp
  · split
    · exact Nat.le_refl _
    · split
      · simp
      · split
        · simp
        · rw [rowF_len]
          exact Nat.le_refl _
theorem alL_I64 {T : Int} {l : List Int} (hl : ∀ x ∈ l, I64 x) : ∀ x ∈ alL T l, I64 x := by
  intro x hx
  by_cases h : chkE T l = 0
  · have G := given_of h
    obtain ⟨i, hi, rfl⟩ := List.getElem_of_mem hx
    have hi' : i < l.length := by rw [← G.len]; exact hi
    have := G.bd i hi hi'
    have h2 := hl _ (List.getElem_mem hi')
    unfold I64 at *
    omega
  · unfold alL at hx
    rw [if_pos h] at hx
    simp at hx
def dwNs (s : List Dw) : List Int := s.map (·.n)
theorem dwNs_snoc {s : List Dw} {k : Nat} (hk : k < s.length) : dwNs (s.take (k + 1)) = dwNs (s.take k) ++ [s[k].n] := by
  unfold dwNs; rw [List.take_succ_eq_append_getElem hk, List.map_append]; rfl
/-- Draws of the sources, of what each is given, if it is something. -/
def dwSome (s : List Dw) (xs : List Int) : List Dw := (List.zipWith (fun (x : Dw) n => (⟨x.k, x.m, n⟩ : Dw)) s xs).filter fun x => decide (0 < x.n)
theorem dwSome_snoc {s : List Dw} {xs : List Int} {k : Nat} (h : k < s.length) (h' : k < xs.length) : dwSome (s.take (k + 1)) (xs.take (k + 1)) = dwSome (s.take k) (xs.take k) ++ if 0 < xs[k] then [⟨s[k].k, s[k].m, xs[k]⟩] else [] := by
  unfold dwSome
  rw [List.take_succ_eq_append_getElem h, List.take_succ_eq_append_getElem h', List.zipWith_append (by simp; omega), List.filter_append]
  by_cases hp : 0 < xs[k] <;> simp [hp]
theorem dwSome_len (s : List Dw) (xs : List Int) (k : Nat) : (dwSome (s.take k) (xs.take k)).length ≤ k := by
  unfold dwSome
  refine Nat.le_trans (List.length_filter_le _ _) ?_
  rw [List.length_zipWith, List.length_take]
  omega
theorem zip_full {α β γ : Type} (f : α → β → γ) : ∀ (s : List α) (xs : List β), xs.length ≤ s.length → List.zipWith f (s.take xs.length) xs = List.zipWith f s xs
  | _, [], _ => by simp
  | [], _ :: _, h => by simp at h
  | x :: s, y :: xs, h => by
    rw [List.length_cons, List.take_succ_cons, List.zipWith_cons_cons, List.zipWith_cons_cons, zip_full f s xs (by simpa using h)]
theorem dwSome_full (s : List Dw) (xs : List Int) (h : xs.length ≤ s.length) : dwSome (s.take xs.length) (xs.take xs.length) = dwSome s xs := by
  unfold dwSome
  rw [List.take_length, zip_full _ _ _ h]
def giveL (s : List Dw) (need : Int) : List Dw := dwSome s (alL need (dwNs s))
/-- Draws of one's own have come back. -/
def GotDw (l : List Dw) (w : World) (e : Ending) (w' : World) : Prop := ∃ A c, e = .returned (.slice A l.length c) ∧ w'.ownsRow w.heap.size 47 3 (.slice A l.length c) l.length (dwRows l) ∧ Below w.heap.size w w'
set_option maxRecDepth 100000 in
set_option maxHeartbeats 3200000 in
theorem give_any (s : List Dw) (need : Int) (A : Option Addr) (c : Nat) (w : World) (hs : Seg w w.heap.size A (dwRows s)) (hI : ∀ x ∈ s, I64 x.n) (hN : I64 need) (hl : s.length ≤ 1000) :
    Calls Try.prog 48 #[.slice A s.length c, .int .i64 need] w (GotDw (giveL s need) w) := by
  obtain ⟨i0, hi0, hz0, hz1, hz2⟩ := info_parts dw_info
  obtain ⟨j0, hj0, jz0, jz1, jz2⟩ := info_parts (show (Try.prog.info? 2).map (fun i => (i.zero, i.size, i.bytes)) = some (some (.int .i64 0), 1, 8) by kernel_rfl)
  have HS := Lib.hid hs
  have HI := Lib.hid hI
  have HN := Lib.hid hN
  clear hs hI hN
  go_enter Try.func48, Try.ntmps48
  go_wp2_with fail
  go_loopw [5, 15] (fun u i wr => ∃ k : Nat, k ≤ s.length ∧ i = .int .i64 k ∧ Hid (wr.ownsRow w.heap.size 2 1 u k ((dwNs (s.take k)).map (Value.int .i64))) ∧ Hid (Below w.heap.size w wr)) (fun _ i _ => s.length - (intOf i).toNat)
  case atStart => exact ⟨0, Nat.zero_le _, rfl, World.ownsRow_nil _ _ _ _, Below.refl _ _⟩
  case round =>
    obtain ⟨k, hk, rfl, HO, HB⟩ := hrel
    have hsz := HB.out.size
    by_cases hlt : k < s.length
    · obtain ⟨b, o, rfl, hb, d0, d1, d2⟩ := dw_at (HS.out.below HB.out) hlt
      have HSN := Lib.hid (dwNs_snoc hlt)
      generalize s[k].n = n at *
      generalize s[k].k = kk at *
      generalize s[k].m = mm at *
      generalize dwNs (s.take k) = ys at *
      have HO1 : Hid (∀ ob, (wr.alloc ob).ownsRow w.heap.size 2 1 _ k (ys.map (Value.int .i64))) := Lib.hid fun ob => HO.out.alloc ob
      have HB1 : Hid (∀ ob, Below w.heap.size w (wr.alloc ob)) := Lib.hid fun ob => HB.out.alloc hsz ob
      go_wp2_with (at_builtin; refine wpList_append_own _ rfl _ _ 35 rfl w.heap.size 2 j0 _ 1 8 Try.underlying35 hj0 jz0 jz1 jz2 rfl (by decide) _ k (ys.map (Value.int .i64)) rfl ((HO1.out _).alloc _) ⟨wr.heap.size + 1, 0, none⟩ 1 1 [.int .i64 n] rfl rfl (new_cells _ _ #[_] (by simp)) one_int (by simp only [maxLen]; omega) (by omega) (by simp; omega) ?_)
      intro v' w4 hown1 hgrow1 _
      have HO4 : Hid (w4.ownsRow w.heap.size 2 1 v' (k + 1) ((dwNs (s.take (k + 1))).map (Value.int .i64))) := Lib.hid (by
        rw [HSN.out, List.map_append]
        exact hown1)
      have HB4 : Hid (Below w.heap.size w w4) := Lib.hid (((HB1.out _).alloc (by simp; omega) _).grown hgrow1 (by simp; omega) (fun j hj => own_base HO.out j hj))
      clear hown1 hgrow1
      go_wp2_with fail
      go_roundw
      case rel => exact ⟨k + 1, by omega, by go_num, HO4, HB4⟩
      case measure => simp [intOf]; omega
    · obtain rfl : k = s.length := by omega
      have hO := HO.out
      rw [List.take_length] at hO
      obtain ⟨A1, c1, rfl⟩ := own_form hO
      have hnl : (dwNs s).length = s.length := by simp [dwNs]
      have HAL := Lib.hid (Allocate_any need (dwNs s) A1 c1 wr HN.out (fun z hz => by
        obtain ⟨y, hy, rfl⟩ := List.mem_map.1 hz
        exact HI.out y hy) (Seg.of_own hO) (by unfold maxLen; omega))
      rw [hnl] at HAL
      have hal := alL_le need (dwNs s)
      rw [hnl] at hal
      have HG : Hid (giveL s need = dwSome s (alL need (dwNs s))) := Lib.hid rfl
      clear hO HO hnl
      generalize alL need (dwNs s) = zs at *
      generalize alE need (dwNs s) = ze at *
      go_wp2_with (go_at_call 71; refine HAL.out.mono ?_; rintro e w2 ⟨A2, c2, rfl, hs2, hb2⟩; have HS2 := Lib.hid hs2; have HB2 : Hid (Below w.heap.size w w2) := Lib.hid (HB.out.trans (hb2.mono hsz)); clear hs2 hb2)
      have hsz2 := HB2.out.size
      go_loopw [10, 33] (fun u i wr => ∃ k : Nat, k ≤ zs.length ∧ i = .int .i64 k ∧ Hid (wr.ownsRow w2.heap.size 47 3 u (dwSome (s.take k) (zs.take k)).length (dwRows (dwSome (s.take k) (zs.take k)))) ∧ Hid (Below w2.heap.size w2 wr)) (fun _ i _ => zs.length - (intOf i).toNat)
      case atStart => exact ⟨0, Nat.zero_le _, rfl, ⟨by simp [dwSome, dwRows], Or.inl ⟨rfl, rfl⟩⟩, Below.refl _ _⟩
      case round =>
        clear hsz HB
        obtain ⟨k, hk, rfl, HO, HB⟩ := hrel
        have hsz := HB.out.size
        have HBW : Hid (Below w.heap.size w wr) := Lib.hid (HB2.out.trans (HB.out.mono hsz2))
        by_cases hlt : k < zs.length
        · have hls : k < s.length := by omega
          obtain ⟨b, o, rfl, hb, d0, d1, d2⟩ := dw_at (HS.out.below HBW.out) hls
          obtain ⟨b2, o2, rfl, hb2, hc2⟩ := int_at (HS2.out.below HB.out) hlt
          have HSN := Lib.hid (dwSome_snoc hls hlt)
          have hyl := dwSome_len s zs k
          have hkb : (k : Int) < (s.length : Int) := by omega
          have hk0 : (0 : Int) ≤ (k : Int) := by omega
          generalize s[k].k = kk at *
          generalize s[k].m = mm at *
          generalize dwSome (s.take k) (zs.take k) = ys at *
          generalize zs[k] = z at *
          by_cases hp : 0 < z
          · rw [if_pos hp] at HSN
            go_wp2_with (at_builtin; refine wpList_append_own _ rfl _ _ 86 rfl w2.heap.size 47 i0 _ 3 24 Try.underlying86 hi0 hz0 hz1 hz2 rfl (by decide) _ ys.length (dwRows ys) rfl (HO.out.alloc _) ⟨wr.heap.size, 0, none⟩ 1 1 (Dw.cells ⟨kk, mm, z⟩) rfl rfl (new_cells _ _ #[_, _, _] (by simp)) (dw_one ⟨kk, mm, z⟩) (by simp only [maxLen]; omega) (by omega) (by simp; omega) ?_)
            intro v' w4 hown1 hgrow1 _
            have HO4 : Hid (w4.ownsRow w2.heap.size 47 3 v' (dwSome (s.take (k + 1)) (zs.take (k + 1))).length (dwRows (dwSome (s.take (k + 1)) (zs.take (k + 1))))) := Lib.hid (by
              rw [HSN.out, dwRows_snoc, List.length_append, List.length_singleton]
              exact hown1)
            have HB4 : Hid (Below w2.heap.size w2 w4) := Lib.hid ((HB.out.alloc hsz _).grown hgrow1 (by simp; omega) (fun j hj => own_base HO.out j hj))
            clear hown1 hgrow1
            go_wp2_with fail
            go_roundw
            case rel => exact ⟨k + 1, by omega, by go_num, HO4, HB4⟩
            case measure => simp [intOf]; omega
          · rw [if_neg hp, List.append_nil] at HSN
            have hO2 := HO.out
            rw [← HSN.out] at hO2
            have HO1 := Lib.hid hO2
            clear hO2
            go_wp2_with fail
            go_roundw
            case rel => exact ⟨k + 1, by omega, by go_num, HO1, HB⟩
            case measure => simp [intOf]; omega
        · obtain rfl : k = zs.length := by omega
          have hO := HO.out
          rw [dwSome_full s zs (by omega)] at hO
          obtain ⟨A3, c3, rfl⟩ := own_form hO
          have HO3 := Lib.hid (own_mono hO hsz2)
          clear hO HO
          go_wp2_with fail
          go_ret
          exact ⟨A3, c3, by rw [HG.out]; rfl, by rw [HG.out]; exact HO3.out, HBW.out⟩
end Go.Proofs.Ytglpnpjjjihghaa
