/-
  What complinelaw37.same comes to at like censuses, over this seat's translation: a contract for callers.
-/
import Derived.Test.YtgkidjjijgegmaaCW7
import Derived.Deep.QuietTactic
import Derived.BigQuiet
namespace Go.Proofs.Ytgkidjjijgegmaa
open Go.RowKit

theorem seg_int {w : World} {B : Nat} {A : Option Addr} {l : List Int} (h : Seg w B A (l.map (Value.int .i64))) {k : Nat} (hk : k < l.length) : ∃ b o, A = some ⟨b, o, none⟩ ∧ b < B ∧ w.cell? ⟨b, o + k, none⟩ = some (.int .i64 l[k]) := by
  obtain ⟨b, o, e, hb, hc⟩ := h.at (k := k) (by simpa using hk)
  exact ⟨b, o, e, hb, by rw [hc]; simp⟩
set_option maxRecDepth 100000 in
set_option maxHeartbeats 3200000 in
theorem same_any (K : List Int) (o : Int) (T : List Tl) (KA KA' B B' : Option Addr) (kc kc' d d' : Nat) (w : World) (hk : Seg w w.heap.size KA (K.map (Value.int .i64))) (hk' : Seg w w.heap.size KA' (K.map (Value.int .i64))) (ht : Seg w w.heap.size B (tlRows T)) (ht' : Seg w w.heap.size B' (tlRows T)) (hkl : K.length ≤ 100000) (htl : T.length ≤ 100000) :
    Calls Try.prog 9 #[.agg #[.slice KA K.length kc, .int .i64 o, .slice B T.length d], .agg #[.slice KA' K.length kc', .int .i64 o, .slice B' T.length d']] w fun e w' => e = .returned (.bool true) ∧ Below w.heap.size w w' := by
  have HK := Lib.hid hk
  have HK' := Lib.hid hk'
  have HT := Lib.hid ht
  have HT' := Lib.hid ht'
  clear hk hk' ht ht'
  have hl1 : ((K.length : Int) != (K.length : Int)) = false := by simp
  have hl2 : (o != o) = false := by simp
  have hl3 : ((T.length : Int) != (T.length : Int)) = false := by simp
  go_enter Try.func9, Try.ntmps9
  go_wp2_with fail
  have HB0 : Hid (Below w.heap.size w ((w.alloc (.cells #[.slice KA K.length kc, .int .i64 o, .slice B T.length d] 27)).alloc (.cells #[.slice KA' K.length kc', .int .i64 o, .slice B' T.length d'] 27))) := Lib.hid (((Below.refl _ _).alloc (Nat.le_refl _) _).alloc (by simp) _)
  have HX : Hid (∀ j, ((w.alloc (.cells #[.slice KA K.length kc, .int .i64 o, .slice B T.length d] 27)).alloc (.cells #[.slice KA' K.length kc', .int .i64 o, .slice B' T.length d'] 27)).cell? ⟨w.heap.size, j, none⟩ = (#[.slice KA K.length kc, .int .i64 o, .slice B T.length d] : Array Value)[j]?) := Lib.hid fun j => (cell_old _ _ _ (by simp)).trans (cell_new _ _ _ j rfl)
  have HY : Hid (∀ j, ((w.alloc (.cells #[.slice KA K.length kc, .int .i64 o, .slice B T.length d] 27)).alloc (.cells #[.slice KA' K.length kc', .int .i64 o, .slice B' T.length d'] 27)).cell? ⟨w.heap.size + 1, j, none⟩ = (#[.slice KA' K.length kc', .int .i64 o, .slice B' T.length d'] : Array Value)[j]?) := Lib.hid fun j => cell_new _ _ _ j (by simp)
  have hz0 : ((w.alloc (.cells #[.slice KA K.length kc, .int .i64 o, .slice B T.length d] 27)).alloc (.cells #[.slice KA' K.length kc', .int .i64 o, .slice B' T.length d'] 27)).heap.size = w.heap.size + 2 := by simp
  generalize (w.alloc (.cells #[.slice KA K.length kc, .int .i64 o, .slice B T.length d] 27)).alloc (.cells #[.slice KA' K.length kc', .int .i64 o, .slice B' T.length d'] 27) = w0 at *
  have HXX : Hid (∀ W, Below w0.heap.size w0 W → W.cell? ⟨w.heap.size, 0, none⟩ = some (.slice KA K.length kc) ∧ W.cell? ⟨w.heap.size, 2, none⟩ = some (.slice B T.length d) ∧ W.cell? ⟨w.heap.size + 1, 0, none⟩ = some (.slice KA' K.length kc') ∧ W.cell? ⟨w.heap.size + 1, 2, none⟩ = some (.slice B' T.length d')) := Lib.hid fun W hW =>
    ⟨(hW.cell (p := ⟨w.heap.size, 0, none⟩) (by show w.heap.size < _; omega)).trans (HX.out 0), (hW.cell (p := ⟨w.heap.size, 2, none⟩) (by show w.heap.size < _; omega)).trans (HX.out 2), (hW.cell (p := ⟨w.heap.size + 1, 0, none⟩) (by show w.heap.size + 1 < _; omega)).trans (HY.out 0), (hW.cell (p := ⟨w.heap.size + 1, 2, none⟩) (by show w.heap.size + 1 < _; omega)).trans (HY.out 2)⟩
  clear HX HY
  go_loopw [5] (fun i wr => ∃ k : Nat, k ≤ K.length ∧ i = .int .i64 k ∧ Hid (Below w0.heap.size w0 wr)) (fun i _ => K.length - (intOf i).toNat)
  case atStart => exact ⟨0, Nat.zero_le _, rfl, Below.refl _ _⟩
  case round =>
    obtain ⟨k, hk, rfl, HB⟩ := hrel
    obtain ⟨c0, c2, d0, d2⟩ := HXX.out wr HB.out
    by_cases hlt : k < K.length
    · have HBW := Lib.hid (HB0.out.trans (HB.out.mono HB0.out.size))
      obtain ⟨b, o1, rfl, hb, e0⟩ := seg_int (HK.out.below HBW.out) hlt
      obtain ⟨b', o2, rfl, hb', e0'⟩ := seg_int (HK'.out.below HBW.out) hlt
      have hk0 : (0 : Int) ≤ (k : Int) := by omega
      have hkb : (k : Int) < (K.length : Int) := by omega
      generalize K[k] = y at *
      have hyy : (y != y) = false := by simp
      go_wp2_with fail
      go_quiet (fail)
      go_wp2_with fail
      go_roundw
      case rel => exact ⟨k + 1, by omega, by go_num, below_drewN HB.out _⟩
      case measure => simp [intOf]; omega
    · obtain rfl : k = K.length := by omega
      have HB1 := HB
      go_wp2_with fail
      go_loopw [6] (fun i wr => ∃ k : Nat, k ≤ T.length ∧ i = .int .i64 k ∧ Hid (Below w0.heap.size w0 wr)) (fun i _ => T.length - (intOf i).toNat)
      case atStart => exact ⟨0, Nat.zero_le _, rfl, HB1.out⟩
      case round =>
        clear c0 c2 d0 d2 hk HB HB1
        obtain ⟨k, hk, rfl, HB⟩ := hrel
        obtain ⟨c0, c2, d0, d2⟩ := HXX.out _ HB.out
        by_cases hlt : k < T.length
        · have HBW := Lib.hid (HB0.out.trans (HB.out.mono HB0.out.size))
          obtain ⟨b, o1, rfl, hb, e0, e1, e2, e3, e4, e5, e6⟩ := tl_at (HT.out.below HBW.out) hlt
          obtain ⟨b', o2, rfl, hb', e0', e1', e2', e3', e4', e5', e6'⟩ := tl_at (HT'.out.below HBW.out) hlt
          have hk0 : (0 : Int) ≤ (k : Int) := by omega
          have hkb : (k : Int) < (T.length : Int) := by omega
          generalize T[k].q.1 = y1 at *
          generalize T[k].q.2 = y2 at *
          generalize T[k].a = y3 at *
          generalize T[k].b = y4 at *
          generalize T[k].c = y5 at *
          generalize T[k].d = y6 at *
          generalize T[k].e = y7 at *
          go_wp2_with fail
          go_quiet (fail)
          go_wp2_with fail
          go_roundw
          case rel => exact ⟨k + 1, by omega, by go_num, below_drewN HB.out _⟩
          case measure => simp [intOf]; omega
        · obtain rfl : k = T.length := by omega
          go_wp2_with fail
          go_ret
          exact ⟨rfl, HB0.out.trans (HB.out.mono HB0.out.size)⟩
end Go.Proofs.Ytgkidjjijgegmaa
