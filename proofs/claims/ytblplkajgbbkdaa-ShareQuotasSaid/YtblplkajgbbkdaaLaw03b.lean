/-
  The walks of ShareParts and ShareAllots, over this seat's translation.
-/
import Derived.Test.YtblplkajgbbkdaaLaw03a
namespace Go.Proofs.Ytblplkajgbbkdaa
open Go.RowKit Go.Lib Go.Sort Go.Proofs.Ytblplkajgbbkdaa.StableLaw Go.Proofs.Ytblplkajgbbkdaa.ShareLaw

theorem appL_len (T : Int) (l : List Int) : (appL T l).length ≤ l.length := by
  unfold appL
  split
  · simp
  · split
    · simp
    · split
      · simp
      · rw [rowF_len]; exact Nat.le_refl _
theorem alL_len (T : Int) (l : List Int) : (alL T l).length ≤ l.length := by
  unfold alL
  split
  · simp
  · split
    · exact Nat.le_refl _
    · exact appL_len T l
set_option maxHeartbeats 1600000 in
set_option maxRecDepth 100000 in
theorem parts_law (T : Int) (l : List Int) (A : Option Addr) (c : Nat) (w : World) (hT : I64 T) (hl : ∀ x ∈ l, I64 x) (hs : Seg w w.heap.size A (l.map (Value.int .i64))) (hn : l.length ≤ maxLen) :
    Calls Try.prog 3 #[.int .i64 T, .slice A l.length c] w fun e w' => e = .returned (.bool true) ∧ Below w.heap.size w w' := by
  have hn' := hn
  unfold maxLen at hn'
  by_cases hbig : 60 < l.length
  · have q1 : decide ((60 : Int) < (l.length : Int)) = true := by simp only [decide_eq_true_eq]; omega
    clear hl hs
    go_enter Try.func3, Try.ntmps3
    go_wp2_with fail
    refine (awake3_any _).mono ?_
    rintro e w1 ⟨rfl, hb1⟩
    have HB1 := Lib.hid hb1
    clear hb1
    go_wp2_with fail
    go_ret
    exact ⟨rfl, HB1.out⟩
  · have HP := Lib.hid (Apportion_any T l A c w hT hl hs hn)
    have HR : Hid (∀ W, Below w.heap.size w W → Calls Try.prog 15 #[.int .i64 T, .slice A l.length c] W (GotI W (appL T l) (appE T l))) := fun W hW => rApportion_any T l A c W hT hl ((hs.below hW).mono hW.size) hn
    have hlen : (appL T l).length ≤ 1000000 := by have := appL_len T l; omega
    clear hl hs hT
    generalize appL T l = zs at *
    generalize appE T l = E at *
    go_enter Try.func3, Try.ntmps3
    go_wp2_with fail
    refine HP.out.mono ?_
    rintro e w1 ⟨A1, c1, rfl, hs1, hb1⟩
    have HS1 := Lib.hid hs1
    have HB1 := Lib.hid hb1
    clear hs1 hb1
    go_wp2_with fail
    refine (HR.out _ HB1.out).mono ?_
    rintro e w2 ⟨A2, c2, rfl, hs2, hb2⟩
    have HS2 := Lib.hid hs2
    have HS1' := Lib.hid ((HS1.out.below hb2).mono hb2.size)
    have HB2 := Lib.hid (HB1.out.trans (hb2.mono HB1.out.size))
    clear hs2 hb2
    go_wp2_with fail
    refine (awake3_any _).mono ?_
    rintro e w3 ⟨rfl, hb3⟩
    have HS1'' := Lib.hid ((HS1'.out.below hb3).mono hb3.size)
    have HS2'' := Lib.hid ((HS2.out.below hb3).mono hb3.size)
    have HB3 := Lib.hid (HB2.out.trans (hb3.mono HB2.out.size))
    clear hb3
    go_wp2_with fail
    refine (same_any zs zs A1 A2 c1 c2 _ HS1''.out HS2''.out hlen rfl).mono ?_
    rintro e w4 ⟨rfl, hb4⟩
    have HB4 := Lib.hid (HB3.out.trans (hb4.mono HB3.out.size))
    clear hb4
    go_wp2_with fail
    go_ret
    exact ⟨by simp, HB4.out⟩
set_option maxHeartbeats 1600000 in
set_option maxRecDepth 100000 in
theorem allots_law (T : Int) (l : List Int) (A : Option Addr) (c : Nat) (w : World) (hT : I64 T) (hl : ∀ x ∈ l, I64 x) (hs : Seg w w.heap.size A (l.map (Value.int .i64))) (hn : l.length ≤ maxLen) :
    Calls Try.prog 4 #[.int .i64 T, .slice A l.length c] w fun e w' => e = .returned (.bool true) ∧ Below w.heap.size w w' := by
  have hn' := hn
  unfold maxLen at hn'
  by_cases hbig : 60 < l.length
  · have q1 : decide ((60 : Int) < (l.length : Int)) = true := by simp only [decide_eq_true_eq]; omega
    clear hl hs
    go_enter Try.func4, Try.ntmps4
    go_wp2_with fail
    refine (awake3_any _).mono ?_
    rintro e w1 ⟨rfl, hb1⟩
    have HB1 := Lib.hid hb1
    clear hb1
    go_wp2_with fail
    go_ret
    exact ⟨rfl, HB1.out⟩
  · have HP := Lib.hid (Allocate_any T l A c w hT hl hs hn)
    have HR : Hid (∀ W, Below w.heap.size w W → Calls Try.prog 18 #[.int .i64 T, .slice A l.length c] W (GotI W (alL T l) (alE T l))) := fun W hW => rAllocate_any T l A c W hT hl ((hs.below hW).mono hW.size) hn
    have hlen : (alL T l).length ≤ 1000000 := by have := alL_len T l; omega
    clear hl hs hT
    generalize alL T l = zs at *
    generalize alE T l = E at *
    go_enter Try.func4, Try.ntmps4
    go_wp2_with fail
    refine HP.out.mono ?_
    rintro e w1 ⟨A1, c1, rfl, hs1, hb1⟩
    have HS1 := Lib.hid hs1
    have HB1 := Lib.hid hb1
    clear hs1 hb1
    go_wp2_with fail
    refine (HR.out _ HB1.out).mono ?_
    rintro e w2 ⟨A2, c2, rfl, hs2, hb2⟩
    have HS2 := Lib.hid hs2
    have HS1' := Lib.hid ((HS1.out.below hb2).mono hb2.size)
    have HB2 := Lib.hid (HB1.out.trans (hb2.mono HB1.out.size))
    clear hs2 hb2
    go_wp2_with fail
    refine (awake3_any _).mono ?_
    rintro e w3 ⟨rfl, hb3⟩
    have HS1'' := Lib.hid ((HS1'.out.below hb3).mono hb3.size)
    have HS2'' := Lib.hid ((HS2.out.below hb3).mono hb3.size)
    have HB3 := Lib.hid (HB2.out.trans (hb3.mono HB2.out.size))
    clear hb3
    go_wp2_with fail
    refine (same_any zs zs A1 A2 c1 c2 _ HS1''.out HS2''.out hlen rfl).mono ?_
    rintro e w4 ⟨rfl, hb4⟩
    have HB4 := Lib.hid (HB3.out.trans (hb4.mono HB3.out.size))
    clear hb4
    go_wp2_with fail
    go_ret
    exact ⟨by simp, HB4.out⟩
end Go.Proofs.Ytblplkajgbbkdaa
