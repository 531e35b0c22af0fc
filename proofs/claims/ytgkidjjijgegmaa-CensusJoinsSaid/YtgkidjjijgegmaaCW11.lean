/-
  What complinelaw37.awake comes to, over this seat's translation: a contract for callers.
-/
import Derived.Test.YtgkidjjijgegmaaCW7
import Derived.Test.YtgkidjjijgegmaaCSort
namespace Go.Proofs.Ytgkidjjijgegmaa
open Go.RowKit

theorem of_any (l : List Ev) (A : Option Addr) (c : Nat) (w : World) (hs : Seg w w.heap.size A (evRows l)) (hI : ∀ x ∈ l, EvOk x) (hl : l.length ≤ 1000000) :
    Calls Try.prog 8 #[.slice A l.length c] w (GotC (OfR l) w) := of_pre sort_any l A c w hs hI hl
theorem of_anyN (l : List Ev) (A : Option Addr) (c : Nat) (w : World) (hs : Seg w w.heap.size A (evRows l)) (hI : ∀ x ∈ l, EvOk x) (hl : l.length ≤ 1000000) :
    Calls Try.prog 8 #[.slice A l.length c] w (GotCN (OfR l) w) := of_preN sort_any l A c w hs hI hl
def l3 : List Ev := [⟨5, 2, 0, 5, 0⟩, ⟨6, 2, 0, 2, 0⟩, ⟨13, 2, 0, 1, 0⟩]
theorem gE_l3 (q : Int × Int) (j : Nat) : gE l3 q j = if q = (2, 0) then (if j = 0 then 3 else if j = 1 then 1 else 0) else 0 := by
  have h5 : plJ 5 = some 0 := rfl
  have h6 : plJ 6 = some 0 := rfl
  have h13 : plJ 13 = some 1 := rfl
  have s5 : sideE ⟨5, 2, 0, 5, 0⟩ = (2, 0) := rfl
  have s6 : sideE ⟨6, 2, 0, 2, 0⟩ = (2, 0) := rfl
  have s13 : sideE ⟨13, 2, 0, 1, 0⟩ = (2, 0) := rfl
  have c5 : ctr ⟨5, 2, 0, 5, 0⟩ = [5] := rfl
  have c6 : ctr ⟨6, 2, 0, 2, 0⟩ = [-2] := rfl
  have c13 : ctr ⟨13, 2, 0, 1, 0⟩ = [1] := rfl
  unfold gE colF l3
  simp only [List.flatMap_cons, List.flatMap_nil, h5, h6, h13, s5, s6, s13, c5, c6, c13]
  by_cases hq : q = (2, 0)
  · subst hq
    by_cases h0 : j = 0
    · subst h0; rfl
    · by_cases h1 : j = 1
      · subst h1; rfl
      · have e0 : ¬ (0 = j) := fun e => h0 e.symm
        have e1 : ¬ (1 = j) := fun e => h1 e.symm
        simp [h0, h1, e0, e1, sumI]
  · have e : ¬ ((2, 0) : Int × Int) = q := fun e => hq e.symm
    simp [hq, e, sumI]
theorem tal_l3 : TalF (gE l3) [⟨(2, 0), 3, 1, 0, 0, 0⟩] := by
  refine ⟨List.pairwise_singleton .., fun t ht => ?_, fun t ht => ?_, fun q hq => ?_⟩
  · obtain rfl : t = ⟨(2, 0), 3, 1, 0, 0, 0⟩ := by simpa using ht
    unfold tlOf
    simp [gE_l3]
  · obtain rfl : t = ⟨(2, 0), 3, 1, 0, 0, 0⟩ := by simpa using ht
    rfl
  · by_cases h : q = (2, 0)
    · exact ⟨_, List.mem_cons_self .., h.symm⟩
    · exfalso
      unfold tlOf tlNone at hq
      simp [gE_l3, h] at hq
theorem ok_l3 (q : Int × Int) : okR (gE l3 q) = true := okR_good fun j _ => by
  rw [gE_l3]
  unfold I64
  split
  · split
    · omega
    · split <;> omega
  · omega
set_option maxRecDepth 100000 in
set_option maxHeartbeats 3200000 in
theorem awake_any (w : World) :
    Calls Try.prog 7 #[] w fun e w' => e = .returned (.bool true) ∧ Below w.heap.size w w' := by
  have HOF : Hid (∀ (A : Option Addr) (c : Nat) (W : World), Seg W W.heap.size A (evRows l3) → Calls Try.prog 8 #[.slice A 3 c] W (GotC (OfR l3) W)) := Lib.hid fun A c W hS => of_any l3 A c W hS (by intro x hx; simp [l3] at hx; rcases hx with rfl | rfl | rfl <;> (unfold EvOk I64; simp only; omega)) (by simp [l3])
  go_enter Try.func7, Try.ntmps7
  go_wp2_with fail
  have HS0 : Hid (Seg (w.alloc (.cells #[.int .i64 5, .int .i64 2, .int .i64 0, .int .i64 5, .int .i64 0, .int .i64 6, .int .i64 2, .int .i64 0, .int .i64 2, .int .i64 0, .int .i64 13, .int .i64 2, .int .i64 0, .int .i64 1, .int .i64 0] 34)) (w.alloc (.cells #[.int .i64 5, .int .i64 2, .int .i64 0, .int .i64 5, .int .i64 0, .int .i64 6, .int .i64 2, .int .i64 0, .int .i64 2, .int .i64 0, .int .i64 13, .int .i64 2, .int .i64 0, .int .i64 1, .int .i64 0] 34)).heap.size (some ⟨w.heap.size, 0, none⟩) (evRows l3)) := Lib.hid fun j u hu => ⟨_, _, rfl, by simp, by
    rw [cell_new _ _ _ _ rfl, Nat.zero_add, ← hu]
    have e : evRows l3 = (#[.int .i64 5, .int .i64 2, .int .i64 0, .int .i64 5, .int .i64 0, .int .i64 6, .int .i64 2, .int .i64 0, .int .i64 2, .int .i64 0, .int .i64 13, .int .i64 2, .int .i64 0, .int .i64 1, .int .i64 0] : Array Value).toList := rfl
    rw [e, Array.getElem?_toList]⟩
  have HB0 : Hid (Below w.heap.size w (w.alloc (.cells #[.int .i64 5, .int .i64 2, .int .i64 0, .int .i64 5, .int .i64 0, .int .i64 6, .int .i64 2, .int .i64 0, .int .i64 2, .int .i64 0, .int .i64 13, .int .i64 2, .int .i64 0, .int .i64 1, .int .i64 0] 34))) := Lib.hid ((Below.refl _ _).alloc (Nat.le_refl _) _)
  generalize (w.alloc (.cells #[.int .i64 5, .int .i64 2, .int .i64 0, .int .i64 5, .int .i64 0, .int .i64 6, .int .i64 2, .int .i64 0, .int .i64 2, .int .i64 0, .int .i64 13, .int .i64 2, .int .i64 0, .int .i64 1, .int .i64 0] 34)) = w0 at *
  refine (HOF.out _ 3 _ HS0.out).mono ?_
  rintro e w2 ⟨K, o, T, err, v, hR, rfl, ⟨KA, kc, B, d, rfl, hK, hT⟩, hb2⟩
  rcases hR with ⟨h, _⟩ | ⟨_, ⟨q, hq⟩, _⟩ | ⟨_, _, hK', _, hTF, he⟩
  · simp [l3] at h
  · rw [ok_l3] at hq
    cases hq
  have hTT := hTF.uniq tal_l3
  subst hK' he hTT
  have HBW := Lib.hid (HB0.out.trans (hb2.mono HB0.out.size))
  have hk5 : ((kindsL l3).map (Value.int .i64))[5]? = some (.int .i64 1) := rfl
  obtain ⟨b1, o1, rfl, hb1, k5⟩ := hK 5 _ hk5
  obtain ⟨b, o', rfl, hb, t0, t1, t2, t3, t4, t5, t6⟩ := tl_at hT (k := 0) (by simp)
  simp only [Nat.zero_mul, Nat.add_zero, List.getElem_cons_zero] at t0 t1 t2 t3 t4 t5 t6
  rw [kindsL_len]
  simp only [List.length_cons, List.length_nil]
  clear hK hT hb2 hk5 HOF HS0 HB0 hTF
  go_wp2_with fail
  go_ret
  exact ⟨rfl, HBW.out.alloc HBW.out.size _⟩
end Go.Proofs.Ytgkidjjijgegmaa
