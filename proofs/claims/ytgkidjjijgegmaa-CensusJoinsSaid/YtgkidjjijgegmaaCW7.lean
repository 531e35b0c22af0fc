/-
  What census.Find, census.Join of a census without its kinds, and census.Left of too many securities come to, over this seat's translation: contracts for callers.
-/
import Derived.Test.YtgkidjjijgegmaaCW6
import Derived.Test.YtgkidjjijgegmaaCW5
namespace Go.Proofs.Ytgkidjjijgegmaa
open Go.RowKit

theorem tl_at {w : World} {B : Nat} {A : Option Addr} {l : List Tl} (h : Seg w B A (tlRows l)) {k : Nat} (hk : k < l.length) :
    ∃ b o, A = some ⟨b, o, none⟩ ∧ b < B ∧ w.cell? ⟨b, o + k * 7, none⟩ = some (.int .i64 l[k].q.1) ∧ w.cell? ⟨b, o + k * 7 + 1, none⟩ = some (.int .i64 l[k].q.2) ∧ w.cell? ⟨b, o + k * 7 + 2, none⟩ = some (.int .i64 l[k].a) ∧ w.cell? ⟨b, o + k * 7 + 3, none⟩ = some (.int .i64 l[k].b) ∧ w.cell? ⟨b, o + k * 7 + 4, none⟩ = some (.int .i64 l[k].c) ∧ w.cell? ⟨b, o + k * 7 + 5, none⟩ = some (.int .i64 l[k].d) ∧ w.cell? ⟨b, o + k * 7 + 6, none⟩ = some (.int .i64 l[k].e) := by
  obtain ⟨b, o, e, hb, hc⟩ := h.run (i := k * 7) (y := .int .i64 l[k].q.1) (t := [.int .i64 l[k].q.2, .int .i64 l[k].a, .int .i64 l[k].b, .int .i64 l[k].c, .int .i64 l[k].d, .int .i64 l[k].e]) (fun j u hu => flat_at Tl.cells 7 (fun _ => rfl) l k hk j u hu)
  exact ⟨b, o, e, hb, hc 0 _ rfl, hc 1 _ rfl, hc 2 _ rfl, hc 3 _ rfl, hc 4 _ rfl, hc 5 _ rfl, hc 6 _ rfl⟩
/-- The tally of a side, or none. -/
def fndT (T : List Tl) (q : Int × Int) : Tl := (T.find? fun t => decide (t.q = q)).getD ⟨q, 0, 0, 0, 0, 0⟩
theorem fndT_at : ∀ {T : List Tl} {q : Int × Int} {k : Nat} (hk : k < T.length), (∀ j (hj : j < k), T[j].q ≠ q) → T[k].q = q → fndT T q = T[k]
  | t :: T, q, 0, _, _, h => by
    have h0 : t.q = q := by simpa using h
    unfold fndT
    rw [List.find?_cons_of_pos (by simpa using h0)]
    rfl
  | t :: T, q, k + 1, hk, h, h' => by
    have h0 : t.q ≠ q := by have := h 0 (by omega); simpa using this
    have := fndT_at (T := T) (q := q) (k := k) (by simpa using hk) (fun j hj => by have := h (j + 1) (by omega); simpa using this) (by simpa using h')
    unfold fndT at *
    rw [List.find?_cons_of_neg (by simpa using h0), this]
    simp
theorem fndT_none {T : List Tl} {q : Int × Int} (h : ∀ t ∈ T, t.q ≠ q) : fndT T q = ⟨q, 0, 0, 0, 0, 0⟩ := by
  unfold fndT
  rw [List.find?_eq_none.2 (fun t ht => by simpa using h t ht)]
  rfl
/-- Find's answer has the side's sums. -/
theorem fndT_sums {g : Int × Int → Nat → Int} {T : List Tl} (h : TalF g T) (q : Int × Int) : fndT T q = tlOf q (g q) := by
  cases hz : tlNone (tlOf q (g q)) with
  | true =>
    have h0 : ∀ j, j < 5 → g q j = 0 := fun j hj => tlNone_zero hz hj
    rw [fndT_none (fun t ht e => by have h1 := h.val t ht; have h2 := h.nz t ht; rw [h1, e, hz] at h2; cases h2)]
    unfold tlOf
    rw [h0 0 (by omega), h0 1 (by omega), h0 2 (by omega), h0 3 (by omega), h0 4 (by omega)]
  | false =>
    obtain ⟨t, ht, rfl⟩ := h.all q hz
    unfold fndT
    cases hf : T.find? (fun t' => decide (t'.q = t.q)) with
    | none => exact absurd ht (fun ht => by have := List.find?_eq_none.1 hf t ht; simp at this)
    | some t' =>
      have h1 : t'.q = t.q := by simpa using List.find?_some hf
      have h2 := h.val t' (List.mem_of_find?_eq_some hf)
      rw [Option.getD_some, h2, h1]
set_option maxRecDepth 100000 in
set_option maxHeartbeats 3200000 in
theorem find_any (KA : Option Addr) (kn kc : Nat) (o : Int) (T : List Tl) (B : Option Addr) (d : Nat) (q1 q2 : Int) (w : World) (hs : Seg w w.heap.size B (tlRows T)) (hl : T.length ≤ 1000000) :
    Calls Try.prog 15 #[.agg #[.slice KA kn kc, .int .i64 o, .slice B T.length d], .int .i64 q1, .int .i64 q2] w fun e w' => e = .returned (fndT T (q1, q2)).val ∧ Below w.heap.size w w' := by
  have HS := Lib.hid hs
  clear hs
  go_enter Try.func15, Try.ntmps15
  go_wp2_with fail
  have HR : Hid (∀ j, j < 7 → ((w.alloc (.cells #[.slice KA kn kc, .int .i64 o, .slice B T.length d] 27)).alloc (.cells #[.int .i64 0, .int .i64 0, .int .i64 0, .int .i64 0, .int .i64 0, .int .i64 0, .int .i64 0] 42)).cell? ⟨w.heap.size + 1, j, none⟩ = some (.int .i64 0)) := Lib.hid fun j hj => by
    rw [cell_new _ _ _ _ (by simp)]
    obtain rfl | rfl | rfl | rfl | rfl | rfl | rfl : j = 0 ∨ j = 1 ∨ j = 2 ∨ j = 3 ∨ j = 4 ∨ j = 5 ∨ j = 6 := by omega
    all_goals rfl
  have HF : Hid (∀ j, ((w.alloc (.cells #[.slice KA kn kc, .int .i64 o, .slice B T.length d] 27)).alloc (.cells #[.int .i64 0, .int .i64 0, .int .i64 0, .int .i64 0, .int .i64 0, .int .i64 0, .int .i64 0] 42)).frozen? ⟨w.heap.size + 1, j, none⟩ = false) := Lib.hid fun j => by go_simp
  have HB0 : Hid (Below w.heap.size w ((w.alloc (.cells #[.slice KA kn kc, .int .i64 o, .slice B T.length d] 27)).alloc (.cells #[.int .i64 0, .int .i64 0, .int .i64 0, .int .i64 0, .int .i64 0, .int .i64 0, .int .i64 0] 42))) := Lib.hid (((Below.refl _ _).alloc (Nat.le_refl _) _).alloc (by simp) _)
  have hz0 : ((w.alloc (.cells #[.slice KA kn kc, .int .i64 o, .slice B T.length d] 27)).alloc (.cells #[.int .i64 0, .int .i64 0, .int .i64 0, .int .i64 0, .int .i64 0, .int .i64 0, .int .i64 0] 42)).heap.size = w.heap.size + 2 := by simp
  generalize (w.alloc (.cells #[.slice KA kn kc, .int .i64 o, .slice B T.length d] 27)).alloc (.cells #[.int .i64 0, .int .i64 0, .int .i64 0, .int .i64 0, .int .i64 0, .int .i64 0, .int .i64 0] 42) = w0 at *
  go_loopw [8, 12] (fun _ i wr => ∃ k : Nat, k ≤ T.length ∧ i = .int .i64 k ∧ Hid (Below w0.heap.size w0 wr) ∧ Hid (∀ j (hj : j < T.length), j < k → T[j].q ≠ (q1, q2))) (fun _ i _ => T.length - (intOf i).toNat)
  case atStart => exact ⟨0, Nat.zero_le _, rfl, Below.refl _ _, fun j _ hj => absurd hj (by omega)⟩
  case round =>
    obtain ⟨k, hk, rfl, HB, HN⟩ := hrel
    have hsz := HB.out.size
    have hr := fun j hj => (HB.out.cell (p := ⟨w.heap.size + 1, j, none⟩) (by show w.heap.size + 1 < _; omega)).trans (HR.out j hj)
    have hf := fun j => (HB.out.frozen (p := ⟨w.heap.size + 1, j, none⟩) (by show w.heap.size + 1 < _; omega)).trans (HF.out j)
    have HBW : Hid (Below w.heap.size w wr) := Lib.hid (HB0.out.trans (HB.out.mono (by omega)))
    by_cases hlt : k < T.length
    · obtain ⟨b, o', rfl, hb, e0, e1, e2, e3, e4, e5, e6⟩ := tl_at (HS.out.below HBW.out) hlt
      have HX := Lib.hid (fun h => fndT_at (q := (q1, q2)) hlt (fun j hj => HN.out j (by omega) hj) h)
      have HY : Hid (∀ j (hj : j < T.length), j < k → T[j].q ≠ (q1, q2)) := HN
      obtain ⟨x, hx⟩ : ∃ x, x = T[k] := ⟨_, rfl⟩
      have HXE := Lib.hid hx
      rw [← hx] at e0 e1 e2 e3 e4 e5 e6 HX
      clear hx HN
      obtain ⟨⟨x1, x2⟩, ta, tb, tc, td, te⟩ := x
      simp only at e0 e1 e2 e3 e4 e5 e6
      have HNX : Hid (¬ (x1, x2) = (q1, q2) → ∀ j (hj : j < T.length), j < k + 1 → T[j].q ≠ (q1, q2)) := Lib.hid fun h j hj hj' => by
        by_cases e : j = k
        · subst e
          rw [← HXE.out]
          exact h
        · exact HY.out j hj (by omega)
      clear HXE HY
      have WB : Hid (∀ o, Below w0.heap.size w0 (wr.alloc o)) := Lib.hid fun o => HB.out.alloc hsz o
      by_cases h1 : x1 = q1
      case neg =>
        have hb1 : (x1 == q1) = false := by simpa using h1
        have HN2 := Lib.hid (HNX.out (fun e => h1 (by injection e)))
        clear HNX HX h1
        go_wp2_with fail
        go_roundw
        case rel => exact ⟨k + 1, by omega, by go_num, Lib.hid (WB.out _), HN2⟩
        case measure => simp [intOf]; omega
      have hb1 : (x1 == q1) = true := by simpa using h1
      by_cases h2 : x2 = q2
      case neg =>
        have hb2 : (x2 == q2) = false := by simpa using h2
        have HN2 := Lib.hid (HNX.out (fun e => h2 (by injection e)))
        clear HNX HX h1 h2
        go_wp2_with fail
        go_roundw
        case rel => exact ⟨k + 1, by omega, by go_num, Lib.hid (WB.out _), HN2⟩
        case measure => simp [intOf]; omega
      have hb2 : (x2 == q2) = true := by simpa using h2
      have HE := Lib.hid (HX.out (by rw [h1, h2]))
      clear HX HNX h1 h2
      have r0 := hr 0 (by omega)
      have r1 := hr 1 (by omega)
      have r2 := hr 2 (by omega)
      have r3 := hr 3 (by omega)
      have r4 := hr 4 (by omega)
      have r5 := hr 5 (by omega)
      have r6 := hr 6 (by omega)
      have HBA := Lib.hid ((Below.refl wr.heap.size wr).alloc (Nat.le_refl _) (.cells #[.int .i64 x1, .int .i64 x2, .int .i64 ta, .int .i64 tb, .int .i64 tc, .int .i64 td, .int .i64 te] 42))
      have hlw : w.heap.size + 1 < wr.heap.size := by omega
      clear hr
      have HBW2 := Lib.hid (HBW.out.trans (HBA.out.mono HBW.out.size))
      go_wp2_with fail
      obtain ⟨W5, hW5⟩ : ∃ W5, W5 = ((((((((wr).setCell ⟨w.heap.size + 1, 0, none⟩ (Value.int .i64 x1)).setCell ⟨w.heap.size + 1, 1, none⟩ (Value.int .i64 x2)).setCell ⟨w.heap.size + 1, 2, none⟩ (Value.int .i64 ta)).setCell ⟨w.heap.size + 1, 3, none⟩ (Value.int .i64 tb)).setCell ⟨w.heap.size + 1, 4, none⟩ (Value.int .i64 tc)).setCell ⟨w.heap.size + 1, 5, none⟩ (Value.int .i64 td)).setCell ⟨w.heap.size + 1, 6, none⟩ (Value.int .i64 te)).alloc (.cells #[.int .i64 x1, .int .i64 x2, .int .i64 ta, .int .i64 tb, .int .i64 tc, .int .i64 td, .int .i64 te] 42) := ⟨_, rfl⟩
      rw [← hW5]
      have HS5 := setAll_at (b := w.heap.size + 1) [Value.int .i64 x1, Value.int .i64 x2, Value.int .i64 ta, Value.int .i64 tb, Value.int .i64 tc, Value.int .i64 td, Value.int .i64 te] wr 0 (seven_at r0 r1 r2 r3 r4 r5 r6 rfl)
      have s0 : W5.cell? ⟨w.heap.size + 1, 0, none⟩ = some (Value.int .i64 x1) := by rw [hW5]; exact (cell_old _ _ _ (by simp; omega)).trans (HS5 0 (by simp))
      have s1 : W5.cell? ⟨w.heap.size + 1, 1, none⟩ = some (Value.int .i64 x2) := by rw [hW5]; exact (cell_old _ _ _ (by simp; omega)).trans (HS5 1 (by simp))
      have s2 : W5.cell? ⟨w.heap.size + 1, 2, none⟩ = some (Value.int .i64 ta) := by rw [hW5]; exact (cell_old _ _ _ (by simp; omega)).trans (HS5 2 (by simp))
      have s3 : W5.cell? ⟨w.heap.size + 1, 3, none⟩ = some (Value.int .i64 tb) := by rw [hW5]; exact (cell_old _ _ _ (by simp; omega)).trans (HS5 3 (by simp))
      have s4 : W5.cell? ⟨w.heap.size + 1, 4, none⟩ = some (Value.int .i64 tc) := by rw [hW5]; exact (cell_old _ _ _ (by simp; omega)).trans (HS5 4 (by simp))
      have s5 : W5.cell? ⟨w.heap.size + 1, 5, none⟩ = some (Value.int .i64 td) := by rw [hW5]; exact (cell_old _ _ _ (by simp; omega)).trans (HS5 5 (by simp))
      have s6 : W5.cell? ⟨w.heap.size + 1, 6, none⟩ = some (Value.int .i64 te) := by rw [hW5]; exact (cell_old _ _ _ (by simp; omega)).trans (HS5 6 (by simp))
      have HBX : Hid (Below w.heap.size w W5) := Lib.hid (by rw [hW5]; exact (setAll_below (by omega) [Value.int .i64 x1, Value.int .i64 x2, Value.int .i64 ta, Value.int .i64 tb, Value.int .i64 tc, Value.int .i64 td, Value.int .i64 te] wr 0 HBW.out).alloc (by rw [setAll_size]; exact HBW.out.size) _)
      clear HS5 hW5
      refine bodyPost_ret (v := .agg #[Value.int .i64 x1, Value.int .i64 x2, Value.int .i64 ta, Value.int .i64 tb, Value.int .i64 tc, Value.int .i64 td, Value.int .i64 te]) (by simp [results, Try.results15, go_sem, s0, s1, s2, s3, s4, s5, s6]) rfl ?_
      exact ⟨by rw [HE.out]; rfl, HBX.out⟩
    · obtain rfl : k = T.length := by omega
      have HE : Hid (fndT T (q1, q2) = ⟨(q1, q2), 0, 0, 0, 0, 0⟩) := Lib.hid (fndT_none fun t ht => by
        obtain ⟨j, hj, rfl⟩ := List.getElem_of_mem ht
        exact HN.out j hj hj)
      have r0 := hr 0 (by omega)
      have r1 := hr 1 (by omega)
      have r2 := hr 2 (by omega)
      have r3 := hr 3 (by omega)
      have r4 := hr 4 (by omega)
      have r5 := hr 5 (by omega)
      have r6 := hr 6 (by omega)
      clear hr
      go_wp2_with fail
      obtain ⟨W5, hW5⟩ : ∃ W5, W5 = (((((((wr).setCell ⟨w.heap.size + 1, 0, none⟩ (Value.int .i64 q1)).setCell ⟨w.heap.size + 1, 1, none⟩ (Value.int .i64 q2)).setCell ⟨w.heap.size + 1, 2, none⟩ (Value.int .i64 0)).setCell ⟨w.heap.size + 1, 3, none⟩ (Value.int .i64 0)).setCell ⟨w.heap.size + 1, 4, none⟩ (Value.int .i64 0)).setCell ⟨w.heap.size + 1, 5, none⟩ (Value.int .i64 0)).setCell ⟨w.heap.size + 1, 6, none⟩ (Value.int .i64 0) := ⟨_, rfl⟩
      rw [← hW5]
      have HS5 := setAll_at (b := w.heap.size + 1) [Value.int .i64 q1, Value.int .i64 q2, Value.int .i64 0, Value.int .i64 0, Value.int .i64 0, Value.int .i64 0, Value.int .i64 0] wr 0 (seven_at r0 r1 r2 r3 r4 r5 r6 rfl)
      have s0 : W5.cell? ⟨w.heap.size + 1, 0, none⟩ = some (Value.int .i64 q1) := by rw [hW5]; exact HS5 0 (by simp)
      have s1 : W5.cell? ⟨w.heap.size + 1, 1, none⟩ = some (Value.int .i64 q2) := by rw [hW5]; exact HS5 1 (by simp)
      have s2 : W5.cell? ⟨w.heap.size + 1, 2, none⟩ = some (Value.int .i64 0) := by rw [hW5]; exact HS5 2 (by simp)
      have s3 : W5.cell? ⟨w.heap.size + 1, 3, none⟩ = some (Value.int .i64 0) := by rw [hW5]; exact HS5 3 (by simp)
      have s4 : W5.cell? ⟨w.heap.size + 1, 4, none⟩ = some (Value.int .i64 0) := by rw [hW5]; exact HS5 4 (by simp)
      have s5 : W5.cell? ⟨w.heap.size + 1, 5, none⟩ = some (Value.int .i64 0) := by rw [hW5]; exact HS5 5 (by simp)
      have s6 : W5.cell? ⟨w.heap.size + 1, 6, none⟩ = some (Value.int .i64 0) := by rw [hW5]; exact HS5 6 (by simp)
      have HBX : Hid (Below w.heap.size w W5) := Lib.hid (by rw [hW5]; exact setAll_below (by omega) [Value.int .i64 q1, Value.int .i64 q2, Value.int .i64 0, Value.int .i64 0, Value.int .i64 0, Value.int .i64 0, Value.int .i64 0] wr 0 HBW.out)
      clear HS5 hW5
      refine bodyPost_ret (v := .agg #[Value.int .i64 q1, Value.int .i64 q2, Value.int .i64 0, Value.int .i64 0, Value.int .i64 0, Value.int .i64 0, Value.int .i64 0]) (by simp [results, Try.results15, go_sem, s0, s1, s2, s3, s4, s5, s6]) rfl ?_
      exact ⟨by rw [HE.out]; rfl, HBX.out⟩
set_option maxHeartbeats 1600000 in
/-- census.Join, where the other has no kinds. -/
theorem joinNo_any (KA : Option Addr) (kn kc : Nat) (o : Int) (B : Option Addr) (tn d : Nat) (w : World) :
    Calls Try.prog 18 #[.agg #[.slice KA kn kc, .int .i64 o, .slice B tn d], .agg #[.slice none 0 0, .int .i64 0, .slice none 0 0]] w fun e w' => e = .returned (.tuple #[.agg #[.slice none 0 0, .int .i64 0, .slice none 0 0], .int .i64 3]) ∧ Below w.heap.size w w' := by
  by_cases hk : (kn : Int) = 20
  · have hb : ((kn : Int) != 20) = false := by simpa using hk
    clear hk
    go_enter Try.func18, Try.ntmps18
    go_wp2_with fail
    have HB : Hid (Below w.heap.size w (((w.alloc (.cells #[.slice KA kn kc, .int .i64 o, .slice B tn d] 27)).alloc (.cells #[.slice none 0 0, .int .i64 0, .slice none 0 0] 27)).alloc (.cells #[.slice none 0 0, .int .i64 0, .slice none 0 0] 27))) := Lib.hid ((((Below.refl _ _).alloc (Nat.le_refl _) _).alloc (by simp) _).alloc (by simp; omega) _)
    have r0 : (((w.alloc (.cells #[.slice KA kn kc, .int .i64 o, .slice B tn d] 27)).alloc (.cells #[.slice none 0 0, .int .i64 0, .slice none 0 0] 27)).alloc (.cells #[.slice none 0 0, .int .i64 0, .slice none 0 0] 27)).cell? ⟨w.heap.size + 1 + 1, 0, none⟩ = some (.slice none 0 0) := cell_new _ _ _ 0 (by simp)
    have r1 : (((w.alloc (.cells #[.slice KA kn kc, .int .i64 o, .slice B tn d] 27)).alloc (.cells #[.slice none 0 0, .int .i64 0, .slice none 0 0] 27)).alloc (.cells #[.slice none 0 0, .int .i64 0, .slice none 0 0] 27)).cell? ⟨w.heap.size + 1 + 1, 1, none⟩ = some (.int .i64 0) := cell_new _ _ _ 1 (by simp)
    have r2 : (((w.alloc (.cells #[.slice KA kn kc, .int .i64 o, .slice B tn d] 27)).alloc (.cells #[.slice none 0 0, .int .i64 0, .slice none 0 0] 27)).alloc (.cells #[.slice none 0 0, .int .i64 0, .slice none 0 0] 27)).cell? ⟨w.heap.size + 1 + 1, 2, none⟩ = some (.slice none 0 0) := cell_new _ _ _ 2 (by simp)
    generalize ((w.alloc (.cells #[.slice KA kn kc, .int .i64 o, .slice B tn d] 27)).alloc (.cells #[.slice none 0 0, .int .i64 0, .slice none 0 0] 27)).alloc (.cells #[.slice none 0 0, .int .i64 0, .slice none 0 0] 27) = w1 at *
    refine bodyPost_ret (v := .tuple #[.agg #[.slice none 0 0, .int .i64 0, .slice none 0 0], .int .i64 3]) (by simp [results, Try.results18, go_sem, r0, r1, r2]) rfl ?_
    exact ⟨rfl, HB.out⟩
  · have hb : ((kn : Int) != 20) = true := by simpa using hk
    clear hk
    go_enter Try.func18, Try.ntmps18
    go_wp2_with fail
    have HB : Hid (Below w.heap.size w (((w.alloc (.cells #[.slice KA kn kc, .int .i64 o, .slice B tn d] 27)).alloc (.cells #[.slice none 0 0, .int .i64 0, .slice none 0 0] 27)).alloc (.cells #[.slice none 0 0, .int .i64 0, .slice none 0 0] 27))) := Lib.hid ((((Below.refl _ _).alloc (Nat.le_refl _) _).alloc (by simp) _).alloc (by simp; omega) _)
    have r0 : (((w.alloc (.cells #[.slice KA kn kc, .int .i64 o, .slice B tn d] 27)).alloc (.cells #[.slice none 0 0, .int .i64 0, .slice none 0 0] 27)).alloc (.cells #[.slice none 0 0, .int .i64 0, .slice none 0 0] 27)).cell? ⟨w.heap.size + 1 + 1, 0, none⟩ = some (.slice none 0 0) := cell_new _ _ _ 0 (by simp)
    have r1 : (((w.alloc (.cells #[.slice KA kn kc, .int .i64 o, .slice B tn d] 27)).alloc (.cells #[.slice none 0 0, .int .i64 0, .slice none 0 0] 27)).alloc (.cells #[.slice none 0 0, .int .i64 0, .slice none 0 0] 27)).cell? ⟨w.heap.size + 1 + 1, 1, none⟩ = some (.int .i64 0) := cell_new _ _ _ 1 (by simp)
    have r2 : (((w.alloc (.cells #[.slice KA kn kc, .int .i64 o, .slice B tn d] 27)).alloc (.cells #[.slice none 0 0, .int .i64 0, .slice none 0 0] 27)).alloc (.cells #[.slice none 0 0, .int .i64 0, .slice none 0 0] 27)).cell? ⟨w.heap.size + 1 + 1, 2, none⟩ = some (.slice none 0 0) := cell_new _ _ _ 2 (by simp)
    generalize ((w.alloc (.cells #[.slice KA kn kc, .int .i64 o, .slice B tn d] 27)).alloc (.cells #[.slice none 0 0, .int .i64 0, .slice none 0 0] 27)).alloc (.cells #[.slice none 0 0, .int .i64 0, .slice none 0 0] 27) = w1 at *
    refine bodyPost_ret (v := .tuple #[.agg #[.slice none 0 0, .int .i64 0, .slice none 0 0], .int .i64 3]) (by simp [results, Try.results18, go_sem, r0, r1, r2]) rfl ?_
    exact ⟨rfl, HB.out⟩
/-- census.Left of too many securities. -/
theorem leftNo_any (KA : Option Addr) (kn kc : Nat) (o : Int) (B : Option Addr) (tn d : Nat) (w : World) :
    Calls Try.prog 16 #[.agg #[.slice KA kn kc, .int .i64 o, .slice B tn d], .int .i64 9] w fun e w' => e = .returned (.tuple #[.slice none 0 0, .int .i64 3]) ∧ Below w.heap.size w w' := by
  have HB0 : Hid (Below w.heap.size w (w.alloc (.cells #[.slice KA kn kc, .int .i64 o, .slice B tn d] 27))) := Lib.hid ((Below.refl _ _).alloc (Nat.le_refl _) _)
  go_enter Try.func16, Try.ntmps16
  go_wp2_with fail
  go_ret2
  exact ⟨rfl, HB0.out⟩
end Go.Proofs.Ytgkidjjijgegmaa
