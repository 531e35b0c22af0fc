/-
  What num.All and num.Text come to, over this seat's translation: contracts for callers.
-/
import Derived.Test.YtmplokdbbhlomaaDoorSc4
namespace Go.Proofs.YtmplokdbbhlomaaDoor
open Go.RowKit

theorem own_keepS {w w' : World} {B : Nat} {e : TypeId} {size n : Nat} {v : Value} {xs : List Value} (h : w.ownsRow B e size v n xs) (hb : Below w.heap.size w w') : w'.ownsRow B e size v n xs :=
  h.kept (row := none) ⟨hb.os, hb.tape, hb.output, hb.size, fun k hk _ => hb.block k hk⟩ (by cases v.ownBlock <;> simp)
theorem bld_below {B b : Nat} {xs : List Value} {w w' : World} (h : Lib.IsBuilder TB TU B b xs w) (hb : Below w.heap.size w w') : Lib.IsBuilder TB TU B b xs w' := by
  have go : ∀ p, Lib.BuilderAt TB TU B b p xs w → Lib.BuilderAt TB TU B b p xs w' := fun p h => by
    have hlt := h.lt
    obtain ⟨h1, v, h2, h3, h4⟩ := h
    exact ⟨h1, v, (hb.block b hlt).trans h2, own_keepS h3 hb, h4⟩
  exact h.imp (go _) (go _)
theorem bld_fresh (w : World) (B : Nat) (hB : B ≤ w.heap.size) : Lib.IsBuilder TB TU B w.heap.size [] (w.alloc (.cells #[.pointer none, .slice none 0 0] TB)) :=
  .inl ⟨hB, .slice none 0 0, by show (w.heap.push _)[w.heap.size]? = _; simp, World.ownsRow_nil _ _ _ _, by simp [Value.ownBlock]⟩
theorem bs_append (a b : List UInt8) : bs a ++ bs b = bs (a ++ b) := by
  apply ByteArray.ext
  simp [ByteArray.data_append]
theorem bytes_append (a b : List UInt8) : Lib.byteCells (a ++ b) = Lib.byteCells a ++ Lib.byteCells b := by simp [Lib.byteCells]
theorem seg_i64 {w : World} {B : Nat} {A : Option Addr} {l : List Int} (h : Seg w B A (l.map (Value.int .i64))) {k : Nat} (hk : k < l.length) : ∃ b o, A = some ⟨b, o, none⟩ ∧ b < B ∧ w.cell? ⟨b, o + k, none⟩ = some (.int .i64 l[k]) := by
  obtain ⟨b, o, e, hb, hc⟩ := h.at (k := k) (by simpa using hk)
  exact ⟨b, o, e, hb, by rw [hc]; simp⟩
theorem putAll_len : ∀ {l : List Int}, (∀ x ∈ l, I64 x) → (l.flatMap putN).length ≤ 10 * l.length
  | [], _ => by simp
  | x :: l, h => by
    have := putAll_len (l := l) fun y hy => h y (List.mem_cons_of_mem _ hy)
    have h1 := putN_len (h x (List.mem_cons_self ..))
    rw [List.flatMap_cons, List.length_append, List.length_cons]
    omega
set_option maxRecDepth 100000 in
set_option maxHeartbeats 1600000 in
theorem all_any (l : List Int) (A : Option Addr) (c : Nat) (w : World) (hs : Seg w w.heap.size A (l.map (Value.int .i64))) (hI : ∀ x ∈ l, I64 x) (hl : l.length ≤ 1000000) : Calls Tryd.prog 33 #[.slice A l.length c] w fun e w' => e = .returned (.string (bs (l.flatMap putN))) ∧ Below w.heap.size w w' := by
  have HS := Lib.hid hs
  have HI := Lib.hid hI
  have HB0 : Hid (Lib.IsBuilder TB TU w.heap.size w.heap.size (Lib.byteCells ((l.take 0).flatMap putN)) (w.alloc (.cells #[.pointer none, .slice none 0 0] TB))) := Lib.hid (bld_fresh w w.heap.size (Nat.le_refl _))
  have HW0 : Hid (Below w.heap.size w (w.alloc (.cells #[.pointer none, .slice none 0 0] TB))) := Lib.hid ((Below.refl _ _).alloc (Nat.le_refl _) _)
  clear hs hI
  go_enter Tryd.func33, Tryd.ntmps33
  go_wp2_with fail
  go_loopw [5, 8] (fun _ i wr => ∃ k : Nat, k ≤ l.length ∧ i = .int .i64 k ∧ Hid (Lib.IsBuilder TB TU w.heap.size w.heap.size (Lib.byteCells ((l.take k).flatMap putN)) wr) ∧ Hid (Below w.heap.size w wr)) (fun _ i _ => l.length - (intOf i).toNat)
  case atStart => exact ⟨0, Nat.zero_le _, rfl, HB0, HW0⟩
  case round =>
    clear HB0 HW0
    obtain ⟨k, hk, rfl, HB, HW⟩ := hrel
    by_cases hlt : k < l.length
    · obtain ⟨b, o, rfl, hb, e0⟩ := seg_i64 (HS.out.below HW.out) hlt
      have hx := HI.out _ (List.getElem_mem hlt)
      have hlen := putAll_len (l := l.take k) (fun x hx => HI.out x (List.mem_of_mem_take hx))
      rw [List.length_take] at hlen
      have HPT := Lib.hid (put_any l[k] wr hx)
      have hpl := putN_len hx
      have HSN : Hid (Lib.byteCells ((l.take (k + 1)).flatMap putN) = Lib.byteCells ((l.take k).flatMap putN) ++ Lib.byteCells (putN l[k])) := Lib.hid (by rw [List.take_succ_eq_append_getElem hlt, List.flatMap_append, bytes_append]; simp)
      have hsz := HW.out.size
      have hk0 : (0 : Int) ≤ (k : Int) := by omega
      have hkb : (k : Int) < (l.length : Int) := by omega
      generalize l[k] = x at *
      generalize (l.take k).flatMap putN = ys at *
      go_wp2_with (first | (go_at_call 16; refine HPT.out.mono ?_; rintro e w1 ⟨rfl, hb1⟩; have HB1 := Lib.hid (bld_below HB.out hb1); have HW1 : Hid (Below w.heap.size w w1) := Lib.hid (HW.out.trans (hb1.mono hsz)); clear hb1 e0) | (go_at_call 15; refine (write_any w.heap.size w.heap.size _ (bs (putN x)) w1 HB1.out (by rw [bs_size, Lib.byteCells_length]; omega) HW1.out.size).mono ?_; rintro e w2 ⟨rfl, hbd, hb2, _⟩; have HB2 := Lib.hid hbd; have HW2 : Hid (Below w.heap.size w w2) := Lib.hid (HW1.out.trans hb2); clear hbd hb2))
      go_roundw
      case rel => exact ⟨k + 1, by omega, by go_num, by rw [HSN.out, ← strCells_mk (putN x)]; exact HB2, HW2⟩
      case measure => simp [intOf]; omega
    · obtain rfl : k = l.length := by omega
      have hb := HB.out
      rw [List.take_length] at hb
      have HST := Lib.hid (Tryd.Builder_String_any w.heap.size w.heap.size _ wr hb HW.out.size)
      clear hb HB
      go_wp2_with (go_at_call 18; refine HST.out.mono ?_; rintro e w1 ⟨rfl, hb1⟩; have HW1 : Hid (Below w.heap.size w w1) := Lib.hid (HW.out.trans hb1); clear hb1)
      go_ret
      exact ⟨rfl, HW1.out⟩
set_option maxHeartbeats 800000 in
theorem text_any (l : List UInt8) (w : World) (hl : l.length ≤ 1000000) : Calls Tryd.prog 35 #[.string (bs l)] w fun e w' => e = .returned (.string (bs (putT l))) ∧ Below w.heap.size w w' := by
  have HPT := Lib.hid (put_any (l.length : Int) w (by unfold I64; omega))
  have hsz := bs_size l
  have HPE : Hid (putT l = putN (l.length : Int) ++ l) := Lib.hid rfl
  have hpl := putN_len (n := (l.length : Int)) (by unfold I64; omega)
  generalize putN (l.length : Int) = u at *
  have hsu := bs_size u
  have hbig : ¬ 9223372036854775807 < u.length + l.length := by omega
  have hap := bs_append u l
  go_enter Tryd.func35, Tryd.ntmps35
  go_wp2_with (go_at_call 16; refine HPT.out.mono ?_; rintro e w1 ⟨rfl, hb1⟩; have HW1 := Lib.hid hb1; clear hb1)
  go_ret
  exact ⟨by rw [HPE.out]; rfl, HW1.out⟩
end Go.Proofs.YtmplokdbbhlomaaDoor
