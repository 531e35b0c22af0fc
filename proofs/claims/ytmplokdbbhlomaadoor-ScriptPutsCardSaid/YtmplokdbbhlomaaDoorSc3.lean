/-
  What num.Reader's methods come to, over this seat's translation: contracts for callers. (Printed by gen_sc3.py.)
-/
import Derived.Test.YtmplokdbbhlomaaDoorSc2
namespace Go.Proofs.YtmplokdbbhlomaaDoor
open Go.RowKit

/-- A reader in memory. -/
structure RdAt (w : World) (g : Nat) (r : Rd) : Prop where
  c0 : w.cell? ⟨g, 0, none⟩ = some (.string (bs r.s))
  c1 : w.cell? ⟨g, 1, none⟩ = some (.int .i64 r.e)
  fz : ∀ j, w.frozen? ⟨g, j, none⟩ = false
  len : r.s.length ≤ 1000000
theorem RdAt.lt {w : World} {g : Nat} {r : Rd} (h : RdAt w g r) : g < w.heap.size := World.block_lt_of_cell? w _ h.c0
theorem RdAt.kept {w w' : World} {g : Nat} {r : Rd} (h : RdAt w g r) {row : Option Nat} (hg : w.grownBy w' row) (hne : some g ≠ row) : RdAt w' g r := by
  have hb := hg.block g h.lt hne
  refine ⟨(World.cell?_of_block (a := ⟨g, 0, none⟩) hb).trans h.c0, (World.cell?_of_block (a := ⟨g, 1, none⟩) hb).trans h.c1, fun j => ?_, h.len⟩
  have : w'.frozen? ⟨g, j, none⟩ = w.frozen? ⟨g, j, none⟩ := by unfold World.frozen?; rw [hb]
  rw [this]
  exact h.fz j
theorem RdAt.below {w w' : World} {g : Nat} {r : Rd} (h : RdAt w g r) (hb : Below w.heap.size w w') : RdAt w' g r :=
  h.kept ⟨hb.os, hb.tape, hb.output, hb.size, fun k hk _ => hb.block k hk⟩ (row := none) (fun e => by cases e)
theorem grown_setS (W : World) (b i : Nat) (v : Value) : W.grownBy (W.setCell ⟨b, i, none⟩ v) (some b) := ⟨rfl, rfl, rfl, by simp, fun k _ hk => RowKit.Below.heap_setCell _ _ _ _ (fun e => hk (by rw [e]))⟩
theorem RdAt.setS {w : World} {g : Nat} {r : Rd} (h : RdAt w g r) {s : List UInt8} (hs : s.length ≤ 1000000) : RdAt (w.setCell ⟨g, 0, none⟩ (.string (bs s))) g ⟨s, r.e⟩ :=
  ⟨World.cell?_setCell_same' _ _ _ (by rw [h.c0]; rfl), (World.cell?_setCell_other _ _ _ _ (fun e => by injection e with _ e _; cases e)).trans h.c1, fun j => by rw [World.frozen?_setCell]; exact h.fz j, hs⟩
theorem RdAt.setE {w : World} {g : Nat} {r : Rd} (h : RdAt w g r) (e : Int) : RdAt (w.setCell ⟨g, 1, none⟩ (.int .i64 e)) g ⟨r.s, e⟩ :=
  ⟨(World.cell?_setCell_other _ _ _ _ (fun e => by injection e with _ e _; cases e)).trans h.c0, World.cell?_setCell_same' _ _ _ (by rw [h.c1]; rfl), fun j => by rw [World.frozen?_setCell]; exact h.fz j, h.len⟩
theorem grown_belowS {w w' W : World} {g : Nat} (h : w.grownBy w' (some g)) (hb : Below w'.heap.size w' W) : w.grownBy W (some g) :=
  ⟨hb.os.trans h.os, hb.tape.trans h.tape, hb.output.trans h.output, Nat.le_trans h.size hb.size, fun k hk hne => (hb.block k (Nat.lt_of_lt_of_le hk h.size)).trans (h.block k hk hne)⟩
theorem grown_toS {w W : World} (h : Below w.heap.size w W) (g : Nat) : w.grownBy W (some g) := ⟨h.os, h.tape, h.output, h.size, fun k hk _ => h.block k hk⟩
theorem grown_twoS {w w' W : World} {g : Nat} (h : w.grownBy w' (some g)) (h' : w'.grownBy W (some g)) : w.grownBy W (some g) :=
  ⟨h'.os.trans h.os, h'.tape.trans h.tape, h'.output.trans h.output, Nat.le_trans h.size h'.size, fun k hk hne => (h'.block k (Nat.lt_of_lt_of_le hk h.size) hne).trans (h.block k hk hne)⟩
theorem getFrom_len : ∀ (s : List UInt8) (i z : Nat), (getFrom s i z).2.1.length ≤ s.length
  | [], i, z => by
    unfold getFrom
    split <;> simp
  | c :: s, i, z => by
    unfold getFrom
    have ih := getFrom_len s (i + 1) (z + c.toNat % 128 * 2 ^ (7 * i))
    split
    · simp
    · split
      · simp
      · split
        · split <;> simp
        · rw [List.length_cons]
          omega
theorem getB_len (s : List UInt8) : (getB s).2.1.length ≤ s.length := getFrom_len s 0 0
theorem getFrom_err : ∀ (s : List UInt8) (i z : Nat), (getFrom s i z).2.2 ≠ 0 → (getFrom s i z).2.1 = []
  | [], i, z, h => by
    unfold getFrom
    split <;> rfl
  | c :: s, i, z, h => by
    have ih := getFrom_err s (i + 1) (z + c.toNat % 128 * 2 ^ (7 * i))
    unfold getFrom at h ⊢
    repeat' split
    all_goals first | rfl | skip
    · rename_i h1 h2 h3 h4
      rw [if_neg h1, if_neg h2, if_pos h3, if_neg h4] at h
      exact absurd rfl h
    · rename_i h1 h2 h3
      rw [if_neg h1, if_neg h2, if_neg h3] at h
      exact ih h
theorem getB_I64 (s : List UInt8) : I64 (getB s).1 := by
  by_cases h : (getB s).2.2 = 0
  · exact (get_got (s := s) (r := (getB s).2.1) (n := (getB s).1) (by rw [← h])).2
  · have : ∀ (s : List UInt8) (i z : Nat), (getFrom s i z).2.2 ≠ 0 → (getFrom s i z).1 = 0 := by
      intro s
      induction s with
      | nil => intro i z _; unfold getFrom; split <;> rfl
      | cons c s ih =>
        intro i z h
        have ih := ih (i + 1) (z + c.toNat % 128 * 2 ^ (7 * i))
        unfold getFrom at h ⊢
        repeat' split
        all_goals first | rfl | skip
        · rename_i h1 h2 h3 h4
          rw [if_neg h1, if_neg h2, if_pos h3, if_neg h4] at h
          exact absurd rfl h
        · rename_i h1 h2 h3
          rw [if_neg h1, if_neg h2, if_neg h3] at h
          exact ih h
    rw [show (getB s).1 = 0 from this s 0 0 h]
    unfold I64
    omega
set_option maxHeartbeats 800000 in
theorem new_any (l : List UInt8) (w : World) (hl : l.length ≤ 1000000) : Calls Tryd.prog 20 #[.string (bs l)] w fun e w' => e = .returned (.pointer (some ⟨w.heap.size, 0, none⟩)) ∧ RdAt w' w.heap.size ⟨l, 0⟩ ∧ Below w.heap.size w w' := by
  go_enter Tryd.func20, Tryd.ntmps20
  go_wp2_with fail
  go_ret
  exact ⟨rfl, ⟨cell_new _ _ _ _ rfl, cell_new _ _ _ _ rfl, fun j => by go_simp, hl⟩, (Below.refl _ _).alloc (Nat.le_refl _) _⟩
set_option maxHeartbeats 800000 in
theorem err_any (g : Nat) (r : Rd) (w : World) (h : RdAt w g r) : Calls Tryd.prog 22 #[.pointer (some ⟨g, 0, none⟩)] w fun e w' => e = .returned (.int .i64 r.e) ∧ w' = w := by
  have c1 := h.c1
  go_enter Tryd.func22, Tryd.ntmps22
  go_wp2_with fail
  go_ret
  exact ⟨rfl, rfl⟩
set_option maxHeartbeats 800000 in
theorem left_any (g : Nat) (r : Rd) (w : World) (h : RdAt w g r) : Calls Tryd.prog 42 #[.pointer (some ⟨g, 0, none⟩)] w fun e w' => e = .returned (.int .i64 (r.s.length : Int)) ∧ w' = w := by
  have c0 := h.c0
  have hsz := bs_size r.s
  go_enter Tryd.func42, Tryd.ntmps42
  go_wp2_with fail
  go_ret
  exact ⟨rfl, rfl⟩
set_option maxHeartbeats 1600000 in
theorem end_any (g : Nat) (r : Rd) (w : World) (h : RdAt w g r) : Calls Tryd.prog 24 #[.pointer (some ⟨g, 0, none⟩)] w fun e w' => e = .returned (.int .i64 (rEnd r)) ∧ w' = w := by
  have HE := Lib.hid (err_any g r w h)
  have HL := Lib.hid (left_any g r w h)
  obtain ⟨q, HQ⟩ : ∃ q, Hid (q = rEnd r) := ⟨_, Lib.hid rfl⟩
  rw [← HQ.out]
  unfold rEnd at HQ
  by_cases h0 : r.e = 0
  · have hb : (r.e != 0) = false := by simpa using h0
    by_cases hs : r.s = []
    · have hl : ((r.s.length : Int) == 0) = true := by rw [hs]; rfl
      have HQ2 : Hid (q = 0) := Lib.hid (by rw [HQ.out, if_neg (fun e => e.2 hs), h0])
      clear hs h
      generalize r.s.length = n at *
      go_enter Tryd.func24, Tryd.ntmps24
      go_wp2_with (first | (go_at_call 22; refine HE.out.mono ?_; rintro e w1 ⟨rfl, rfl⟩) | (go_at_call 42; refine HL.out.mono ?_; rintro e w1 ⟨rfl, rfl⟩))
      go_ret
      exact ⟨by rw [HQ2.out]; rfl, rfl⟩
    · have hl : ((r.s.length : Int) == 0) = false := by
        have : r.s.length ≠ 0 := fun e => hs (List.eq_nil_of_length_eq_zero e)
        simpa using (show (r.s.length : Int) ≠ 0 by omega)
      have HQ2 : Hid (q = 3) := Lib.hid (by rw [HQ.out, if_pos ⟨h0, hs⟩])
      clear hs h
      generalize r.s.length = n at *
      go_enter Tryd.func24, Tryd.ntmps24
      go_wp2_with (first | (go_at_call 22; refine HE.out.mono ?_; rintro e w1 ⟨rfl, rfl⟩) | (go_at_call 42; refine HL.out.mono ?_; rintro e w1 ⟨rfl, rfl⟩))
      go_ret
      exact ⟨by rw [HQ2.out]; rfl, rfl⟩
  · have hb : (r.e != 0) = true := by simpa using h0
    have HQ2 : Hid (q = r.e) := Lib.hid (by rw [HQ.out, if_neg (fun e => h0 e.1)])
    go_enter Tryd.func24, Tryd.ntmps24
    go_wp2_with (go_at_call 22; refine HE.out.mono ?_; rintro e w1 ⟨rfl, rfl⟩)
    go_ret
    exact ⟨by rw [HQ2.out]; rfl, rfl⟩

set_option maxHeartbeats 800000 in
theorem num1_any (n : Int) (w : World) : Calls Tryd.prog 58 #[.int .i64 n] w fun e w' => e = .returned (.bool true) ∧ w' = w := by
  go_enter Tryd.func58, Tryd.ntmps58
  go_wp2_with fail
  go_ret
  exact ⟨rfl, rfl⟩
set_option maxHeartbeats 800000 in
theorem upto1_any (m : Nat) (most n : Int) (w : World) (hm : w.cell? ⟨m, 0, none⟩ = some (.int .i64 most)) : Calls Tryd.prog 38 #[.int .i64 n, .pointer (some ⟨m, 0, none⟩)] w fun e w' => e = .returned (.bool (uptoB most n)) ∧ w' = w := by
  unfold uptoB
  by_cases h0 : 0 ≤ n
  · have hd : decide ((0 : Int) ≤ n) = true := decide_eq_true h0
    go_enter Tryd.func38, Tryd.ntmps38
    go_wp2_with fail
    go_ret
    exact ⟨by simp [hd], rfl⟩
  · have hd : decide ((0 : Int) ≤ n) = false := decide_eq_false h0
    go_enter Tryd.func38, Tryd.ntmps38
    go_wp2_with fail
    go_ret
    exact ⟨rfl, rfl⟩
set_option maxHeartbeats 800000 in
theorem text1_any (m : Nat) (most n : Int) (w : World) (hm : w.cell? ⟨m, 0, none⟩ = some (.int .i64 most)) : Calls Tryd.prog 56 #[.int .i64 n, .pointer (some ⟨m, 0, none⟩)] w fun e w' => e = .returned (.bool (uptoB most n)) ∧ w' = w := by
  unfold uptoB
  by_cases h0 : 0 ≤ n
  · have hd : decide ((0 : Int) ≤ n) = true := decide_eq_true h0
    go_enter Tryd.func56, Tryd.ntmps56
    go_wp2_with fail
    go_ret
    exact ⟨by simp [hd], rfl⟩
  · have hd : decide ((0 : Int) ≤ n) = false := decide_eq_false h0
    go_enter Tryd.func56, Tryd.ntmps56
    go_wp2_with fail
    go_ret
    exact ⟨rfl, rfl⟩
set_option maxRecDepth 100000 in
set_option maxHeartbeats 3200000 in
theorem take_num (g : Nat) (r : Rd) (w : World) (h : RdAt w g r) : Calls Tryd.prog 37 #[.pointer (some ⟨g, 0, none⟩), .func (.func 58) #[] #[]] w fun e w' => e = .returned (.tuple #[.int .i64 (rTake (fun _ => true) r).1, .bool (rTake (fun _ => true) r).2.1]) ∧ RdAt w' g (rTake (fun _ => true) r).2.2 ∧ w.grownBy w' (some g) := by
  have HE := Lib.hid (err_any g r w h)
  have HR := Lib.hid h
  have c0 := h.c0
  have hf := h.fz
  have hlen := h.len
  have HGT := Lib.hid (get_any r.s w (by omega))
  have hgl := getB_len r.s
  obtain ⟨T, HT⟩ : ∃ T, Hid (T = rTake (fun _ => true) r) := ⟨_, Lib.hid rfl⟩
  rw [← HT.out]
  by_cases h0 : r.e = 0
  case neg =>
    have hb : (r.e != 0) = true := by simpa using h0
    have HT2 : Hid (T = (0, false, r)) := Lib.hid (by rw [HT.out, rTake_bad h0])
    clear h
    go_enter Tryd.func37, Tryd.ntmps37
    go_wp2_with (go_at_call 22; refine HE.out.mono ?_; rintro e w1 ⟨rfl, rfl⟩)
    go_ret2
    rw [HT2.out]
    exact ⟨rfl, HR.out, World.grownBy.refl _ _⟩
  have hb : (r.e != 0) = false := by simpa using h0
  have HG0 : Hid (T = if (getB r.s).2.2 = 0 then (if (fun _ => true) (getB r.s).1 then ((getB r.s).1, true, ⟨(getB r.s).2.1, 0⟩) else (0, false, ⟨r.s, 3⟩)) else (0, false, ⟨r.s, (getB r.s).2.2⟩)) := Lib.hid (by rw [HT.out]; unfold rTake; rw [if_pos h0])
  clear HT
  generalize getB r.s = G at *
  obtain ⟨n, rest, e'⟩ := G
  simp only at hgl HGT
  by_cases h1 : e' = 0
  case neg =>
    have he : (e' == 0) = false := by simpa using h1
    have hne : (e' != 0) = true := by simpa using h1
    have HT2 : Hid (T = (0, false, ⟨r.s, e'⟩)) := Lib.hid (by rw [HG0.out]; exact if_neg h1)
    clear HG0 h
    go_enter Tryd.func37, Tryd.ntmps37
    go_wp2_with (first | (go_at_call 22; refine HE.out.mono ?_; rintro e w1 ⟨rfl, rfl⟩) | (go_at_call 55; refine HGT.out.mono ?_; rintro e w2 ⟨rfl, hb2⟩; have HR2 := Lib.hid (HR.out.below hb2); have HB2 := Lib.hid hb2; have k0 := HR2.out.c0; have k1 := HR2.out.c1; have kf := HR2.out.fz; clear hb2 c0 hf))
    refine bodyPost_ret (v := .tuple #[.int .i64 0, .bool false]) (by simp [results, Tryd.results37, go_sem]) rfl ?_
    rw [HT2.out]
    exact ⟨rfl, HR2.out.setE e', grown_twoS (grown_toS HB2.out g) (grown_setS _ _ _ _)⟩
  subst h1
  have HT1 : Hid (T = if (fun _ => true) n then (n, true, ⟨rest, 0⟩) else (0, false, ⟨r.s, 3⟩)) := Lib.hid (by rw [HG0.out]; exact if_pos rfl)
  clear HG0
  · have HT2 : Hid (T = (n, true, ⟨rest, 0⟩)) := Lib.hid (by rw [HT1.out]; rfl)
    clear HT1 h
    go_enter Tryd.func37, Tryd.ntmps37
    go_wp2_with (first | (go_at_call 22; refine HE.out.mono ?_; rintro e w1 ⟨rfl, rfl⟩) | (go_at_call 55; refine HGT.out.mono ?_; rintro e w2 ⟨rfl, hb2⟩; have HR2 := Lib.hid (HR.out.below hb2); have HB2 := Lib.hid hb2; have k0 := HR2.out.c0; have k1 := HR2.out.c1; have kf := HR2.out.fz; clear hb2 c0 hf) | (go_at_call 58; refine (num1_any n w2).mono ?_; rintro e w3 ⟨rfl, rfl⟩))
    refine bodyPost_ret (v := .tuple #[.int .i64 n, .bool true]) (by simp [results, Tryd.results37, go_sem]) rfl ?_
    rw [HT2.out]
    have hs := HR2.out.setS (s := rest) (by omega)
    rw [h0] at hs
    exact ⟨rfl, hs, grown_twoS (grown_toS HB2.out g) (grown_setS _ _ _ _)⟩

set_option maxRecDepth 100000 in
set_option maxHeartbeats 3200000 in
theorem take_upto (g : Nat) (r : Rd) (m : Nat) (most : Int) (w : World) (h : RdAt w g r) (hm : w.cell? ⟨m, 0, none⟩ = some (.int .i64 most)) : Calls Tryd.prog 37 #[.pointer (some ⟨g, 0, none⟩), .func (.func 38) #[] #[.pointer (some ⟨m, 0, none⟩)]] w fun e w' => e = .returned (.tuple #[.int .i64 (rTake (uptoB most) r).1, .bool (rTake (uptoB most) r).2.1]) ∧ RdAt w' g (rTake (uptoB most) r).2.2 ∧ w.grownBy w' (some g) := by
  have HE := Lib.hid (err_any g r w h)
  have HR := Lib.hid h
  have c0 := h.c0
  have hf := h.fz
  have hlen := h.len
  have HGT := Lib.hid (get_any r.s w (by omega))
  have hgl := getB_len r.s
  obtain ⟨T, HT⟩ : ∃ T, Hid (T = rTake (uptoB most) r) := ⟨_, Lib.hid rfl⟩
  rw [← HT.out]
  by_cases h0 : r.e = 0
  case neg =>
    have hb : (r.e != 0) = true := by simpa using h0
    have HT2 : Hid (T = (0, false, r)) := Lib.hid (by rw [HT.out, rTake_bad h0])
    clear h
    go_enter Tryd.func37, Tryd.ntmps37
    go_wp2_with (go_at_call 22; refine HE.out.mono ?_; rintro e w1 ⟨rfl, rfl⟩)
    go_ret2
    rw [HT2.out]
    exact ⟨rfl, HR.out, World.grownBy.refl _ _⟩
  have hb : (r.e != 0) = false := by simpa using h0
  have HG0 : Hid (T = if (getB r.s).2.2 = 0 then (if (uptoB most) (getB r.s).1 then ((getB r.s).1, true, ⟨(getB r.s).2.1, 0⟩) else (0, false, ⟨r.s, 3⟩)) else (0, false, ⟨r.s, (getB r.s).2.2⟩)) := Lib.hid (by rw [HT.out]; unfold rTake; rw [if_pos h0])
  clear HT
  generalize getB r.s = G at *
  obtain ⟨n, rest, e'⟩ := G
  simp only at hgl HGT
  by_cases h1 : e' = 0
  case neg =>
    have he : (e' == 0) = false := by simpa using h1
    have hne : (e' != 0) = true := by simpa using h1
    have HT2 : Hid (T = (0, false, ⟨r.s, e'⟩)) := Lib.hid (by rw [HG0.out]; exact if_neg h1)
    clear HG0 h
    go_enter Tryd.func37, Tryd.ntmps37
    go_wp2_with (first | (go_at_call 22; refine HE.out.mono ?_; rintro e w1 ⟨rfl, rfl⟩) | (go_at_call 55; refine HGT.out.mono ?_; rintro e w2 ⟨rfl, hb2⟩; have HR2 := Lib.hid (HR.out.below hb2); have HB2 := Lib.hid hb2; have k0 := HR2.out.c0; have k1 := HR2.out.c1; have kf := HR2.out.fz; clear hb2 c0 hf))
    refine bodyPost_ret (v := .tuple #[.int .i64 0, .bool false]) (by simp [results, Tryd.results37, go_sem]) rfl ?_
    rw [HT2.out]
    exact ⟨rfl, HR2.out.setE e', grown_twoS (grown_toS HB2.out g) (grown_setS _ _ _ _)⟩
  subst h1
  have HT1 : Hid (T = if (uptoB most) n then (n, true, ⟨rest, 0⟩) else (0, false, ⟨r.s, 3⟩)) := Lib.hid (by rw [HG0.out]; exact if_pos rfl)
  clear HG0
  rcases (show (0 ≤ n ∧ n ≤ most) ∨ ¬ 0 ≤ n ∨ (0 ≤ n ∧ ¬ n ≤ most) by omega) with hq | hq | hq
  · have hub : uptoB most n = true := by simp [uptoB]; omega
    have HT2 : Hid (T = (n, true, ⟨rest, 0⟩)) := Lib.hid (by rw [HT1.out]; exact if_pos hub)
    clear HT1 h
    go_enter Tryd.func37, Tryd.ntmps37
    go_wp2_with (first | (go_at_call 22; refine HE.out.mono ?_; rintro e w1 ⟨rfl, rfl⟩) | (go_at_call 55; refine HGT.out.mono ?_; rintro e w2 ⟨rfl, hb2⟩; have HR2 := Lib.hid (HR.out.below hb2); have HB2 := Lib.hid hb2; have k0 := HR2.out.c0; have k1 := HR2.out.c1; have kf := HR2.out.fz; have km := (hb2.cell (p := ⟨m, 0, none⟩) (World.block_lt_of_cell? w1 _ hm)).trans hm; clear hb2 c0 hf) | (go_at_call 38; refine (upto1_any m most n w2 km).mono ?_; rintro e w3 ⟨rfl, rfl⟩))
    refine bodyPost_ret (v := .tuple #[.int .i64 n, .bool true]) (by simp [results, Tryd.results37, go_sem]) rfl ?_
    rw [HT2.out]
    have hs := HR2.out.setS (s := rest) (by omega)
    rw [h0] at hs
    exact ⟨rfl, hs, grown_twoS (grown_toS HB2.out g) (grown_setS _ _ _ _)⟩
  · have hub : uptoB most n = false := by simp [uptoB]; omega
    have HT2 : Hid (T = (0, false, ⟨r.s, 3⟩)) := Lib.hid (by rw [HT1.out]; exact if_neg (by rw [hub]; simp))
    clear HT1 h
    go_enter Tryd.func37, Tryd.ntmps37
    go_wp2_with (first | (go_at_call 22; refine HE.out.mono ?_; rintro e w1 ⟨rfl, rfl⟩) | (go_at_call 55; refine HGT.out.mono ?_; rintro e w2 ⟨rfl, hb2⟩; have HR2 := Lib.hid (HR.out.below hb2); have HB2 := Lib.hid hb2; have k0 := HR2.out.c0; have k1 := HR2.out.c1; have kf := HR2.out.fz; have km := (hb2.cell (p := ⟨m, 0, none⟩) (World.block_lt_of_cell? w1 _ hm)).trans hm; clear hb2 c0 hf) | (go_at_call 38; refine (upto1_any m most n w2 km).mono ?_; rintro e w3 ⟨rfl, rfl⟩))
    refine bodyPost_ret (v := .tuple #[.int .i64 0, .bool false]) (by simp [results, Tryd.results37, go_sem]) rfl ?_
    rw [HT2.out]
    exact ⟨rfl, HR2.out.setE 3, grown_twoS (grown_toS HB2.out g) (grown_setS _ _ _ _)⟩
  · have hub : uptoB most n = false := by simp [uptoB]; omega
    have HT2 : Hid (T = (0, false, ⟨r.s, 3⟩)) := Lib.hid (by rw [HT1.out]; exact if_neg (by rw [hub]; simp))
    clear HT1 h
    go_enter Tryd.func37, Tryd.ntmps37
    go_wp2_with (first | (go_at_call 22; refine HE.out.mono ?_; rintro e w1 ⟨rfl, rfl⟩) | (go_at_call 55; refine HGT.out.mono ?_; rintro e w2 ⟨rfl, hb2⟩; have HR2 := Lib.hid (HR.out.below hb2); have HB2 := Lib.hid hb2; have k0 := HR2.out.c0; have k1 := HR2.out.c1; have kf := HR2.out.fz; have km := (hb2.cell (p := ⟨m, 0, none⟩) (World.block_lt_of_cell? w1 _ hm)).trans hm; clear hb2 c0 hf) | (go_at_call 38; refine (upto1_any m most n w2 km).mono ?_; rintro e w3 ⟨rfl, rfl⟩))
    refine bodyPost_ret (v := .tuple #[.int .i64 0, .bool false]) (by simp [results, Tryd.results37, go_sem]) rfl ?_
    rw [HT2.out]
    exact ⟨rfl, HR2.out.setE 3, grown_twoS (grown_toS HB2.out g) (grown_setS _ _ _ _)⟩

set_option maxRecDepth 100000 in
set_option maxHeartbeats 3200000 in
theorem take_text (g : Nat) (r : Rd) (m : Nat) (most : Int) (w : World) (h : RdAt w g r) (hm : w.cell? ⟨m, 0, none⟩ = some (.int .i64 most)) : Calls Tryd.prog 37 #[.pointer (some ⟨g, 0, none⟩), .func (.func 56) #[] #[.pointer (some ⟨m, 0, none⟩)]] w fun e w' => e = .returned (.tuple #[.int .i64 (rTake (uptoB most) r).1, .bool (rTake (uptoB most) r).2.1]) ∧ RdAt w' g (rTake (uptoB most) r).2.2 ∧ w.grownBy w' (some g) := by
  have HE := Lib.hid (err_any g r w h)
  have HR := Lib.hid h
  have c0 := h.c0
  have hf := h.fz
  have hlen := h.len
  have HGT := Lib.hid (get_any r.s w (by omega))
  have hgl := getB_len r.s
  obtain ⟨T, HT⟩ : ∃ T, Hid (T = rTake (uptoB most) r) := ⟨_, Lib.hid rfl⟩
  rw [← HT.out]
  by_cases h0 : r.e = 0
  case neg =>
    have hb : (r.e != 0) = true := by simpa using h0
    have HT2 : Hid (T = (0, false, r)) := Lib.hid (by rw [HT.out, rTake_bad h0])
    clear h
    go_enter Tryd.func37, Tryd.ntmps37
    go_wp2_with (go_at_call 22; refine HE.out.mono ?_; rintro e w1 ⟨rfl, rfl⟩)
    go_ret2
    rw [HT2.out]
    exact ⟨rfl, HR.out, World.grownBy.refl _ _⟩
  have hb : (r.e != 0) = false := by simpa using h0
  have HG0 : Hid (T = if (getB r.s).2.2 = 0 then (if (uptoB most) (getB r.s).1 then ((getB r.s).1, true, ⟨(getB r.s).2.1, 0⟩) else (0, false, ⟨r.s, 3⟩)) else (0, false, ⟨r.s, (getB r.s).2.2⟩)) := Lib.hid (by rw [HT.out]; unfold rTake; rw [if_pos h0])
  clear HT
  generalize getB r.s = G at *
  obtain ⟨n, rest, e'⟩ := G
  simp only at hgl HGT
  by_cases h1 : e' = 0
  case neg =>
    have he : (e' == 0) = false := by simpa using h1
    have hne : (e' != 0) = true := by simpa using h1
    have HT2 : Hid (T = (0, false, ⟨r.s, e'⟩)) := Lib.hid (by rw [HG0.out]; exact if_neg h1)
    clear HG0 h
    go_enter Tryd.func37, Tryd.ntmps37
    go_wp2_with (first | (go_at_call 22; refine HE.out.mono ?_; rintro e w1 ⟨rfl, rfl⟩) | (go_at_call 55; refine HGT.out.mono ?_; rintro e w2 ⟨rfl, hb2⟩; have HR2 := Lib.hid (HR.out.below hb2); have HB2 := Lib.hid hb2; have k0 := HR2.out.c0; have k1 := HR2.out.c1; have kf := HR2.out.fz; clear hb2 c0 hf))
    refine bodyPost_ret (v := .tuple #[.int .i64 0, .bool false]) (by simp [results, Tryd.results37, go_sem]) rfl ?_
    rw [HT2.out]
    exact ⟨rfl, HR2.out.setE e', grown_twoS (grown_toS HB2.out g) (grown_setS _ _ _ _)⟩
  subst h1
  have HT1 : Hid (T = if (uptoB most) n then (n, true, ⟨rest, 0⟩) else (0, false, ⟨r.s, 3⟩)) := Lib.hid (by rw [HG0.out]; exact if_pos rfl)
  clear HG0
  rcases (show (0 ≤ n ∧ n ≤ most) ∨ ¬ 0 ≤ n ∨ (0 ≤ n ∧ ¬ n ≤ most) by omega) with hq | hq | hq
  · have hub : uptoB most n = true := by simp [uptoB]; omega
    have HT2 : Hid (T = (n, true, ⟨rest, 0⟩)) := Lib.hid (by rw [HT1.out]; exact if_pos hub)
    clear HT1 h
    go_enter Tryd.func37, Tryd.ntmps37
    go_wp2_with (first | (go_at_call 22; refine HE.out.mono ?_; rintro e w1 ⟨rfl, rfl⟩) | (go_at_call 55; refine HGT.out.mono ?_; rintro e w2 ⟨rfl, hb2⟩; have HR2 := Lib.hid (HR.out.below hb2); have HB2 := Lib.hid hb2; have k0 := HR2.out.c0; have k1 := HR2.out.c1; have kf := HR2.out.fz; have km := (hb2.cell (p := ⟨m, 0, none⟩) (World.block_lt_of_cell? w1 _ hm)).trans hm; clear hb2 c0 hf) | (go_at_call 56; refine (text1_any m most n w2 km).mono ?_; rintro e w3 ⟨rfl, rfl⟩))
    refine bodyPost_ret (v := .tuple #[.int .i64 n, .bool true]) (by simp [results, Tryd.results37, go_sem]) rfl ?_
    rw [HT2.out]
    have hs := HR2.out.setS (s := rest) (by omega)
    rw [h0] at hs
    exact ⟨rfl, hs, grown_twoS (grown_toS HB2.out g) (grown_setS _ _ _ _)⟩
  · have hub : uptoB most n = false := by simp [uptoB]; omega
    have HT2 : Hid (T = (0, false, ⟨r.s, 3⟩)) := Lib.hid (by rw [HT1.out]; exact if_neg (by rw [hub]; simp))
    clear HT1 h
    go_enter Tryd.func37, Tryd.ntmps37
    go_wp2_with (first | (go_at_call 22; refine HE.out.mono ?_; rintro e w1 ⟨rfl, rfl⟩) | (go_at_call 55; refine HGT.out.mono ?_; rintro e w2 ⟨rfl, hb2⟩; have HR2 := Lib.hid (HR.out.below hb2); have HB2 := Lib.hid hb2; have k0 := HR2.out.c0; have k1 := HR2.out.c1; have kf := HR2.out.fz; have km := (hb2.cell (p := ⟨m, 0, none⟩) (World.block_lt_of_cell? w1 _ hm)).trans hm; clear hb2 c0 hf) | (go_at_call 56; refine (text1_any m most n w2 km).mono ?_; rintro e w3 ⟨rfl, rfl⟩))
    refine bodyPost_ret (v := .tuple #[.int .i64 0, .bool false]) (by simp [results, Tryd.results37, go_sem]) rfl ?_
    rw [HT2.out]
    exact ⟨rfl, HR2.out.setE 3, grown_twoS (grown_toS HB2.out g) (grown_setS _ _ _ _)⟩
  · have hub : uptoB most n = false := by simp [uptoB]; omega
    have HT2 : Hid (T = (0, false, ⟨r.s, 3⟩)) := Lib.hid (by rw [HT1.out]; exact if_neg (by rw [hub]; simp))
    clear HT1 h
    go_enter Tryd.func37, Tryd.ntmps37
    go_wp2_with (first | (go_at_call 22; refine HE.out.mono ?_; rintro e w1 ⟨rfl, rfl⟩) | (go_at_call 55; refine HGT.out.mono ?_; rintro e w2 ⟨rfl, hb2⟩; have HR2 := Lib.hid (HR.out.below hb2); have HB2 := Lib.hid hb2; have k0 := HR2.out.c0; have k1 := HR2.out.c1; have kf := HR2.out.fz; have km := (hb2.cell (p := ⟨m, 0, none⟩) (World.block_lt_of_cell? w1 _ hm)).trans hm; clear hb2 c0 hf) | (go_at_call 56; refine (text1_any m most n w2 km).mono ?_; rintro e w3 ⟨rfl, rfl⟩))
    refine bodyPost_ret (v := .tuple #[.int .i64 0, .bool false]) (by simp [results, Tryd.results37, go_sem]) rfl ?_
    rw [HT2.out]
    exact ⟨rfl, HR2.out.setE 3, grown_twoS (grown_toS HB2.out g) (grown_setS _ _ _ _)⟩

end Go.Proofs.YtmplokdbbhlomaaDoor
