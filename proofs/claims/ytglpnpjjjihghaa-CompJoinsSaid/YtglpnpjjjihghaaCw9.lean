/-
  The page's example of layer 27, and the walk of CompWorth, over this seat's translation.
-/
import Derived.Test.YtglpnpjjjihghaaCw8
namespace Go.Proofs.Ytglpnpjjjihghaa
open Go.RowKit

theorem secP_I64 {x : Cfg} (h : ∀ y ∈ x.ss, I64 y.a) (i : Int) : I64 (secP x i).a := by
  unfold secP
  split
  · rw [List.getD_eq_getElem?_getD]
    rcases Nat.lt_or_ge (i - 1).toNat x.ss.length with hl | hl
    · rw [List.getElem?_eq_getElem hl]
      exact h _ (List.getElem_mem hl)
    · rw [List.getElem?_eq_none hl]
      unfold I64; simp
  · unfold I64; simp
set_option maxHeartbeats 1600000 in
set_option maxRecDepth 100000 in
theorem awake27_any (w : World) : Calls Try.prog 11 #[] w fun e w' => e = .returned (.bool true) ∧ Below w.heap.size w w' := by
  have HS : Hid (∀ (L : List Lg) (A B : Option Addr) (c d : Nat) (W : World), L.length = 1 → Seg W W.heap.size A (lgRows L) → Seg W W.heap.size B (lgRows L) → Calls Try.prog 14 #[.slice A 1 c, .slice B 1 d] W fun e w' => e = .returned (.bool true) ∧ Below W.heap.size W w') := fun L A B c d W h h1 h2 => by
    have := lsame_any L A B c d W h1 h2 (by omega)
    rw [h] at this
    exact this
  have HO : Hid (∀ (A : Option Addr) (c : Nat) (W : World), Seg W W.heap.size A (lgRows [⟨1, 0, 50⟩]) → Calls Try.prog 34 #[.slice A 1 c, .int .i64 1] W fun e w' => e = .returned (.int .i64 50) ∧ Below W.heap.size W w') := fun A c W h => cof_any [⟨1, 0, 50⟩] 1 A c W h (by simp)
  go_enter Try.func11, Try.ntmps11
  go_wp2_with fail
  refine (plain_any w).mono ?_
  rintro e w0 ⟨Am, cm, As, cs, Ac, cc, rfl, hc0, hb0⟩
  have HC0 := Lib.hid hc0
  have HB0 := Lib.hid hb0
  clear hc0 hb0
  have HW : Hid (Calls Try.prog 12 #[Cfg.val ⟨[⟨1000, 100⟩, ⟨1000, 100⟩], Am, cm, [⟨10, 12⟩, ⟨10, 12⟩], As, cs, [⟨4, 7, 9, 10⟩], Ac, cc, 500, 200, 1, 64, 32⟩, .slice (some ⟨w0.heap.size, 0, none⟩) 2 2] (w0.alloc (.cells #[.int .i64 1, .int .i64 2, .int .i64 3, .int .i64 1, .int .i64 1, .int .i64 2] 75)) (GotLE [⟨1, 0, 50⟩] 0 (w0.alloc (.cells #[.int .i64 1, .int .i64 2, .int .i64 3, .int .i64 1, .int .i64 1, .int .i64 2] 75)))) := Lib.hid (by
    have := Worth_any ⟨[⟨1000, 100⟩, ⟨1000, 100⟩], Am, cm, [⟨10, 12⟩, ⟨10, 12⟩], As, cs, [⟨4, 7, 9, 10⟩], Ac, cc, 500, 200, 1, 64, 32⟩ exL27 (some ⟨w0.heap.size, 0, none⟩) 2 (w0.alloc (.cells #[.int .i64 1, .int .i64 2, .int .i64 3, .int .i64 1, .int .i64 1, .int .i64 2] 75)) (HC0.out.below ((Below.refl _ _).alloc (Nat.le_refl _) _)) (seg_new w0 _ (lgRows exL27)) (by simp [exL27]) (by intro y hy; simp [exL27] at hy; rcases hy with rfl | rfl <;> (unfold I64; simp)) (secP_I64 (by intro y hy; simp at hy; subst hy; unfold I64; simp))
    refine this.mono ?_
    rintro e w1 (⟨hne, _⟩ | ⟨_, ks, hu, hm, hg⟩)
    · exact absurd (by kernel_rfl) hne
    · obtain ⟨_, e1, e2⟩ := ex27 Am As Ac cm cs cc hu hm
      rw [e1, e2] at hg
      exact hg)
  go_wp2_with fail
  refine HW.out.mono ?_
  rintro e w1 ⟨A1, c1, rfl, hs1, hb1⟩
  have HS1 := Lib.hid hs1
  have HB1 : Hid (Below w.heap.size w w1) := Lib.hid ((HB0.out.alloc HB0.out.size _).trans (hb1.mono (by have := HB0.out.size; simp; omega)))
  clear hs1 hb1
  simp only [List.length_cons, List.length_nil, Nat.zero_add]
  go_wp2_with fail
  have b2 : Below w1.heap.size w1 (w1.alloc (.cells #[.int .i64 1, .int .i64 0, .int .i64 50] 75)) := (Below.refl _ _).alloc (Nat.le_refl _) _
  have HS2 := Lib.hid ((HS1.out.below b2).mono b2.size)
  have HB2 : Hid (Below w.heap.size w (w1.alloc (.cells #[.int .i64 1, .int .i64 0, .int .i64 50] 75))) := Lib.hid (HB1.out.trans (b2.mono HB1.out.size))
  refine (HS.out [⟨1, 0, 50⟩] A1 _ c1 1 _ rfl HS2.out (seg_new w1 _ (lgRows [⟨1, 0, 50⟩]))).mono ?_
  rintro e w2 ⟨rfl, hb2⟩
  have HS3 := Lib.hid ((HS2.out.below hb2).mono hb2.size)
  have HB3 : Hid (Below w.heap.size w w2) := Lib.hid (HB2.out.trans (hb2.mono HB2.out.size))
  clear b2 hb2 HB2 HS2
  go_wp2_with fail
  refine (HO.out A1 c1 _ HS3.out).mono ?_
  rintro e w5 ⟨rfl, hb5⟩
  have HB5 : Hid (Below w.heap.size w w5) := Lib.hid (HB3.out.trans (hb5.mono HB3.out.size))
  clear hb5
  go_wp2_with fail
  go_ret
  exact ⟨rfl, HB5.out⟩
theorem gatL_len (f : Int → List Int) (ks : List Int) : (gatL f ks).length ≤ ks.length := by
  unfold gatL gatR
  split <;> simp
theorem put_key (x : Int) : ∀ {ks : List Int}, ks.Pairwise (· < ·) → ∃ ks' : List Int, ks'.Pairwise (· < ·) ∧ ∀ q, q ∈ ks' ↔ q = x ∨ q ∈ ks
  | [], _ => ⟨[x], by simp, fun q => by simp⟩
  | y :: ks, h => by
    obtain ⟨h1, h2⟩ := List.pairwise_cons.1 h
    rcases Int.lt_trichotomy x y with e | e | e
    · refine ⟨x :: y :: ks, List.pairwise_cons.2 ⟨fun z hz => ?_, h⟩, fun q => by simp⟩
      rcases List.mem_cons.1 hz with rfl | hz
      · exact e
      · have := h1 z hz; omega
    · subst e
      exact ⟨x :: ks, h, fun q => by simp⟩
    · obtain ⟨ks', h3, h4⟩ := put_key x h2
      refine ⟨y :: ks', List.pairwise_cons.2 ⟨fun z hz => ?_, h3⟩, fun q => ?_⟩
      · rcases (h4 z).1 hz with rfl | hz
        · exact e
        · exact h1 z hz
      · rw [List.mem_cons, List.mem_cons, h4]
        constructor
        · rintro (h | h | h)
          · exact .inr (.inl h)
          · exact .inl h
          · exact .inr (.inr h)
        · rintro (h | h | h)
          · exact .inr (.inl h)
          · exact .inl h
          · exact .inr (.inr h)
theorem some_keys : ∀ ms : List Int, ∃ ks, Keys ms ks
  | [] => ⟨[], by simp, fun q => by simp⟩
  | x :: ms => by
    obtain ⟨ks, hu, hm⟩ := some_keys ms
    obtain ⟨ks', h1, h2⟩ := put_key x hu
    exact ⟨ks', h1, fun q => by rw [h2, hm, List.mem_cons]⟩
/-- What both come to. -/
theorem worth_both {x : Cfg} {L : List Lg} {w : World} {e : Ending} {w' : World} (h : WorthP x L w e w') : ∃ (ks : List Int) (l : List Lg) (er : Int), ks.Pairwise (· < ·) ∧ (∀ q, q ∈ ks ↔ ∃ y ∈ L, y.m = q) ∧ l.length ≤ L.length ∧ GotLE l er w e w' ∧ (∀ {w2 : World} {e2 : Ending} {w3 : World}, WorthR x L ks w2 e2 w3 → GotLE l er w2 e2 w3) := by
  rcases h with ⟨hne, hg⟩ | ⟨he, ks, hu, hm, hg⟩
  · obtain ⟨ks, hK⟩ := some_keys (mems L)
    refine ⟨ks, [], wthsE x L, hK.up, fun q => ?_, by simp, hg, fun h => ?_⟩
    · rw [hK.mem]; unfold mems; rw [List.mem_map]
    · rcases h with ⟨_, h⟩ | ⟨he, _⟩
      · exact h
      · exact absurd he hne
  · refine ⟨ks, _, _, hu, hm, ?_, hg, fun h => ?_⟩
    · refine Nat.le_trans (gatL_len _ _) ?_
      have := len_sub (ms := mems L) hu fun q hq => by
        obtain ⟨y, hy, e⟩ := (hm q).1 hq
        exact List.mem_map.2 ⟨y, hy, e⟩
      rw [mems_len] at this
      exact this
    · rcases h with ⟨hne, _⟩ | ⟨_, h⟩
      · exact absurd he hne
      · exact h
set_option maxHeartbeats 1600000 in
set_option maxRecDepth 100000 in
theorem compworth_law (x : Cfg) (L : List Lg) (A : Option Addr) (c : Nat) (w : World) (hc : CfOk w x) (hm : x.ms.length ≤ maxLen) (hs : x.ss.length ≤ maxLen) (hy : x.cy.length ≤ maxLen) (hp : ∀ y ∈ x.ss, I64 y.a) (hL : Seg w w.heap.size A (lgRows L)) (hl : L.length ≤ maxLen) (hI : ∀ y ∈ L, I64 y.m ∧ I64 y.a ∧ I64 y.n) :
    Calls Try.prog 3 #[x.val, .slice A L.length c] w fun e w' => e = .returned (.bool true) ∧ Below w.heap.size w w' := by
  have HF : Hid (∀ W : World, Calls Try.prog 10 #[x.val] W fun e w' => e = .returned (.bool (fewB x)) ∧ Below W.heap.size W w') := Lib.hid fun W => few_any x W hm hs hy
  have HC := Lib.hid hc
  have HP := Lib.hid (secP_I64 hp)
  have HL := Lib.hid hL
  have HI := Lib.hid hI
  unfold maxLen at hl
  have HB0 := Lib.hid (box_below w x)
  have HX := cf_new w x
  have hbx := HX.lt
  have HBX := Lib.hid HX
  have hbs : w.heap.size ≤ (w.alloc (.cells #[.slice x.Am x.ms.length x.cm, .slice x.As x.ss.length x.cs, .slice x.Ac x.cy.length x.cc, .int .i64 x.line, .int .i64 x.capi, .int .i64 x.lead, .int .i64 x.tr, .int .i64 x.bids] 26)).heap.size := by simp
  have HW : Hid (L.length ≤ 40 → ∀ W : World, Below w.heap.size w W → Calls Try.prog 12 #[x.val, .slice A L.length c] W (WorthP x L W)) := Lib.hid fun h W hW => Worth_any x L A c W (hc.below hW) ((hL.below hW).mono hW.size) (by omega) hI (secP_I64 hp)
  have HR : Hid (L.length ≤ 40 → ∀ (ks : List Int) (W : World), ks.Pairwise (· < ·) → (∀ q, q ∈ ks ↔ ∃ y ∈ L, y.m = q) → Below w.heap.size w W → Calls Try.prog 13 #[x.val, .slice A L.length c] W (WorthR x L ks W)) := Lib.hid fun h ks W hu hk hW => rWorth_any x L ks A c W (hc.below hW) ((hL.below hW).mono hW.size) (by omega) hI (secP_I64 hp) hu hk
  clear hc hm hs hy hp hL hI HX
  unfold Cfg.val at HF HW HR
  unfold Cfg.val
  go_enter Try.func3, Try.ntmps3
  go_wp2_with fail
  generalize w.alloc (.cells #[.slice x.Am x.ms.length x.cm, .slice x.As x.ss.length x.cs, .slice x.Ac x.cy.length x.cc, .int .i64 x.line, .int .i64 x.capi, .int .i64 x.lead, .int .i64 x.tr, .int .i64 x.bids] 26) = w0 at *
  refine (HF.out w0).mono ?_
  rintro e w1 ⟨rfl, hb1⟩
  have HB1 : Hid (Below w.heap.size w w1) := Lib.hid (HB0.out.trans (hb1.mono hbs))
  have HBX1 := Lib.hid (HBX.out.below hb1)
  have hb1s := HB1.out.size
  clear hb1 HBX HB0 HF hbs hbx
  have c0 := HBX1.out.c0
  have c1 := HBX1.out.c1
  have c2 := HBX1.out.c2
  have c3 := HBX1.out.c3
  have c4 := HBX1.out.c4
  have c5 := HBX1.out.c5
  have c6 := HBX1.out.c6
  have c7 := HBX1.out.c7
  have hlt1 := HBX1.out.lt
  by_cases hfe : fewB x = true
  · by_cases hle : L.length ≤ 40
    · have hng : ¬ (40 : Int) < (L.length : Int) := by omega
      rw [hfe]
      go_wp2_with fail
      refine (HW.out hle w1 HB1.out).mono ?_
      intro e w2 hwp
      obtain ⟨ks, l, er, hu, hmk, hll, ⟨A2, c2', rfl, hs2, hb2⟩, hR⟩ := worth_both hwp
      have HR2 := Lib.hid (And.intro hu (And.intro hmk @hR))
      have HS2 := Lib.hid hs2
      have HB2 : Hid (Below w.heap.size w w2) := Lib.hid (HB1.out.trans (hb2.mono hb1s))
      have HBX2 := Lib.hid (HBX1.out.below hb2)
      have hb2s := HB2.out.size
      clear hu hmk hR hwp hs2 hb2 c0 c1 c2 c3 c4 c5 c6 c7 hlt1 HBX1
      have c0 := HBX2.out.c0
      have c1 := HBX2.out.c1
      have c2 := HBX2.out.c2
      have c3 := HBX2.out.c3
      have c4 := HBX2.out.c4
      have c5 := HBX2.out.c5
      have c6 := HBX2.out.c6
      have c7 := HBX2.out.c7
      have hlt2 := HBX2.out.lt
      go_wp2_with fail
      refine (HR.out hle ks w2 HR2.out.1 HR2.out.2.1 HB2.out).mono ?_
      intro e w3 hwr
      obtain ⟨A3, c3', rfl, hs3, hb3⟩ := HR2.out.2.2 hwr
      have HS3 := Lib.hid hs3
      have HS23 := Lib.hid ((HS2.out.below hb3).mono hb3.size)
      have HB3 : Hid (Below w.heap.size w w3) := Lib.hid (HB2.out.trans (hb3.mono hb2s))
      have hb3s := HB3.out.size
      clear hwr hs3 hb3 c0 c1 c2 c3 c4 c5 c6 c7 hlt2 HBX2
      go_wp2_with fail
      refine (awake27_any w3).mono ?_
      rintro e w4 ⟨rfl, hb4⟩
      have HS4 := Lib.hid ((HS3.out.below hb4).mono hb4.size)
      have HS24 := Lib.hid ((HS23.out.below hb4).mono hb4.size)
      have HB4 : Hid (Below w.heap.size w w4) := Lib.hid (HB3.out.trans (hb4.mono hb3s))
      have hb4s := HB4.out.size
      clear hb4
      go_wp2_with fail
      refine (lsame_any l A2 A3 c2' c3' w4 HS24.out HS4.out (by omega)).mono ?_
      rintro e w5 ⟨rfl, hb5⟩
      have HB5 : Hid (Below w.heap.size w w5) := Lib.hid (HB4.out.trans (hb5.mono hb4s))
      clear hb5
      go_wp2_with fail
      go_ret
      exact ⟨rfl, HB5.out⟩
    · have hng : (40 : Int) < (L.length : Int) := by omega
      rw [hfe]
      go_wp2_with fail
      refine (awake27_any w1).mono ?_
      rintro e w4 ⟨rfl, hb4⟩
      have HB4 : Hid (Below w.heap.size w w4) := Lib.hid (HB1.out.trans (hb4.mono hb1s))
      clear hb4
      go_wp2_with fail
      go_ret
      exact ⟨rfl, HB4.out⟩
  · have hff : fewB x = false := by simpa using hfe
    rw [hff]
    go_wp2_with fail
    refine (awake27_any w1).mono ?_
    rintro e w4 ⟨rfl, hb4⟩
    have HB4 : Hid (Below w.heap.size w w4) := Lib.hid (HB1.out.trans (hb4.mono hb1s))
    clear hb4
    go_wp2_with fail
    go_ret
    exact ⟨rfl, HB4.out⟩
end Go.Proofs.Ytglpnpjjjihghaa
