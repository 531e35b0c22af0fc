/-
  What complinelaw37.CensusJoins comes to, over this seat's translation.
-/
import Derived.Test.YtgkidjjijgegmaaJo1
import Derived.Test.YtgkidjjijgegmaaCWF
import Derived.Laws.OwnMore
namespace Go.Proofs.Ytgkidjjijgegmaa
open Go.RowKit Go.Maps

theorem talF_dom {l : List Ev} {T : List Tl} (h : TalF (gE l) T) (hok : ∀ q, okR (gE l q) = true) (hI : ∀ x ∈ l, EvOk x) : ∀ t ∈ T, DomS t.q ∧ ∀ j, j < 5 → I64 (t.row[j]?.getD 0) := by
  intro t ht
  obtain ⟨h1, h2⟩ := (h.mem t).1 ht
  refine ⟨?_, fun j hj => ?_⟩
  · apply Classical.byContradiction
    intro hno
    have h0 : ∀ j, gE l t.q j = 0 := gE_side (fun x hx e => hno (e ▸ side_dom (hI x hx)))
    rw [h1] at h2
    simp [tlNone, tlOf, h0] at h2
  · have h3 := okR_at (hok t.q) hj
    rw [h1]
    obtain rfl | rfl | rfl | rfl | rfl : j = 0 ∨ j = 1 ∨ j = 2 ∨ j = 3 ∨ j = 4 := by omega
    all_goals exact h3
theorem kinds_bd {l : List Ev} (hl : l.length ≤ 30) : ∀ x ∈ kindsL l, 0 ≤ x ∧ x ≤ 100000 := by
  intro x hx
  unfold kindsL at hx
  obtain ⟨j, _, rfl⟩ := List.mem_map.1 hx
  have := many_bd l j
  omega
/-- Join's answer is the census of all events. -/
theorem join_plain {a b : List Ev} {Ta Tb : List Tl} (ha : TalF (gE a) Ta) (hb : TalF (gE b) Tb) (hl : (a ++ b).length ≤ 60) {K K' : List Int} {o o' err err' : Int} {T T' : List Tl}
    (hj : ((∃ q, okR (fun j => sumI (tc (Ta ++ Tb) q j)) = false) ∧ K = [] ∧ o = 0 ∧ T = [] ∧ err = 2) ∨ ((∀ q, okR (fun j => sumI (tc (Ta ++ Tb) q j)) = true) ∧ K = addK (kindsL a) (kindsL b) ∧ o = manyE a 8 + manyE b 8 ∧ TalF (fun q j => sumI (tc (Ta ++ Tb) q j)) T ∧ err = 0))
    (hR : OfR (a ++ b) K' o' T' err') : K' = K ∧ o' = o ∧ T' = T ∧ err' = err := by
  rcases hj with ⟨⟨q, hq⟩, rfl, rfl, rfl, rfl⟩ | ⟨hok, rfl, rfl, hT, rfl⟩
  · rw [join_okR ha hb q] at hq
    rcases hR with ⟨h1, _⟩ | ⟨_, _, rfl, rfl, rfl, rfl⟩ | ⟨_, h2, _⟩
    · omega
    · exact ⟨rfl, rfl, rfl, rfl⟩
    · rw [h2 q] at hq
      cases hq
  · rcases hR with ⟨h1, _⟩ | ⟨_, ⟨q, hq⟩, _⟩ | ⟨_, _, rfl, rfl, hT', rfl⟩
    · omega
    · rw [← join_okR ha hb q, hok q] at hq
      cases hq
    · exact ⟨kinds_append a b, many_append a b 8, hT'.uniq (join_talF ha hb hT), rfl⟩
/-- Events to append: nil is nothing, of no room. -/
structure EvSrc (w : World) (A : Option Addr) (c : Nat) (L : List Ev) : Prop where
  seg : Seg w w.heap.size A (evRows L)
  nil : A = none → L.length = 0 ∧ c = 0
theorem EvSrc.below {w w' : World} {A : Option Addr} {c : Nat} {L : List Ev} (h : EvSrc w A c L) (hb : Below w.heap.size w w') : EvSrc w' A c L := ⟨(h.seg.below hb).mono hb.size, h.nil⟩
theorem evs_one (L : List Ev) : ∀ u ∈ evRows L, u.oneCell' = true := by
  intro u hu
  obtain ⟨x, _, hx⟩ := List.mem_flatMap.1 hu
  exact ev_one x u hx
theorem evs_len (L : List Ev) : (evRows L).length = L.length * 5 := by
  unfold evRows
  induction L with
  | nil => rfl
  | cons x L ih => rw [List.flatMap_cons, List.length_append, ih, List.length_cons]; simp [Ev.cells]; omega
theorem evRows_append (a b : List Ev) : evRows (a ++ b) = evRows a ++ evRows b := by simp [evRows]
theorem wpList_append_ev {w : World} {ops : Array Oper} {rest : List Oper} {o : Oper} {a : Act} {Q : Exit → Act → World → Prop} (hgd : o.guard = none) (s x : Operand)
    (ho : o.op = .call { callee := .builtin .append, args := #[s, x], argTypes := #[22, 22] }) (base : Nat)
    (v : Value) (n : Nat) (xs : List Value) (hs : a.eval s = v) (hown : w.ownsRow base 34 5 v n xs)
    (A : Option Addr) (c : Nat) (L : List Ev) (hx : a.eval x = .slice A L.length c) (hz : EvSrc w A c L) (hlen : n + L.length ≤ 1000000) (hbase : base ≤ w.heap.size)
    (h : ∀ v' w', w'.ownsRow base 34 5 v' (n + L.length) (xs ++ evRows L) → w.grownBy w' v.ownBlock → wpList Try.prog ops Q rest (a.put o.dst v') w') : wpList Try.prog ops Q (o :: rest) a w := by
  obtain ⟨i0, hi0, hz0, hz1, hz2⟩ := info_parts ev_info
  cases A with
  | none =>
    obtain ⟨h1, rfl⟩ := hz.nil rfl
    obtain rfl : L = [] := List.eq_nil_of_length_eq_zero h1
    refine wpList_append_own_none hgd s x 22 ho base 34 i0 5 Try.underlying22 hi0 v n xs hs hown hx (h v w (by simpa [evRows] using hown) ⟨rfl, rfl, rfl, Nat.le_refl _, fun _ _ _ => rfl⟩)
  | some ad =>
    refine wpList_append_own w hgd s x 22 ho base 34 i0 _ 5 40 Try.underlying22 hi0 hz0 hz1 hz2 rfl (by decide) v n xs hs hown ad L.length c (evRows L) hx (evs_len L) ?_ (evs_one L) (by simp only [maxLen]; omega) (by omega) hbase ?_
    · intro j u hu
      obtain ⟨b, o', e, _, hc⟩ := hz.seg j u hu
      have e := Option.some.inj e
      subst e
      have ea : (⟨b, o', none⟩ : Addr).add j = ⟨b, o' + j, none⟩ := by unfold Addr.add; split <;> simp_all
      rw [ea]
      exact hc
    · intro v' w' h1 h2 _
      exact h v' w' h1 h2
theorem ofR_zero {l : List Ev} {K : List Int} {o : Int} {T : List Tl} (h : OfR l K o T 0) : K = kindsL l ∧ o = manyE l 8 ∧ TalF (gE l) T ∧ ∀ q, okR (gE l q) = true := by
  rcases h with ⟨_, _, _, _, h⟩ | ⟨_, _, _, _, _, h⟩ | ⟨_, h1, h2, h3, h4, _⟩
  · cases h
  · cases h
  · exact ⟨h2, h3, h4, h1⟩
theorem ofR_kinds {l : List Ev} {K : List Int} {o : Int} {T : List Tl} {err : Int} (h : OfR l K o T err) : K.length ≤ 20 := by
  rcases h with ⟨_, rfl, _⟩ | ⟨_, _, rfl, _⟩ | ⟨_, _, rfl, _⟩
  · simp
  · simp
  · rw [kindsL_len]; exact Nat.le_refl _
set_option maxRecDepth 100000 in
set_option maxHeartbeats 6400000 in
theorem joins_law (l r : List Ev) (A1 A2 : Option Addr) (c1 c2 : Nat) (w : World) (h1 : EvSrc w A1 c1 l) (h2 : EvSrc w A2 c2 r) (hI1 : ∀ x ∈ l, EvOk x) (hI2 : ∀ x ∈ r, EvOk x) (_hl : l.length ≤ maxLen) (_hr : r.length ≤ maxLen) :
    Calls Try.prog 5 #[.slice A1 l.length c1, .slice A2 r.length c2] w fun e w' => e = .returned (.bool true) ∧ Below w.heap.size w w' := by
  have H1 := Lib.hid h1
  have H2 := Lib.hid h2
  have HI1 := Lib.hid hI1
  have HI2 := Lib.hid hI2
  have HAW : Hid (∀ W, Calls Try.prog 7 #[] W fun e w' => e = .returned (.bool true) ∧ Below W.heap.size W w') := Lib.hid awake_any
  clear h1 h2 hI1 hI2
  by_cases hbig : 30 < l.length
  · have hd : decide ((30 : Int) < (l.length : Int)) = true := decide_eq_true (by omega)
    go_enter Try.func5, Try.ntmps5
    go_wp2_with (go_at_call 7; refine (HAW.out _).mono ?_; rintro e w1 ⟨rfl, hb1⟩; have HB1 := Lib.hid hb1; clear hb1)
    go_ret
    exact ⟨rfl, HB1.out⟩
  have hd : decide ((30 : Int) < (l.length : Int)) = false := decide_eq_false (by omega)
  by_cases hbig2 : 30 < r.length
  · have hd2 : decide ((30 : Int) < (r.length : Int)) = true := decide_eq_true (by omega)
    go_enter Try.func5, Try.ntmps5
    go_wp2_with (go_at_call 7; refine (HAW.out _).mono ?_; rintro e w1 ⟨rfl, hb1⟩; have HB1 := Lib.hid hb1; clear hb1)
    go_ret
    exact ⟨rfl, HB1.out⟩
  have hd2 : decide ((30 : Int) < (r.length : Int)) = false := decide_eq_false (by omega)
  have hl30 : l.length ≤ 30 := by omega
  have hr30 : r.length ≤ 30 := by omega
  clear hbig hbig2
  have HOF1 := Lib.hid (of_anyN l A1 c1 w H1.out.seg HI1.out (by omega))
  go_enter Try.func5, Try.ntmps5
  go_wp2_with fail
  refine HOF1.out.mono ?_
  rintro e w1 ⟨K1, o1, T1, err1, v1, hR1, rfl, ⟨KA, ka, TA, ta, rfl, hKA, hTA, hnA⟩, hb1⟩
  have HR1 := Lib.hid hR1
  have HKA := Lib.hid hKA
  have HTA : Hid (TlSrc w1 TA ta T1) := Lib.hid ⟨hTA, hnA⟩
  have HB1 := Lib.hid hb1
  clear HOF1 hR1 hKA hTA hnA hb1
  have HC1 : Hid (∀ j, (w1.alloc (.cells #[.slice KA K1.length ka, .int .i64 o1, .slice TA T1.length ta] 27)).cell? ⟨w1.heap.size, j, none⟩ = (#[.slice KA K1.length ka, .int .i64 o1, .slice TA T1.length ta] : Array Value)[j]?) := Lib.hid fun j => cell_new _ _ _ j rfl
  have HB1' : Hid (Below w1.heap.size w1 (w1.alloc (.cells #[.slice KA K1.length ka, .int .i64 o1, .slice TA T1.length ta] 27))) := Lib.hid ((Below.refl _ _).alloc (Nat.le_refl _) _)
  have HZ1 : Hid (w1.heap.size < (w1.alloc (.cells #[.slice KA K1.length ka, .int .i64 o1, .slice TA T1.length ta] 27)).heap.size) := Lib.hid (by simp)
  go_wp2_with fail
  generalize w1.alloc (.cells #[.slice KA K1.length ka, .int .i64 o1, .slice TA T1.length ta] 27) = x1 at *
  have HX1 : Hid (Below w.heap.size w x1) := Lib.hid (HB1.out.trans (HB1'.out.mono HB1.out.size))
  refine (of_anyN r A2 c2 x1 ((H2.out.seg.below HX1.out).mono HX1.out.size) HI2.out (by omega)).mono ?_
  rintro e w2 ⟨K2, o2, T2, err2, v2, hR2, rfl, ⟨KB, kb, TB, tb, rfl, hKB, hTB, hnB⟩, hb2⟩
  have HR2 := Lib.hid hR2
  have HKB := Lib.hid hKB
  have HTB : Hid (TlSrc w2 TB tb T2) := Lib.hid ⟨hTB, hnB⟩
  have HB2 := Lib.hid hb2
  clear hR2 hKB hTB hnB hb2
  have HC2 : Hid (∀ j, (w2.alloc (.cells #[.slice KB K2.length kb, .int .i64 o2, .slice TB T2.length tb] 27)).cell? ⟨w2.heap.size, j, none⟩ = (#[.slice KB K2.length kb, .int .i64 o2, .slice TB T2.length tb] : Array Value)[j]?) := Lib.hid fun j => cell_new _ _ _ j rfl
  have HB2' : Hid (Below w2.heap.size w2 (w2.alloc (.cells #[.slice KB K2.length kb, .int .i64 o2, .slice TB T2.length tb] 27))) := Lib.hid ((Below.refl _ _).alloc (Nat.le_refl _) _)
  have HZ2 : Hid (w2.heap.size < (w2.alloc (.cells #[.slice KB K2.length kb, .int .i64 o2, .slice TB T2.length tb] 27)).heap.size) := Lib.hid (by simp)
  by_cases he1 : err1 = 0
  case neg =>
    have hb1 : (err1 != 0) = true := by simpa using he1
    go_wp2_with (go_at_call 7; refine (HAW.out _).mono ?_; rintro e w3 ⟨rfl, hb3⟩; have HB3 := Lib.hid hb3; clear hb3)
    go_ret
    exact ⟨rfl, HX1.out.trans ((HB2.out.trans ((HB2'.out.trans (HB3.out.mono HB2'.out.size)).mono HB2.out.size)).mono HX1.out.size)⟩
  by_cases he2 : err2 = 0
  case neg =>
    have hb1 : (err1 != 0) = false := by simpa using he1
    have hb2 : (err2 != 0) = true := by simpa using he2
    go_wp2_with (go_at_call 7; refine (HAW.out _).mono ?_; rintro e w3 ⟨rfl, hb3⟩; have HB3 := Lib.hid hb3; clear hb3)
    go_ret
    exact ⟨rfl, HX1.out.trans ((HB2.out.trans ((HB2'.out.trans (HB3.out.mono HB2'.out.size)).mono HB2.out.size)).mono HX1.out.size)⟩
  subst he1
  subst he2
  obtain ⟨rfl, rfl, hF1, hO1⟩ := ofR_zero HR1.out
  obtain ⟨rfl, rfl, hF2, hO2⟩ := ofR_zero HR2.out
  have HF1 := Lib.hid hF1
  have HF2 := Lib.hid hF2
  have HDT : Hid (∀ t ∈ T1 ++ T2, DomS t.q ∧ ∀ j, j < 5 → I64 (t.row[j]?.getD 0)) := Lib.hid fun t ht => by
    rcases List.mem_append.1 ht with h | h
    · exact talF_dom hF1 hO1 HI1.out t h
    · exact talF_dom hF2 hO2 HI2.out t h
  have ht1 := talF_len hF1
  have ht2 := talF_len hF2
  have hm1 := many_bd l 8
  have hm2 := many_bd r 8
  clear HR1 HR2 hF1 hF2 hO1 hO2
  rw [kindsL_len] at HC1 HC2 HB2' HZ2 ⊢
  rw [kindsL_len]
  have hz2 : (w2.alloc (.cells #[.slice KB 20 kb, .int .i64 (manyE r 8), .slice TB T2.length tb] 27)).heap.size = w2.heap.size + 1 := by simp
  have HE3 : Hid (((w2.alloc (.cells #[.slice KB 20 kb, .int .i64 (manyE r 8), .slice TB T2.length tb] 27)).alloc (.cells #[] 34)).ownsRow (w2.heap.size + 1) 34 5 (.slice (some ⟨w2.heap.size + 1, 0, none⟩) 0 0) 0 []) := Lib.hid (by
    have h := World.ownsRow_lit (base := (w2.alloc (.cells #[.slice KB 20 kb, .int .i64 (manyE r 8), .slice TB T2.length tb] 27)).heap.size) (e := 34) (size := 5) (w2.alloc (.cells #[.slice KB 20 kb, .int .i64 (manyE r 8), .slice TB T2.length tb] 27)) #[] 0 (Nat.le_refl _) (by decide) rfl
    rw [hz2] at h
    exact h)
  have HX3 : Hid (Below (w2.alloc (.cells #[.slice KB 20 kb, .int .i64 (manyE r 8), .slice TB T2.length tb] 27)).heap.size (w2.alloc (.cells #[.slice KB 20 kb, .int .i64 (manyE r 8), .slice TB T2.length tb] 27)) ((w2.alloc (.cells #[.slice KB 20 kb, .int .i64 (manyE r 8), .slice TB T2.length tb] 27)).alloc (.cells #[] 34))) := Lib.hid ((Below.refl _ _).alloc (Nat.le_refl _) _)
  have HW3 : Hid (Below w.heap.size w ((w2.alloc (.cells #[.slice KB 20 kb, .int .i64 (manyE r 8), .slice TB T2.length tb] 27)).alloc (.cells #[] 34))) := Lib.hid (HX1.out.trans ((HB2.out.trans ((HB2'.out.trans (HX3.out.mono HB2'.out.size)).mono HB2.out.size)).mono HX1.out.size))
  have HS1 := Lib.hid (H1.out.below HW3.out)
  have hz3 : w2.heap.size + 1 ≤ ((w2.alloc (.cells #[.slice KB 20 kb, .int .i64 (manyE r 8), .slice TB T2.length tb] 27)).alloc (.cells #[] 34)).heap.size := by simp
  go_wp2_with (at_builtin; refine wpList_append_ev rfl _ _ rfl (w2.heap.size + 1) _ 0 [] rfl HE3.out A1 c1 l rfl HS1.out (by omega) hz3 ?_)
  intro v4 w4 ho4 hg4
  have HB4 : Hid (Below (w2.alloc (.cells #[.slice KB 20 kb, .int .i64 (manyE r 8), .slice TB T2.length tb] 27)).heap.size (w2.alloc (.cells #[.slice KB 20 kb, .int .i64 (manyE r 8), .slice TB T2.length tb] 27)) w4) := Lib.hid (HX3.out.trans ((Below.refl _ _).grown hg4 HX3.out.size (fun j hj => by rw [hz2]; exact own_base HE3.out j hj)))
  have hz4 : w2.heap.size + 1 ≤ w4.heap.size := Nat.le_trans hz3 hg4.size
  have HE4 : Hid (w4.ownsRow (w2.heap.size + 1) 34 5 v4 l.length (evRows l)) := Lib.hid (by simpa using ho4)
  have HW4 : Hid (Below w.heap.size w w4) := Lib.hid (HX1.out.trans ((HB2.out.trans ((HB2'.out.trans (HB4.out.mono HB2'.out.size)).mono HB2.out.size)).mono HX1.out.size))
  have HS2 := Lib.hid (H2.out.below HW4.out)
  clear ho4 hg4 HE3 HX3 HW3 HS1 hz3
  go_wp2_with (at_builtin; refine wpList_append_ev rfl _ _ rfl (w2.heap.size + 1) _ l.length (evRows l) rfl HE4.out A2 c2 r rfl HS2.out (by omega) hz4 ?_)
  intro v5 w5 ho5 hg5
  have HB5 : Hid (Below (w2.alloc (.cells #[.slice KB 20 kb, .int .i64 (manyE r 8), .slice TB T2.length tb] 27)).heap.size (w2.alloc (.cells #[.slice KB 20 kb, .int .i64 (manyE r 8), .slice TB T2.length tb] 27)) w5) := Lib.hid (HB4.out.trans ((Below.refl _ _).grown hg5 HB4.out.size (fun j hj => by rw [hz2]; exact own_base HE4.out j hj)))
  obtain ⟨L, HLE⟩ : ∃ L, Hid (L = l ++ r) := ⟨_, Lib.hid rfl⟩
  have hLl : L.length ≤ 60 := by rw [HLE.out, List.length_append]; omega
  have HE5 : Hid (w5.ownsRow (w2.heap.size + 1) 34 5 v5 L.length (evRows L)) := Lib.hid (by rw [HLE.out, evRows_append, List.length_append]; exact ho5)
  have HIL : Hid (∀ x ∈ L, EvOk x) := Lib.hid (by rw [HLE.out]; exact fun x hx => (List.mem_append.1 hx).elim (HI1.out x) (HI2.out x))
  clear ho5 hg5 HE4 HS2 hz4 HW4 HB4
  obtain ⟨A5, c5, rfl⟩ := own_form HE5.out
  have HB25 : Hid (Below w2.heap.size w2 w5) := Lib.hid (HB2'.out.trans (HB5.out.mono HB2'.out.size))
  have HB15 : Hid (Below x1.heap.size x1 w5) := Lib.hid (HB2.out.trans (HB25.out.mono HB2.out.size))
  have HB05 : Hid (Below w1.heap.size w1 w5) := Lib.hid (HB1'.out.trans (HB15.out.mono HB1'.out.size))
  have HW5 : Hid (Below w.heap.size w w5) := Lib.hid (HX1.out.trans (HB15.out.mono HX1.out.size))
  have p0 : w5.cell? ⟨w1.heap.size, 0, none⟩ = some (.slice KA 20 ka) := (HB15.out.cell (p := ⟨w1.heap.size, 0, none⟩) HZ1.out).trans (HC1.out 0)
  have p1 : w5.cell? ⟨w1.heap.size, 1, none⟩ = some (.int .i64 (manyE l 8)) := (HB15.out.cell (p := ⟨w1.heap.size, 1, none⟩) HZ1.out).trans (HC1.out 1)
  have p2 : w5.cell? ⟨w1.heap.size, 2, none⟩ = some (.slice TA T1.length ta) := (HB15.out.cell (p := ⟨w1.heap.size, 2, none⟩) HZ1.out).trans (HC1.out 2)
  have q0 : w5.cell? ⟨w2.heap.size, 0, none⟩ = some (.slice KB 20 kb) := (HB5.out.cell (p := ⟨w2.heap.size, 0, none⟩) HZ2.out).trans (HC2.out 0)
  have q1 : w5.cell? ⟨w2.heap.size, 1, none⟩ = some (.int .i64 (manyE r 8)) := (HB5.out.cell (p := ⟨w2.heap.size, 1, none⟩) HZ2.out).trans (HC2.out 1)
  have q2 : w5.cell? ⟨w2.heap.size, 2, none⟩ = some (.slice TB T2.length tb) := (HB5.out.cell (p := ⟨w2.heap.size, 2, none⟩) HZ2.out).trans (HC2.out 2)
  have HJN := Lib.hid (join_pre sort_any KA KB TA TB ka kb ta tb (manyE l 8) (manyE r 8) (kindsL l) (kindsL r) T1 T2 w5 ((HKA.out.below HB05.out).mono HB05.out.size) ((HKB.out.below HB25.out).mono HB25.out.size) (kindsL_len l) (kindsL_len r) (kinds_bd hl30) (kinds_bd hr30) (by omega) (by omega) (HTA.out.below HB05.out) (HTB.out.below HB25.out) (by omega) (by omega) HDT.out)
  clear HC1 HC2 HZ1 HZ2 HB5 HB25 HB15 HB05 HB2 HB2' HB1' HX1 HB1 HKA HKB HTA HTB HDT hz2 H1 H2
  go_wp2_with fail
  refine HJN.out.mono ?_
  rintro e w6 ⟨hb6, v6, err6, K6, o6, T6, rfl, ⟨KC, kc, TC, tc6, rfl, hKC, hTC⟩, hcase⟩
  have HCS := Lib.hid hcase
  have HKC := Lib.hid hKC
  have HTC := Lib.hid hTC
  have HB6 := Lib.hid hb6
  clear hcase hKC hTC hb6 HJN p0 p1 p2 q0 q1 q2
  have HC6 : Hid (∀ j, (w6.alloc (.cells #[.slice KC K6.length kc, .int .i64 o6, .slice TC T6.length tc6] 27)).cell? ⟨w6.heap.size, j, none⟩ = (#[.slice KC K6.length kc, .int .i64 o6, .slice TC T6.length tc6] : Array Value)[j]?) := Lib.hid fun j => cell_new _ _ _ j rfl
  have HB6' : Hid (Below w6.heap.size w6 (w6.alloc (.cells #[.slice KC K6.length kc, .int .i64 o6, .slice TC T6.length tc6] 27))) := Lib.hid ((Below.refl _ _).alloc (Nat.le_refl _) _)
  have HZ6 : Hid (w6.heap.size < (w6.alloc (.cells #[.slice KC K6.length kc, .int .i64 o6, .slice TC T6.length tc6] 27)).heap.size) := Lib.hid (by simp)
  go_wp2_with fail
  generalize (w6.alloc (.cells #[.slice KC K6.length kc, .int .i64 o6, .slice TC T6.length tc6] 27)) = x6 at *
  have HB56 : Hid (Below w5.heap.size w5 x6) := Lib.hid (HB6.out.trans (HB6'.out.mono HB6.out.size))
  refine (of_any L A5 c5 x6 (Seg.of_own (own_below HE5.out HB56.out)) HIL.out (by omega)).mono ?_
  rintro e w7 ⟨K7, o7, T7, err7, v7, hR7, rfl, ⟨KD, kd, TD, td, rfl, hKD, hTD⟩, hb7⟩
  have hk7 := ofR_kinds hR7
  have ht7 := ofR_few hR7
  obtain ⟨rfl, rfl, rfl, rfl⟩ := join_plain HF1.out HF2.out (by rw [← HLE.out]; exact hLl) HCS.out (by rw [← HLE.out]; exact hR7)
  have HKD := Lib.hid hKD
  have HTD := Lib.hid hTD
  have HB7 := Lib.hid hb7
  clear hR7 hKD hTD hb7 HCS
  have HC7 : Hid (∀ j, (w7.alloc (.cells #[.slice KD K7.length kd, .int .i64 o7, .slice TD T7.length td] 27)).cell? ⟨w7.heap.size, j, none⟩ = (#[.slice KD K7.length kd, .int .i64 o7, .slice TD T7.length td] : Array Value)[j]?) := Lib.hid fun j => cell_new _ _ _ j rfl
  have HB7' : Hid (Below w7.heap.size w7 (w7.alloc (.cells #[.slice KD K7.length kd, .int .i64 o7, .slice TD T7.length td] 27))) := Lib.hid ((Below.refl _ _).alloc (Nat.le_refl _) _)
  have HZ7 : Hid (w7.heap.size < (w7.alloc (.cells #[.slice KD K7.length kd, .int .i64 o7, .slice TD T7.length td] 27)).heap.size) := Lib.hid (by simp)
  go_wp2_with fail
  generalize (w7.alloc (.cells #[.slice KD K7.length kd, .int .i64 o7, .slice TD T7.length td] 27)) = x7 at *
  have HB67 : Hid (Below x6.heap.size x6 x7) := Lib.hid (HB7.out.trans (HB7'.out.mono HB7.out.size))
  refine (HAW.out x7).mono ?_
  rintro e w8 ⟨rfl, hb8⟩
  have HB8 : Hid (Below x7.heap.size x7 w8) := Lib.hid hb8
  have HB68 : Hid (Below x6.heap.size x6 w8) := Lib.hid (HB67.out.trans (hb8.mono HB67.out.size))
  have HB78 : Hid (Below w7.heap.size w7 w8) := Lib.hid (HB7'.out.trans (hb8.mono HB7'.out.size))
  have HB6w8 : Hid (Below w6.heap.size w6 w8) := Lib.hid (HB6'.out.trans (HB68.out.mono HB6'.out.size))
  clear hb8
  have p0 : w8.cell? ⟨w6.heap.size, 0, none⟩ = some (.slice KC K7.length kc) := (HB68.out.cell (p := ⟨w6.heap.size, 0, none⟩) HZ6.out).trans (HC6.out 0)
  have p1 : w8.cell? ⟨w6.heap.size, 1, none⟩ = some (.int .i64 o7) := (HB68.out.cell (p := ⟨w6.heap.size, 1, none⟩) HZ6.out).trans (HC6.out 1)
  have p2 : w8.cell? ⟨w6.heap.size, 2, none⟩ = some (.slice TC T7.length tc6) := (HB68.out.cell (p := ⟨w6.heap.size, 2, none⟩) HZ6.out).trans (HC6.out 2)
  have q0 : w8.cell? ⟨w7.heap.size, 0, none⟩ = some (.slice KD K7.length kd) := (HB8.out.cell (p := ⟨w7.heap.size, 0, none⟩) HZ7.out).trans (HC7.out 0)
  have q1 : w8.cell? ⟨w7.heap.size, 1, none⟩ = some (.int .i64 o7) := (HB8.out.cell (p := ⟨w7.heap.size, 1, none⟩) HZ7.out).trans (HC7.out 1)
  have q2 : w8.cell? ⟨w7.heap.size, 2, none⟩ = some (.slice TD T7.length td) := (HB8.out.cell (p := ⟨w7.heap.size, 2, none⟩) HZ7.out).trans (HC7.out 2)
  have hee : (err7 == err7) = true := by simp
  have HSA := Lib.hid (same_any K7 o7 T7 KC KD TC TD kc kd tc6 td w8 ((HKC.out.below HB6w8.out).mono HB6w8.out.size) ((HKD.out.below HB78.out).mono HB78.out.size) ((HTC.out.below HB6w8.out).mono HB6w8.out.size) ((HTD.out.below HB78.out).mono HB78.out.size) (by omega) (by omega))
  have HW8 : Hid (Below w.heap.size w w8) := Lib.hid (HW5.out.trans ((HB56.out.trans (HB68.out.mono HB56.out.size)).mono HW5.out.size))
  clear HC6 HC7 HB6 HB6' HB7 HB7' HB67 HB8 HB68 HB78 HB6w8 HZ6 HZ7 HKC HKD HTC HTD HB56
  go_wp2_with fail
  refine HSA.out.mono ?_
  rintro e w9 ⟨rfl, hb9⟩
  have HB9 := Lib.hid hb9
  clear hb9 HSA
  go_wp2_with fail
  go_ret
  exact ⟨rfl, HW8.out.trans (HB9.out.mono HW8.out.size)⟩
end Go.Proofs.Ytgkidjjijgegmaa
