/-
  What the document's Wrong comes to, over this seat's translation: a contract for callers.
-/
import Derived.Test.YtedmbmfppjokpaaBound4
import Derived.Deep.QuietTactic
import Derived.BigQuiet
namespace Go.Proofs.Ytedmbmfppjokpaa
open Go.RowKit

theorem ret_str {a b : ByteArray} (h : a = b) : Ending.returned (.string a) = .returned (.string b) := by rw [h]
theorem in_is {n a b : Int} {v : Bool} (h : inB n a b = v) (w : World) : Calls Try.prog 18 #[.int .i64 n, .int .i64 a, .int .i64 b] w fun e w' => e = .returned (.bool v) ∧ w' = w := by
  subst h
  exact (in_any n a b w).mono fun _ _ h => ⟨h.1, h.2.symm⟩
theorem rises_append : ∀ (l m : List Int) (p : Int), risesB p (l ++ m) = (risesB p l && risesB (lastI p l) m)
  | [], m, p => by simp [risesB, lastI]
  | a :: l, m, p => by rw [List.cons_append]; simp only [risesB, lastI]; rw [rises_append l m a, Bool.and_assoc]
theorem last_append : ∀ (l m : List Int) (p : Int), lastI p (l ++ m) = lastI (lastI p l) m
  | [], m, p => rfl
  | a :: l, m, p => by rw [List.cons_append]; simp only [lastI]; rw [last_append l m a]
theorem last_ge : ∀ (l : List Int) (p : Int), risesB p l = true → p ≤ lastI p l
  | [], p, _ => Int.le_refl p
  | a :: l, p, h => by
    simp only [risesB, Bool.and_eq_true, decide_eq_true_eq] at h
    have := last_ge l a h.2
    simp only [lastI]
    omega
def cyGood (p : Int) (x : Cy) : Prop := p < x.a ∧ x.a < x.b ∧ x.b < x.c ∧ x.c < x.d ∧ x.d ≤ 1000
theorem ticks_split {l : List Cy} {k : Nat} (hk : k < l.length) : ticksL l = ticksL (l.take k) ++ ([l[k].a, l[k].b, l[k].c, l[k].d] ++ ticksL (l.drop (k + 1))) := by
  have h : l = l.take k ++ (l[k] :: l.drop (k + 1)) := by rw [← List.drop_eq_getElem_cons hk, List.take_append_drop]
  have h2 : ticksL l = ticksL (l.take k ++ (l[k] :: l.drop (k + 1))) := by rw [← h]
  rw [h2]
  unfold ticksL
  rw [List.flatMap_append, List.flatMap_cons]
theorem cycles_bad {l : List Cy} {k : Nat} (hk : k < l.length) (h : ¬ cyGood (lastI 0 (ticksL (l.take k))) l[k]) : cyclesB l = false := by
  cases hc : cyclesB l
  · rfl
  · exfalso
    apply h
    unfold cyclesB at hc
    rw [ticks_split hk] at hc
    simp only [Bool.and_eq_true, decide_eq_true_eq, rises_append, last_append] at hc
    obtain ⟨⟨_, h1, h2⟩, _, h3⟩ := hc
    simp only [risesB, lastI, Bool.and_eq_true, decide_eq_true_eq, Bool.and_true] at h1 h2 h3
    have := last_ge _ _ h2
    unfold cyGood
    omega
theorem cycles_step {l : List Cy} {k : Nat} (hk : k < l.length) (h : cyGood (lastI 0 (ticksL (l.take k))) l[k]) (hr : risesB 0 (ticksL (l.take k)) = true) : risesB 0 (ticksL (l.take (k + 1))) = true ∧ lastI 0 (ticksL (l.take (k + 1))) = l[k].d := by
  unfold cyGood at h
  rw [ticks_snoc hk, rises_append, last_append, hr]
  simp only [risesB, lastI, Bool.true_and, Bool.and_true, Bool.and_eq_true, decide_eq_true_eq, and_true]
  omega
theorem cycles_good {l : List Cy} (h : inB l.length 1 4 = true) (hr : risesB 0 (ticksL l) = true) (hl : lastI 0 (ticksL l) ≤ 1000) : cyclesB l = true := by
  unfold cyclesB
  rw [h, hr]
  simp [hl]
theorem cycles_len {l : List Cy} (h : inB l.length 1 4 = false) : cyclesB l = false := by unfold cyclesB; rw [h]; simp
theorem membs_len {l : List Pr} (h : inB l.length 2 16 = false) : membsB l = false := by unfold membsB; rw [h]; simp
theorem secs_len {l : List Pr} (h : inB l.length 1 8 = false) : secsB l = false := by unfold secsB; rw [h]; simp
theorem membs_bad {l : List Pr} {k : Nat} (hk : k < l.length) (h : membB l[k] = false) : membsB l = false := by
  unfold membsB; rw [show l.all membB = false from List.all_eq_false.2 ⟨l[k], List.getElem_mem hk, by rw [h]; simp⟩]; rfl
theorem secs_bad {l : List Pr} {k : Nat} (hk : k < l.length) (h : secB l[k] = false) : secsB l = false := by
  unfold secsB; rw [show l.all secB = false from List.all_eq_false.2 ⟨l[k], List.getElem_mem hk, by rw [h]; simp⟩]; rfl
theorem ws_0 {x : Cfg} : membsB x.ms = false → ⟨#[109, 101, 109, 98, 101, 114, 115]⟩ = wrongS x := by
  intro h0
  unfold wrongS
  simp [h0]
theorem ws_1 {x : Cfg} : membsB x.ms = true → secsB x.ss = false → ⟨#[115, 101, 99, 115]⟩ = wrongS x := by
  intro h0 h1
  unfold wrongS
  simp [h0, h1]
theorem ws_2 {x : Cfg} : membsB x.ms = true → secsB x.ss = true → cyclesB x.cy = false → ⟨#[99, 121, 99, 108, 101, 115]⟩ = wrongS x := by
  intro h0 h1 h2
  unfold wrongS
  simp [h0, h1, h2]
theorem ws_3 {x : Cfg} : membsB x.ms = true → secsB x.ss = true → cyclesB x.cy = true → inB x.line 0 1099511627776 = false → ⟨#[108, 105, 110, 101]⟩ = wrongS x := by
  intro h0 h1 h2 h3
  unfold wrongS
  simp [h0, h1, h2, h3]
theorem ws_4 {x : Cfg} : membsB x.ms = true → secsB x.ss = true → cyclesB x.cy = true → inB x.line 0 1099511627776 = true → inB x.capi 0 1099511627776 = false → ⟨#[99, 97, 112, 105, 116, 97, 108]⟩ = wrongS x := by
  intro h0 h1 h2 h3 h4
  unfold wrongS
  simp [h0, h1, h2, h3, h4]
theorem ws_5 {x : Cfg} : membsB x.ms = true → secsB x.ss = true → cyclesB x.cy = true → inB x.line 0 1099511627776 = true → inB x.capi 0 1099511627776 = true → inB x.lead 0 1000 = false → ⟨#[108, 101, 97, 100]⟩ = wrongS x := by
  intro h0 h1 h2 h3 h4 h5
  unfold wrongS
  simp [h0, h1, h2, h3, h4, h5]
theorem ws_6 {x : Cfg} : membsB x.ms = true → secsB x.ss = true → cyclesB x.cy = true → inB x.line 0 1099511627776 = true → inB x.capi 0 1099511627776 = true → inB x.lead 0 1000 = true → inB x.tr 1 64 = false → ⟨#[116, 114, 97, 100, 101, 115]⟩ = wrongS x := by
  intro h0 h1 h2 h3 h4 h5 h6
  unfold wrongS
  simp [h0, h1, h2, h3, h4, h5, h6]
theorem ws_7 {x : Cfg} : membsB x.ms = true → secsB x.ss = true → cyclesB x.cy = true → inB x.line 0 1099511627776 = true → inB x.capi 0 1099511627776 = true → inB x.lead 0 1000 = true → inB x.tr 1 64 = true → inB x.bids 1 32 = false → ⟨#[98, 105, 100, 115]⟩ = wrongS x := by
  intro h0 h1 h2 h3 h4 h5 h6 h7
  unfold wrongS
  simp [h0, h1, h2, h3, h4, h5, h6, h7]
theorem ws_8 {x : Cfg} : membsB x.ms = true → secsB x.ss = true → cyclesB x.cy = true → inB x.line 0 1099511627776 = true → inB x.capi 0 1099511627776 = true → inB x.lead 0 1000 = true → inB x.tr 1 64 = true → inB x.bids 1 32 = true → ⟨#[]⟩ = wrongS x := by
  intro h0 h1 h2 h3 h4 h5 h6 h7
  unfold wrongS
  simp [h0, h1, h2, h3, h4, h5, h6, h7]
set_option maxRecDepth 100000 in
set_option maxHeartbeats 6400000 in
theorem rwrong_any (x : Cfg) (w : World) (h : CfOk w x) (hm : x.ms.length ≤ 100000) (hs : x.ss.length ≤ 100000) (hc : x.cy.length ≤ 100000) :
    Calls Try.prog 8 #[x.val] w fun e w' => e = .returned (.string (wrongS x)) ∧ Below w.heap.size w w' := by
  have HB0 := Lib.hid (box_below w x)
  have HCF := Lib.hid (cf_new w x)
  have HOK := Lib.hid (h.below (box_below w x))
  have HW0 := Lib.hid (@ws_0 x)
  have HW1 := Lib.hid (@ws_1 x)
  have HW2 := Lib.hid (@ws_2 x)
  have HW3 := Lib.hid (@ws_3 x)
  have HW4 := Lib.hid (@ws_4 x)
  have HW5 := Lib.hid (@ws_5 x)
  have HW6 := Lib.hid (@ws_6 x)
  have HW7 := Lib.hid (@ws_7 x)
  have HW8 := Lib.hid (@ws_8 x)
  generalize wrongS x = ws at *
  have c0 := HCF.out.c0
  have hblt := HCF.out.lt
  unfold Cfg.val at *
  clear h
  cases h1 : inB x.ms.length 2 16
  · have HF := Lib.hid (HW0.out (membs_len h1))
    go_enter Try.func8, Try.ntmps8
    go_wp2_with fail
    refine (in_any _ _ _ _).mono ?_
    rintro e w1 ⟨rfl, rfl⟩
    rw [h1]
    go_wp2_with fail
    go_ret
    exact ⟨ret_str HF.out, HB0.out⟩
  · go_enter Try.func8, Try.ntmps8
    go_wp2_with fail
    refine (in_any _ _ _ _).mono ?_
    rintro e w1 ⟨rfl, rfl⟩
    rw [h1]
    generalize (w.alloc (.cells #[.slice x.Am x.ms.length x.cm, .slice x.As x.ss.length x.cs, .slice x.Ac x.cy.length x.cc, .int .i64 x.line, .int .i64 x.capi, .int .i64 x.lead, .int .i64 x.tr, .int .i64 x.bids] 26)) = W0 at *
    have H1 := Lib.hid h1
    clear h1
    go_wp2_with fail
    go_loop [3] (fun i => ∃ k : Nat, k ≤ x.ms.length ∧ i = .int .i64 k ∧ Hid ((x.ms.take k).all membB = true)) (fun i => x.ms.length - (intOf i).toNat)
    case atStart => exact ⟨0, Nat.zero_le _, rfl, rfl⟩
    case round =>
      obtain ⟨k, hk, rfl, HK⟩ := hrel
      by_cases hlt : k < x.ms.length
      · obtain ⟨b, o, e0, hb, d0, d1⟩ := pr_at HOK.out.m hlt
        have HSN := Lib.hid (all_snoc membB hlt)
        have HP := Lib.hid (show membB x.ms[k] = (inB x.ms[k].a 0 1099511627776 && inB x.ms[k].b 0 1099511627776) from rfl)
        rw [e0] at c0
        clear e0
        cases h1 : inB x.ms[k].a 0 1099511627776
        · have HF := Lib.hid (HW0.out (membs_bad hlt (by rw [HP.out, h1]; rfl)))
          go_wp2_with fail
          refine (in_any _ _ _ _).mono ?_
          rintro e w1 ⟨rfl, rfl⟩
          rw [h1]
          go_wp2_with fail
          go_ret
          exact ⟨ret_str HF.out, HB0.out⟩
        · cases h2 : inB x.ms[k].b 0 1099511627776
          · have HF := Lib.hid (HW0.out (membs_bad hlt (by rw [HP.out, h1, h2]; rfl)))
            go_wp2_with fail
            refine (in_any _ _ _ _).mono ?_
            rintro e w1 ⟨rfl, rfl⟩
            rw [h1]
            go_wp2_with fail
            refine (in_any _ _ _ _).mono ?_
            rintro e w1 ⟨rfl, rfl⟩
            rw [h2]
            go_wp2_with fail
            go_ret
            exact ⟨ret_str HF.out, HB0.out⟩
          · have HX : Hid ((x.ms.take (k + 1)).all membB = true) := by show _ = _; rw [HSN.out, HK.out, HP.out, h1, h2]; rfl
            go_wp2_with fail
            refine (in_any _ _ _ _).mono ?_
            rintro e w1 ⟨rfl, rfl⟩
            rw [h1]
            go_wp2_with fail
            refine (in_any _ _ _ _).mono ?_
            rintro e w1 ⟨rfl, rfl⟩
            rw [h2]
            go_wp2_with fail
            go_round
            case rel => exact ⟨k + 1, by omega, by go_num, HX⟩
            case measure => simp [intOf]; omega
      · obtain rfl : k = x.ms.length := by omega
        have HM : Hid (membsB x.ms = true) := by
          have h2 := HK.out
          rw [List.take_length] at h2
          show _ = _
          unfold membsB
          rw [h2, H1.out]
          rfl
        have c1 := HCF.out.c1
        cases h1 : inB x.ss.length 1 8
        · have HF := Lib.hid (HW1.out HM.out (secs_len h1))
          go_wp2_with fail
          refine (in_any _ _ _ _).mono ?_
          rintro e w1 ⟨rfl, rfl⟩
          rw [h1]
          go_wp2_with fail
          go_ret
          exact ⟨ret_str HF.out, HB0.out⟩
        go_wp2_with fail
        refine (in_any _ _ _ _).mono ?_
        rintro e w1 ⟨rfl, rfl⟩
        rw [h1]
        have H8 := Lib.hid h1
        clear h1
        go_wp2_with fail
        go_loopw [4] (fun i wr => ∃ k : Nat, k ≤ x.ss.length ∧ i = .int .i64 k ∧ Hid ((x.ss.take k).all secB = true) ∧ Hid (Below w.heap.size w wr) ∧ Hid (Below W0.heap.size W0 wr)) (fun i _ => x.ss.length - (intOf i).toNat)
        case atStart => exact ⟨0, Nat.zero_le _, rfl, rfl, HB0, Below.refl _ _⟩
        case round =>
          obtain ⟨k, hk, rfl, HK, HD2, HR2⟩ := hrel
          have c1 := (HCF.out.below HR2.out).c1
          by_cases hlt : k < x.ss.length
          · obtain ⟨b, o, e0, hb, d0, d1⟩ := pr_at ((HOK.out.below HR2.out).s) hlt
            have HSN := Lib.hid (all_snoc secB hlt)
            have HP := Lib.hid (show secB x.ss[k] = (inB x.ss[k].a 1 1048576 && inB x.ss[k].b x.ss[k].a 1048576) from rfl)
            rw [e0] at c1
            clear e0
            have hb1 : (0 : Int) ≤ k := by omega
            have hb2 : (k : Int) < x.ss.length := by omega
            cases h1 : inB x.ss[k].a 1 1048576
            · have HF := Lib.hid (HW1.out HM.out (secs_bad hlt (by rw [HP.out, h1]; rfl)))
              go_wp2_with fail
              go_quiet ((go_at_call 18; exact Calls.quiet_of_same (in_is h1 _)))
              go_wp2_with fail
              go_ret
              exact ⟨ret_str HF.out, below_drewN HD2.out _⟩
            · cases h2 : inB x.ss[k].b x.ss[k].a 1048576
              · have HF := Lib.hid (HW1.out HM.out (secs_bad hlt (by rw [HP.out, h1, h2]; rfl)))
                go_wp2_with fail
                go_quiet ((go_at_call 18; first | (with_reducible exact Calls.quiet_of_same (in_is h1 _)) | (with_reducible exact Calls.quiet_of_same (in_is h2 _))))
                go_wp2_with fail
                go_ret
                exact ⟨ret_str HF.out, below_drewN HD2.out _⟩
              · have HX : Hid ((x.ss.take (k + 1)).all secB = true) := by show _ = _; rw [HSN.out, HK.out, HP.out, h1, h2]; rfl
                go_wp2_with fail
                go_quiet ((go_at_call 18; first | (with_reducible exact Calls.quiet_of_same (in_is h1 _)) | (with_reducible exact Calls.quiet_of_same (in_is h2 _))))
                go_wp2_with fail
                go_roundw
                case rel => exact ⟨k + 1, by omega, by go_num, HX, below_drewN HD2.out _, below_drewN HR2.out _⟩
                case measure => simp [intOf]; omega
          obtain rfl : k = x.ss.length := by omega
          have HS : Hid (secsB x.ss = true) := by
            have h2 := HK.out
            rw [List.take_length] at h2
            show _ = _
            unfold secsB
            rw [h2, H8.out]
            rfl
          have c2 := (HCF.out.below HR2.out).c2
          obtain ⟨wo, rfl⟩ : ∃ wo : World, wo = wr := ⟨_, rfl⟩
          cases h15 : inB x.cy.length 1 4
          · have HF := Lib.hid (HW2.out HM.out HS.out (cycles_len h15))
            go_wp2_with fail
            refine (in_any _ _ _ _).mono ?_
            rintro e w1 ⟨rfl, rfl⟩
            rw [h15]
            go_wp2_with fail
            go_ret
            exact ⟨ret_str HF.out, HD2.out⟩
          go_wp2_with fail
          refine (in_any _ _ _ _).mono ?_
          rintro e w1 ⟨rfl, rfl⟩
          rw [h15]
          go_wp2_with fail
          go_loopw [5, 6, 7] (fun a i _ wr => ∃ k : Nat, k ≤ x.cy.length ∧ i = .int .i64 k ∧ a = .int .i64 (lastI 0 (ticksL (x.cy.take k))) ∧ Hid (risesB 0 (ticksL (x.cy.take k)) = true) ∧ lastI 0 (ticksL (x.cy.take k)) ≤ 1000 ∧ Hid (Below w.heap.size w wr) ∧ Hid (Below W0.heap.size W0 wr)) (fun _ i _ _ => x.cy.length - (intOf i).toNat)
          case atStart => exact ⟨0, Nat.zero_le _, rfl, rfl, rfl, by simp [ticksL, lastI], HD2, HR2⟩
          case round =>
            obtain ⟨k, hk, rfl, rfl, HK, hK1, HD, HR⟩ := hrel
            have hsz := HR.out.size
            have c2 := (HCF.out.below HR.out).c2
            have hblt := (HCF.out.below HR.out).lt
            by_cases hlt : k < x.cy.length
            · obtain ⟨b, o, e0, hb, d0, d1, d2, d3⟩ := cy_at ((HOK.out.below HR.out).c) hlt
              have HBD := Lib.hid (cycles_bad (l := x.cy) hlt)
              have HST := Lib.hid (cycles_step (l := x.cy) hlt)
              generalize lastI 0 (ticksL (x.cy.take k)) = at0 at *
              rw [e0] at c2
              clear e0
              have HDA : Hid (∀ o, Below w.heap.size w (wr.alloc o)) := fun o => HD.out.alloc (Nat.le_trans HB0.out.size hsz) _
              have HRA : Hid (∀ o, Below W0.heap.size W0 (wr.alloc o)) := fun o => HR.out.alloc hsz _
              by_cases hq1 : at0 < x.cy[k].a
              rotate_left
              · have hF := HW2.out HM.out HS.out (HBD.out (fun g => hq1 g.1))
                have HF := Lib.hid hF
                clear hF
                go_wp2_with fail
                go_ret
                exact ⟨ret_str HF.out, HDA.out _⟩
              by_cases hq2 : x.cy[k].a < x.cy[k].b
              rotate_left
              · have hF := HW2.out HM.out HS.out (HBD.out (fun g => hq2 g.2.1))
                have HF := Lib.hid hF
                clear hF
                go_wp2_with fail
                go_ret
                exact ⟨ret_str HF.out, HDA.out _⟩
              by_cases hq3 : x.cy[k].b < x.cy[k].c
              rotate_left
              · have hF := HW2.out HM.out HS.out (HBD.out (fun g => hq3 g.2.2.1))
                have HF := Lib.hid hF
                clear hF
                go_wp2_with fail
                go_ret
                exact ⟨ret_str HF.out, HDA.out _⟩
              by_cases hq4 : x.cy[k].c < x.cy[k].d
              rotate_left
              · have hF := HW2.out HM.out HS.out (HBD.out (fun g => hq4 g.2.2.2.1))
                have HF := Lib.hid hF
                clear hF
                go_wp2_with fail
                go_ret
                exact ⟨ret_str HF.out, HDA.out _⟩
              by_cases hq5 : x.cy[k].d ≤ 1000
              rotate_left
              · have hF := HW2.out HM.out HS.out (HBD.out (fun g => hq5 g.2.2.2.2))
                have HF := Lib.hid hF
                clear hF
                go_wp2_with fail
                go_ret
                exact ⟨ret_str HF.out, HDA.out _⟩
              have hgood : cyGood at0 x.cy[k] := ⟨hq1, hq2, hq3, hq4, hq5⟩
              obtain ⟨hs1, hs2⟩ := HST.out hgood HK.out
              have HS1 := Lib.hid hs1
              have HS2 := Lib.hid hs2
              clear hgood hs1 hs2
              go_wp2_with fail
              go_roundw
              case rel => exact ⟨k + 1, by omega, by go_num, by rw [HS2.out], HS1, by rw [HS2.out]; exact hq5, HDA.out _, HRA.out _⟩
              case measure => simp [intOf]; omega
            · obtain rfl : k = x.cy.length := by omega
              have HC : Hid (cyclesB x.cy = true) := by
                have h1 := HK.out
                have h2 := hK1
                rw [List.take_length] at h1 h2
                exact cycles_good h15 h1 h2
              have HCA := Lib.hid (HCF.out.below HR.out)
              have c3 := HCA.out.c3; have c4 := HCA.out.c4; have c5 := HCA.out.c5; have c6 := HCA.out.c6; have c7 := HCA.out.c7
              clear hK1
              go_wp2_with fail
              refine (in_any _ _ _ _).mono ?_
              rintro e w1 ⟨rfl, rfl⟩
              cases h3 : inB x.line 0 1099511627776
              · have HF := Lib.hid (HW3.out HM.out HS.out HC.out h3)
                go_wp2_with fail
                go_ret
                exact ⟨ret_str HF.out, HD.out⟩
              have G3 := Lib.hid h3
              clear h3
              go_wp2_with fail
              refine (in_any _ _ _ _).mono ?_
              rintro e w1 ⟨rfl, rfl⟩
              cases h4 : inB x.capi 0 1099511627776
              · have HF := Lib.hid (HW4.out HM.out HS.out HC.out G3.out h4)
                go_wp2_with fail
                go_ret
                exact ⟨ret_str HF.out, HD.out⟩
              have G4 := Lib.hid h4
              clear h4
              go_wp2_with fail
              refine (in_any _ _ _ _).mono ?_
              rintro e w1 ⟨rfl, rfl⟩
              cases h5 : inB x.lead 0 1000
              · have HF := Lib.hid (HW5.out HM.out HS.out HC.out G3.out G4.out h5)
                go_wp2_with fail
                go_ret
                exact ⟨ret_str HF.out, HD.out⟩
              have G5 := Lib.hid h5
              clear h5
              go_wp2_with fail
              refine (in_any _ _ _ _).mono ?_
              rintro e w1 ⟨rfl, rfl⟩
              cases h6 : inB x.tr 1 64
              · have HF := Lib.hid (HW6.out HM.out HS.out HC.out G3.out G4.out G5.out h6)
                go_wp2_with fail
                go_ret
                exact ⟨ret_str HF.out, HD.out⟩
              have G6 := Lib.hid h6
              clear h6
              go_wp2_with fail
              refine (in_any _ _ _ _).mono ?_
              rintro e w1 ⟨rfl, rfl⟩
              cases h7 : inB x.bids 1 32
              · have HF := Lib.hid (HW7.out HM.out HS.out HC.out G3.out G4.out G5.out G6.out h7)
                go_wp2_with fail
                go_ret
                exact ⟨ret_str HF.out, HD.out⟩
              have G7 := Lib.hid h7
              clear h7
              have HF := Lib.hid (HW8.out HM.out HS.out HC.out G3.out G4.out G5.out G6.out G7.out)
              go_wp2_with fail
              go_ret
              exact ⟨ret_str HF.out, HD.out⟩
end Go.Proofs.Ytedmbmfppjokpaa
