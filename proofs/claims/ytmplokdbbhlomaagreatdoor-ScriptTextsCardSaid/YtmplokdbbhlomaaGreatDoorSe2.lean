/-
  What complineref33.Read comes to, over this seat's translation: a contract for callers.
-/
import Derived.Test.YtmplokdbbhlomaaGreatDoorTxL
import Derived.Test.YtmplokdbbhlomaaGreatDoorSd8
namespace Go.Proofs.YtmplokdbbhlomaaGreatDoor
open Go.RowKit

/-- Steps, a line's number and an error that have come back. -/
def GotRT (T : List St × Int × Int) (w : World) (e : Ending) (w' : World) : Prop := ∃ A c, e = .returned (.tuple #[.slice A T.1.length c, .int .i64 T.2.1, .int .i64 T.2.2]) ∧ Seg w' w'.heap.size A (stRows T.1) ∧ Below w.heap.size w w'
/-- Where the loop over a text is: the lines so far, where the next one begins, how far the looking is. -/
structure TdI (l : List UInt8) (xs : List (List UInt8)) (f k : Nat) : Prop where
  le : f ≤ k
  no : (10 : UInt8) ∉ (l.drop f).take (k - f)
  sp : splitL 10 l = xs ++ splitL 10 (l.drop f)
  okx : ∀ t ∈ xs, okL t = true
theorem tdI_start (l : List UInt8) : TdI l [] 0 0 := ⟨Nat.le_refl _, by simp, by simp, by simp⟩
theorem TdI.line {l : List UInt8} {xs : List (List UInt8)} {f k : Nat} (h : TdI l xs f k) (hk : k < l.length) (hc : l[k] = 10) : splitL 10 l = (xs ++ [(l.drop f).take (k - f)]) ++ splitL 10 (l.drop (k + 1)) := by
  obtain ⟨h1, h2, h3, _⟩ := h
  have e := take_cut h1 hk
  rw [hc] at e
  have e2 : splitL 10 (l.drop f) = (l.drop f).take (k - f) :: splitL 10 (l.drop (k + 1)) := by
    have e3 := split_app (c := 10) (w := (l.drop f).take (k - f)) (l.drop (k + 1)) h2
    rw [← e] at e3
    exact e3
  rw [h3, e2, List.append_assoc]
  rfl
theorem TdI.cut {l : List UInt8} {xs : List (List UInt8)} {f k : Nat} (h : TdI l xs f k) (hk : k < l.length) (hc : l[k] = 10) (ho : okL ((l.drop f).take (k - f)) = true) : TdI l (xs ++ [(l.drop f).take (k - f)]) (k + 1) (k + 1) := by
  refine ⟨Nat.le_refl _, by simp, h.line hk hc, ?_⟩
  intro t ht
  rcases List.mem_append.1 ht with ht | ht
  · exact h.okx t ht
  · rw [List.mem_singleton.1 ht]; exact ho
theorem TdI.bad {l : List UInt8} {xs : List (List UInt8)} {f k : Nat} (h : TdI l xs f k) (hk : k < l.length) (hc : l[k] = 10) (ho : okL ((l.drop f).take (k - f)) = false) (he : ended l = true) (hm : l.count 10 ≤ 1024) : readT l = ([], (xs.length : Int) + 1, 3) := by
  have e := lnsT_of (h.line hk hc)
  unfold readT
  rw [if_neg (by omega), if_pos he, e, List.append_assoc]
  exact readLs_bad _ h.okx ho
theorem TdI.go {l : List UInt8} {xs : List (List UInt8)} {f k : Nat} (h : TdI l xs f k) (hk : k < l.length) (hc : l[k] ≠ 10) : TdI l xs f (k + 1) := by
  obtain ⟨h1, h2, h3, h4⟩ := h
  refine ⟨by omega, ?_, h3, h4⟩
  have hl : k - f < (l.drop f).length := by rw [List.length_drop]; omega
  have e : (l.drop f).take (k + 1 - f) = (l.drop f).take (k - f) ++ [l[k]] := by
    rw [show k + 1 - f = (k - f) + 1 by omega, List.take_succ_eq_append_getElem hl]
    simp only [List.getElem_drop, show f + (k - f) = k by omega]
  rw [e]
  intro hm
  rcases List.mem_append.1 hm with hm | hm
  · exact h2 hm
  · exact hc (List.mem_singleton.1 hm).symm
theorem ended_drop {l : List UInt8} {f : Nat} (he : ended l = true) (h : (10 : UInt8) ∉ l.drop f) : l.drop f = [] := by
  by_cases hf : f < l.length
  · exfalso
    apply h
    unfold ended at he
    have hne : l ≠ [] := by intro e; rw [e] at hf; simp at hf
    have hl : l.getLast? = some 10 := by
      cases l with
      | nil => exact absurd rfl hne
      | cons b l => simpa using he
    have : (l.drop f).getLast? = some 10 := by
      rw [List.getLast?_drop, if_neg (by omega)]
      exact hl
    exact List.mem_of_getLast? this
  · exact List.drop_eq_nil_of_le (by omega)
theorem TdI.done {l : List UInt8} {xs : List (List UInt8)} {f : Nat} (h : TdI l xs f l.length) (he : ended l = true) (hm : l.count 10 ≤ 1024) : readT l = (xs.map stepL, 0, 0) := by
  obtain ⟨h1, h2, h3, h4⟩ := h
  rw [List.take_of_length_le (by rw [List.length_drop]; omega)] at h2
  rw [ended_drop he h2] at h3
  have e := lnsT_of h3
  rw [lnsT_nil, List.append_nil] at e
  unfold readT
  rw [if_neg (by omega), if_pos he, e]
  exact readLs_ok h4
theorem readT_many {l : List UInt8} (h : 1024 < l.count 10) : readT l = ([], 0, 6) := by unfold readT; rw [if_pos h]
theorem readT_form {l : List UInt8} (h : ¬ 1024 < l.count 10) (he : ended l = false) : readT l = ([], 0, 3) := by unfold readT; rw [if_neg h, he]; rfl
theorem okL_D (t : List UInt8) : okL t = (parseD t).2 := by
  unfold okL
  rw [parse_same]
  cases (parseD t).2 <;> simp
theorem stepL_D {t : List UInt8} (h : (parseD t).2 = true) : stepL t = (parseD t).1 := by
  unfold stepL
  rw [parse_same, if_pos h]
theorem ended_last {l : List UInt8} (h : 0 < l.length) : ended l = decide (l[l.length - 1] = 10) := by
  unfold ended
  have h1 : l.getLast? = some (l[l.length - 1]) := by
    rw [List.getLast?_eq_getElem?, List.getElem?_eq_getElem]
  rw [h1]
  cases l with
  | nil => simp at h
  | cons b l => rw [Bool.eq_iff_iff]; simp
theorem count_take {l : List UInt8} {k : Nat} (hk : k < l.length) : (l.take (k + 1)).count 10 = (l.take k).count 10 + (if l[k] = 10 then 1 else 0) := by
  rw [List.take_succ_eq_append_getElem hk, List.count_append]
  congr 1
  by_cases h : l[k] = 10
  · rw [if_pos h, h]; simp
  · rw [if_neg h, List.count_singleton]
    simp [h]
set_option maxRecDepth 100000 in
set_option maxHeartbeats 12800000 in
theorem srread33_any (l : List UInt8) (w : World) (hl : l.length ≤ 10000) : Calls Tryz.prog 17 #[.string (bs l)] w (GotRT (readT l) w) := by
  have hsz := bs_size l
  obtain ⟨i0, hi0, hz0, hz1', hz2'⟩ := info_parts st_info
  obtain ⟨R, HR⟩ : ∃ R, Hid (readT l = R) := ⟨_, Lib.hid rfl⟩
  rw [HR.out]
  have HI0 := Lib.hid (tdI_start l)
  by_cases hnil : l = []
  · subst hnil
    have HQ : Hid (R = ([], 0, 0)) := Lib.hid (by rw [← HR.out]; rfl)
    go_enter Tryz.func17, Tryz.ntmps17
    go_wp2_with fail
    go_loopw [5, 6] (fun m i wr => i = .int .i64 0 ∧ m = .int .i64 0 ∧ Hid (Below w.heap.size w wr)) (fun _ i _ => 0)
    case atStart => exact ⟨rfl, rfl, Below.refl _ _⟩
    case round =>
      obtain ⟨rfl, rfl, HB⟩ := hrel
      go_wp2_with fail
      go_loopw [7, 8, 9, 10, 11] (fun u v i _ _ wr2 => i = .int .i64 0 ∧ u = .slice none 0 0 ∧ Hid (Below w.heap.size w wr2)) (fun _ _ i _ _ _ => 0)
      case atStart => exact ⟨rfl, rfl, HB⟩
      case round =>
        obtain ⟨rfl, rfl, HB⟩ := hrel
        go_wp2_with fail
        go_ret3
        rw [HQ.out]
        exact ⟨none, 0, rfl, Seg.nil, HB.out⟩
  have hpos : 0 < l.length := by cases l with
    | nil => exact absurd rfl hnil
    | cons a t => simp
  have hbn : l.isEmpty = false := by simpa using hnil
  have hlb : 1 ≤ (l.length : Int) ∧ (l.length : Int) - 1 < (l.length : Int) := by omega
  go_enter Tryz.func17, Tryz.ntmps17
  go_wp2_with fail
  go_loopw [5, 6] (fun m i wr => ∃ k : Nat, k ≤ l.length ∧ i = .int .i64 (k : Int) ∧ m = .int .i64 (((l.take k).count 10 : Nat) : Int) ∧ Hid (Below w.heap.size w wr)) (fun _ i _ => l.length - (intOf i).toNat)
  case atStart => exact ⟨0, Nat.zero_le _, rfl, rfl, Below.refl _ _⟩
  case round =>
    obtain ⟨k, hk, rfl, rfl, HB⟩ := hrel
    by_cases hlt : k < l.length
    · have hkb : k < (bs l).size := by rw [bs_size]; exact hlt
      obtain ⟨c, hce, hcd⟩ : ∃ c, (bs l)[k]'hkb = c ∧ c = l[k] := ⟨_, rfl, rfl⟩
      have HCT := Lib.hid (count_take hlt)
      have hcm : (l.take k).count 10 ≤ k := Nat.le_trans List.count_le_length (by rw [List.length_take]; omega)
      rw [← hcd] at HCT
      generalize (l.take k).count 10 = m at *
      by_cases h10 : c = 10
      · have hcn : c.toNat = 10 := by rw [h10]; rfl
        have HC2 : Hid ((l.take (k + 1)).count 10 = m + 1) := Lib.hid (by rw [HCT.out, if_pos h10])
        clear h10 hcd HCT
        go_wp2_with fail
        go_roundw
        case rel => exact ⟨k + 1, by omega, by go_num, by rw [HC2.out]; try go_num, HB⟩
        case measure => simp [intOf]; omega
      · have hcn : ¬ c.toNat = 10 := fun e => h10 (by
          have := congrArg UInt8.ofNat e
          simpa using this)
        have HC2 : Hid ((l.take (k + 1)).count 10 = m) := Lib.hid (by rw [HCT.out, if_neg h10, Nat.add_zero])
        clear h10 hcd HCT
        go_wp2_with fail
        go_roundw
        case rel => exact ⟨k + 1, by omega, by go_num, by rw [HC2.out]; try go_num, HB⟩
        case measure => simp [intOf]; omega
    · obtain rfl : k = l.length := by omega
      rw [List.take_length]
      have hcm : l.count 10 ≤ l.length := List.count_le_length
      obtain ⟨m, hm⟩ : ∃ m, m = l.count 10 := ⟨_, rfl⟩
      have HM := Lib.hid hm
      rw [← hm] at hcm ⊢
      clear hm
      by_cases hbig : 1024 < m
      · have HQ : Hid (R = ([], 0, 6)) := Lib.hid (by rw [← HR.out]; exact readT_many (by rw [← HM.out]; exact hbig))
        have hb : decide ((m : Int) > 1024) = true := decide_eq_true (by omega)
        go_wp2_with fail
        go_ret3
        rw [HQ.out]
        exact ⟨none, 0, rfl, Seg.nil, HB.out⟩
      have HCM : Hid (l.count 10 ≤ 1024) := Lib.hid (by rw [← HM.out]; omega)
      have hb : decide ((m : Int) > 1024) = false := decide_eq_false (by omega)
      have hkb : l.length - 1 < (bs l).size := by rw [bs_size]; omega
      obtain ⟨c, hce, hcd⟩ : ∃ c, (bs l)[l.length - 1]'hkb = c ∧ c = l[l.length - 1] := ⟨_, rfl, rfl⟩
      have HEL := Lib.hid (ended_last hpos)
      rw [← hcd] at HEL
      by_cases h10 : c = 10
      · have hcn : c.toNat = 10 := by rw [h10]; rfl
        have HEN : Hid (ended l = true) := Lib.hid (by rw [HEL.out]; simpa using h10)
        clear h10 hcd HEL HM
        go_wp2_with fail
        go_loopw [7, 8, 9, 10, 11] (fun u fv i _ _ wr => ∃ (k f : Nat) (xs : List (List UInt8)), k ≤ l.length ∧ i = .int .i64 (k : Int) ∧ fv = .int .i64 (f : Int) ∧ f ≤ k ∧ xs.length ≤ k ∧ Hid (TdI l xs f k) ∧ Hid (wr.ownsRow w.heap.size TSt 9 u (xs.map stepL).length (stRows (xs.map stepL))) ∧ Hid (Below w.heap.size w wr)) (fun _ _ i _ _ _ => l.length - (intOf i).toNat)
        case atStart => exact ⟨0, 0, [], Nat.zero_le _, rfl, rfl, Nat.le_refl _, Nat.le_refl _, HI0, World.ownsRow_nil _ _ _ _, HB⟩
        case round =>
          clear HI0 HB
          obtain ⟨k, f, xs, hk, rfl, rfl, hfk, hxk, HI, HO, HB⟩ := hrel
          have hbsz := HB.out.size
          by_cases hlt : k < l.length
          · have hkb : k < (bs l).size := by rw [bs_size]; exact hlt
            obtain ⟨c, hce, hcd⟩ : ∃ c, (bs l)[k]'hkb = c ∧ c = l[k] := ⟨_, rfl, rfl⟩
            by_cases h10 : c = 10
            · have hcn : c.toNat = 10 := by rw [h10]; rfl
              have hc2 : l[k] = 10 := by rw [← hcd]; exact h10
              have hex := extract_bs l f k
              have HLB : Hid (okL ((l.drop f).take (k - f)) = false → R = ([], (xs.length : Int) + 1, 3)) := Lib.hid (fun h => by rw [← HR.out]; exact HI.out.bad hlt hc2 h HEN.out HCM.out)
              have HLC : Hid (okL ((l.drop f).take (k - f)) = true → TdI l (xs ++ [(l.drop f).take (k - f)]) (k + 1) (k + 1)) := Lib.hid (fun h => HI.out.cut hlt hc2 h)
              have hpl : ((l.drop f).take (k - f)).length ≤ 10000 := by rw [List.length_take, List.length_drop]; omega
              clear h10 hcd HI hc2
              generalize (l.drop f).take (k - f) = p at *
              have HPD := Lib.hid (fun V => rsparse_any p hpl V)
              have HOK := Lib.hid (okL_D p)
              have HST := Lib.hid (fun h => stepL_D (t := p) h)
              obtain ⟨x, b, hP⟩ : ∃ x b, parseD p = (x, b) := ⟨_, _, rfl⟩
              rw [hP] at HPD HOK HST
              simp only at HPD HOK HST
              clear hP
              unfold stV at HPD
              go_wp2_with (go_at_call 11; refine (HPD.out _).mono ?_)
              rintro e w3 ⟨rfl, hb3⟩
              have HB3 : Hid (Below w.heap.size w w3) := Lib.hid (HB.out.trans (hb3.mono hbsz))
              have HO3 := Lib.hid (own_keepS HO.out hb3)
              have hsz3 := HB3.out.size
              clear hb3 HB HO HPD
              have HX4 : Hid (CsAt (w3.alloc (.cells (stCells x) TSt)) w3.heap.size (stCells x)) := Lib.hid (CsAt.made _ _ _)
              have HO4 := Lib.hid (own_keepS HO3.out ((Below.refl _ _).alloc (Nat.le_refl _) (.cells (stCells x) TSt)))
              have HB4 : Hid (Below w.heap.size w (w3.alloc (.cells (stCells x) TSt))) := Lib.hid (HB3.out.alloc hsz3 _)
              have hcc : stCells x = #[.int .i64 x.k, .int .i64 x.c.k, .int .i64 x.c.i, .int .i64 x.c.m, .int .i64 x.c.o, .int .i64 x.c.s, .int .i64 x.c.q, .int .i64 x.c.p, .int .i64 x.n] := rfl
              rw [hcc] at HX4 HO4 HB4 ⊢
              cases b with
              | false =>
                have HQ := Lib.hid (HLB.out HOK.out)
                obtain ⟨Au, cu, hu⟩ := own_form HO4.out
                subst hu
                rw [List.length_map] at *
                clear HLB HLC HST hcc
                go_wp2_with fail
                go_ret3
                rw [HQ.out]
                exact ⟨none, 0, rfl, Seg.nil, HB4.out⟩
              | true =>
                have HI2 := Lib.hid (HLC.out HOK.out)
                have HSX : Hid ((xs ++ [p]).map stepL = xs.map stepL ++ [x]) := Lib.hid (by rw [List.map_append, List.map_singleton, HST.out rfl])
                have hz4 : w.heap.size ≤ (w3.alloc (.cells #[.int .i64 x.k, .int .i64 x.c.k, .int .i64 x.c.i, .int .i64 x.c.m, .int .i64 x.c.o, .int .i64 x.c.s, .int .i64 x.c.q, .int .i64 x.c.p, .int .i64 x.n] TSt)).heap.size := by simp; omega
                have hxl : (xs.map stepL).length = xs.length := List.length_map ..
                clear HLB HLC HST HOK
                generalize xs.map stepL = acc at *
                have q0 := HX4.out.cell 0
                have q1 := HX4.out.cell 1
                have q2 := HX4.out.cell 2
                have q3 := HX4.out.cell 3
                have q4 := HX4.out.cell 4
                have q5 := HX4.out.cell 5
                have q6 := HX4.out.cell 6
                have q7 := HX4.out.cell 7
                have q8 := HX4.out.cell 8
                have hone := st_one x
                rw [hcc] at hone
                go_wp2_with (at_builtin; refine wpList_append_own _ rfl _ _ 38 rfl w.heap.size TSt i0 _ 9 72 Tryz.underlying38 hi0 hz0 hz1' hz2' rfl (by decide) _ acc.length (stRows acc) rfl (HO4.out.alloc _) ⟨w3.heap.size + 1, 0, none⟩ 1 1 [.int .i64 x.k, .int .i64 x.c.k, .int .i64 x.c.i, .int .i64 x.c.m, .int .i64 x.c.o, .int .i64 x.c.s, .int .i64 x.c.q, .int .i64 x.c.p, .int .i64 x.n] rfl rfl (new_cells _ _ #[_, _, _, _, _, _, _, _, _] (by simp)) hone (by simp only [maxLen]; omega) (by omega) (by simp; omega) ?_)
                intro v' w5 hown5 hgr5 _
                have HO5 : Hid (w5.ownsRow w.heap.size TSt 9 v' (acc ++ [x]).length (stRows (acc ++ [x]))) := Lib.hid (by rw [stRows_snoc, List.length_append, hxl]; exact hown5)
                have HB5 : Hid (Below w.heap.size w w5) := Lib.hid ((HB4.out.alloc (by omega) _).grown hgr5 (by simp; omega) (fun j hj => own_base HO4.out j hj))
                rw [← HSX.out] at HO5
                clear hown5 hgr5 HB4 HO4 q0 q1 q2 q3 q4 q5 q6 q7 q8 HX4 HO3 HB3 hone hcc HSX
                go_wp2_with fail
                go_roundw
                case rel => exact ⟨k + 1, k + 1, xs ++ [p], by omega, by go_num, by go_num, Nat.le_refl _, by rw [List.length_append]; simp; omega, HI2, HO5, HB5⟩
                case measure => simp [intOf]; omega
            · have hcn : ¬ c.toNat = 10 := fun e => h10 (by
                have := congrArg UInt8.ofNat e
                simpa using this)
              have HI2 := Lib.hid (HI.out.go hlt (by rw [← hcd]; exact h10))
              clear h10 hcd HI
              go_wp2_with fail
              go_roundw
              case rel => exact ⟨k + 1, f, xs, by omega, by go_num, rfl, by omega, by omega, HI2, HO, HB⟩
              case measure => simp [intOf]; omega
          · obtain rfl : k = l.length := by omega
            have HQ : Hid (R = (xs.map stepL, 0, 0)) := Lib.hid (by rw [← HR.out]; exact HI.out.done HEN.out HCM.out)
            generalize xs.map stepL = acc at *
            obtain ⟨Au, cu, hu⟩ := own_form HO.out
            subst hu
            clear HI
            go_wp2_with fail
            go_ret3
            rw [HQ.out]
            exact ⟨Au, cu, rfl, Seg.of_own HO.out, HB.out⟩
      · have hcn : ¬ c.toNat = 10 := fun e => h10 (by
          have := congrArg UInt8.ofNat e
          simpa using this)
        have HQ : Hid (R = ([], 0, 3)) := Lib.hid (by rw [← HR.out]; exact readT_form (by have := HCM.out; omega) (by rw [HEL.out]; simpa using h10))
        clear h10 hcd HEL HM
        go_wp2_with fail
        go_ret3
        rw [HQ.out]
        exact ⟨none, 0, rfl, Seg.nil, HB.out⟩
end Go.Proofs.YtmplokdbbhlomaaGreatDoor
