/-
  What script.Line and script.Print come to, over this seat's translation: contracts for callers.
-/
import Derived.Test.YtmplokdbbhlomaaDoorSc15
import Derived.Test.YtmplokdbbhlomaaDoorShelf
import Derived.Lib.SmallJoins
namespace Go.Proofs.YtmplokdbbhlomaaDoor
open Go.RowKit Go.Sort

theorem below_grow (w : World) (k : Nat) (os : Array Obj) : Below w.heap.size w (grow (w.drewN k) os) :=
  ⟨rfl, rfl, rfl, by simp [grow], fun j hj => by
    show (w.heap ++ os)[j]? = w.heap[j]?
    rw [Array.getElem?_append_left hj]⟩
/-- What the walks of the lines read of the package variables. -/
structure EnvS (w : World) : Prop where
  words : WordsC w
  tab : Lib.TabIs Tryd.prog w "internal/strconv.uint64pow10" .u64 Lib.pow10Tab
theorem g_tab : Tryd.prog.globalNamed "internal/strconv.uint64pow10" = some 1 := by kernel_rfl
theorem EnvS.below {w w' : World} (h : EnvS w) (hb : Below w.heap.size w w') : EnvS w' := ⟨h.words.below hb, Go.Joins.tab_stays g_tab h.tab hb (Nat.le_refl _)⟩
theorem fmt_any (n : Int) (h : I64 n) (w : World) (he : EnvS w) : Calls Tryd.prog 51 #[.int .i64 n, .int .i64 10] w fun e w' => e = .returned (.string (bs (Lib.itoa n))) ∧ Below w.heap.size w w' :=
  (Tryd.strconv_FormatInt_10 n (by unfold I64 at h; omega) (by unfold I64 at h; omega) w he.tab).mono fun e w' ⟨he, k, os, hw⟩ => ⟨he, by rw [hw]; exact below_grow w k os⟩
set_option maxRecDepth 100000 in
set_option maxHeartbeats 3200000 in
theorem line_any (x : St) (hx : StOk x) (w : World) (he : EnvS w) : Calls Tryd.prog 31 #[stV x] w fun e w' => e = .returned (.tuple #[.string (bs (if rightS x then lineS x else [])), .int .i64 (errS x)]) ∧ Below w.heap.size w w' := by
  have HCK := Lib.hid (fun W => scheck_any x W)
  have HW0 : Hid (Below w.heap.size w (w.alloc (.cells (stCells x) TSt))) := Lib.hid ((Below.refl _ _).alloc (Nat.le_refl _) _)
  have HX0 := Lib.hid (CsAt.made w (stCells x) TSt)
  have hcx : stCells x = #[.int .i64 x.k, .int .i64 x.c.k, .int .i64 x.c.i, .int .i64 x.c.m, .int .i64 x.c.o, .int .i64 x.c.s, .int .i64 x.c.q, .int .i64 x.c.p, .int .i64 x.n] := rfl
  have HE := Lib.hid he
  clear he
  rw [hcx] at HW0 HX0
  cases hr : rightS x with
  | false =>
    have her : errS x = 3 := by unfold errS; rw [hr]; rfl
    rw [her] at HCK
    rw [her, if_neg (by simp)]
    unfold stV stCells at HCK ⊢
    clear hr her
    go_enter Tryd.func31, Tryd.ntmps31
    go_wp2_with (go_at_call 9; refine (HCK.out _).mono ?_; rintro e w1 ⟨rfl, hb⟩; have HB1 := Lib.hid hb; clear hb)
    go_ret2
    exact ⟨rfl, HW0.out.trans (HB1.out.mono HW0.out.size)⟩
  | true =>
    have her : errS x = 0 := by unfold errS; rw [hr]; rfl
    have HNU := Lib.hid (fun W hW => numbers_any x hx hr W hW)
    have HNI := Lib.hid (numsS_in hx)
    have hnl := numsS_len x
    have hwl := wordS_len x
    rw [her] at HCK
    rw [her, if_pos rfl]
    have HLE : Hid (lineS x = wordS x ++ ((numsS x).take (numsS x).length).flatMap numL) := Lib.hid (by rw [List.take_length]; rfl)
    unfold stV stCells at HCK HNU ⊢
    clear hr her
    generalize lineS x = L at *
    generalize wordS x = wd at *
    generalize numsS x = ns at *
    go_enter Tryd.func31, Tryd.ntmps31
    go_wp2_with (go_at_call 9; refine (HCK.out _).mono ?_)
    rintro e w1 ⟨rfl, hb1⟩
    have HW1 : Hid (Below w.heap.size w w1) := Lib.hid (HW0.out.trans (hb1.mono HW0.out.size))
    have HX1 := Lib.hid (HX0.out.below (by simp) hb1)
    have q0 := HX1.out.cell 0
    have q1 := HX1.out.cell 1
    have q2 := HX1.out.cell 2
    have q3 := HX1.out.cell 3
    have q4 := HX1.out.cell 4
    have q5 := HX1.out.cell 5
    have q6 := HX1.out.cell 6
    have q7 := HX1.out.cell 7
    have q8 := HX1.out.cell 8
    clear hb1 HW0 HX0 HCK hcx
    go_wp2_with (go_at_call 50; refine (HNU.out _ (HE.out.words.below HW1.out)).mono ?_)
    rintro e w2 ⟨A, cn, rfl, hs2, hb2⟩
    have HS2 := Lib.hid hs2
    have HW2 : Hid (Below w.heap.size w w2) := Lib.hid (HW1.out.trans (hb2.mono HW1.out.size))
    clear hs2 hb2 HNU HW1 HX1 q0 q1 q2 q3 q4 q5 q6 q7 q8
    go_wp2_with fail
    go_loopw [5, 8, 21] (fun vs _ i wr => ∃ k : Nat, k ≤ ns.length ∧ i = .int .i64 k ∧ vs = .string (bs (wd ++ (ns.take k).flatMap numL)) ∧ Hid (Below w2.heap.size w2 wr)) (fun _ _ i _ => ns.length - (intOf i).toNat)
    case atStart => exact ⟨0, Nat.zero_le _, rfl, by simp, Below.refl _ _⟩
    case round =>
      obtain ⟨k, hk, rfl, rfl, HB⟩ := hrel
      by_cases hlt : k < ns.length
      · obtain ⟨b, o, rfl, hb, hc⟩ := (HS2.out.below HB.out).at (k := k) (by rw [List.length_map]; exact hlt)
        rw [List.getElem_map] at hc
        have hin := HNI.out _ (List.getElem_mem hlt)
        have HSN : Hid ((ns.take (k + 1)).flatMap numL = (ns.take k).flatMap numL ++ numL ns[k]) := Lib.hid (by rw [List.take_succ_eq_append_getElem hlt, List.flatMap_append]; simp)
        have hfl := nums_flat_len (ns.take k) (fun n hn => HNI.out n (List.mem_of_mem_take hn))
        rw [List.length_take] at hfl
        have hil := itoa_len hin
        have HFM := Lib.hid (fun W hW => fmt_any ns[k] hin W hW)
        have HNL : Hid (numL ns[k] = 32 :: Lib.itoa ns[k]) := Lib.hid rfl
        clear hin
        generalize ns[k] = y at *
        generalize Lib.itoa y = ti at *
        generalize (ns.take k).flatMap numL = pk at *
        have hl1 : (wd ++ pk).length ≤ 400 := by rw [List.length_append]; omega
        have HPE : Hid ((wd ++ pk) ++ (32 :: ti) = wd ++ (pk ++ numL y)) := Lib.hid (by rw [HNL.out, List.append_assoc])
        generalize wd ++ pk = pp at *
        have hs0 := bs_size [32]
        have hs1 := bs_size ti
        have hs2 := bs_size pp
        have hs3 := bs_size (32 :: ti)
        have hap1 : bs [32] ++ bs ti = bs (32 :: ti) := bs_append [32] ti
        have hap2 := bs_append pp (32 :: ti)
        have hbig1 : ¬ 9223372036854775807 < 1 + ti.length := by omega
        have hbig2 : ¬ 9223372036854775807 < pp.length + (32 :: ti).length := by rw [List.length_cons]; omega
        clear hfl hwl
        go_wp2_with (go_at_call 51; refine (HFM.out _ ((HE.out.below HW2.out).below HB.out)).mono ?_; rintro e w3 ⟨rfl, hb3⟩; have HB3 := Lib.hid (HB.out.trans (hb3.mono HB.out.size)); clear hb3)
        go_roundw
        case rel => exact ⟨k + 1, by omega, by go_num, by rw [HSN.out, ← HPE.out], HB3⟩
        case measure => simp [intOf]; omega
      · obtain rfl : k = ns.length := by omega
        go_wp2_with fail
        go_ret2
        exact ⟨by rw [HLE.out]; rfl, HW2.out.trans (HB.out.mono HW2.out.size)⟩
end Go.Proofs.YtmplokdbbhlomaaDoor
