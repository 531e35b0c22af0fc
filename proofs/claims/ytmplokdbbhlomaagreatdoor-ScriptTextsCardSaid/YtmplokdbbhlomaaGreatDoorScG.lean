/-
  Several texts in one: Sc15, Sc16, Sc17, Sc18.
-/
import Derived.Test.YtmplokdbbhlomaaGreatDoorScT
import Derived.Test.YtmplokdbbhlomaaGreatDoorSr5
import Derived.RegionTactic
import Derived.ChangeAlike
import Derived.Test.YtmplokdbbhlomaaGreatDoorShelf
import Derived.Lib.SmallJoins
/-
  What codec.Word, (*num.Reader).Left, script.numbers come to, over this seat's translation: contracts for callers.
-/
namespace Go.Proofs.YtmplokdbbhlomaaGreatDoor
open Go.RowKit

/-- The package's words. -/
def WordsC (w : World) : Prop := ∀ n, n < 11 → w.cell? ⟨0, n, none⟩ = some (.string (bs (wordL n)))
theorem WordsC.below {w w' : World} (h : WordsC w) (hb : Below w.heap.size w w') : WordsC w' := fun n hn => by
  have h1 := h n hn
  have hl := World.block_lt_of_cell? w _ h1
  rw [hb.cell (p := ⟨0, n, none⟩) hl]
  exact h1
set_option maxHeartbeats 1600000 in
theorem word_any (k : Int) (hk : isK k = true) (w : World) (hw : WordsC w) : Calls Tryz.prog 46 #[.int .i64 k] w fun e w' => e = .returned (.string (bs (wordL k.toNat))) ∧ w = w' := by
  simp [isK] at hk
  obtain ⟨n, rfl⟩ : ∃ n : Nat, k = (n : Int) := ⟨k.toNat, by omega⟩
  rw [Int.toNat_natCast]
  have h0 : (0 : Int) ≤ (n : Int) := by omega
  have h1 : n < 11 := by omega
  have c1 := hw n h1
  clear hk hw
  generalize wordL n = t at *
  go_enter Tryz.func46, Tryz.ntmps46
  go_wp2_with fail
  go_ret
  exact ⟨rfl, rfl⟩
/-- A word and numbers that have come back. -/
def GotW (t : List UInt8) (l : List Int) (w : World) (e : Ending) (w' : World) : Prop := ∃ A c, e = .returned (.tuple #[.string (bs t), .slice A l.length c]) ∧ Seg w' w'.heap.size A (l.map (Value.int .i64)) ∧ Below w.heap.size w w'
theorem seg_one {w : World} (n : Int) : Seg (w.alloc (.cells #[.int .i64 n] 2)).drew (w.alloc (.cells #[.int .i64 n] 2)).drew.heap.size (some ⟨w.heap.size, 0, none⟩) ([n].map (Value.int .i64)) := by
  intro j u hu
  refine ⟨w.heap.size, 0, rfl, by simp, ?_⟩
  rw [Nat.zero_add, World.cell?_drew, cell_new _ _ _ j rfl]
  match j, hu with
  | 0, hu => simpa using hu
theorem i64_infoS : (Tryz.prog.info? 2).map (fun i => (i.zero, i.size, i.bytes)) = some (some (.int .i64 0), 1, 8) := by kernel_rfl
/-- What is left of a command's bytes. -/
theorem putJ_drop (c : Cm) (js : List Nat) {i : Nat} (hi : i < js.length) : putJ c (js.drop i) = putN (c.get js[i]) ++ putJ c (js.drop (i + 1)) := by
  rw [List.drop_eq_getElem_cons hi]
  rfl
def lenV : Value → Nat
  | .slice _ n _ => n
  | _ => 0
theorem own_len {w : World} {base : Nat} {e : TypeId} {size n : Nat} {v : Value} {xs : List Value} (h : w.ownsRow base e size v n xs) : lenV v = n := by
  obtain ⟨A, c, rfl⟩ := own_form h
  rfl
/-- Where script.numbers' loop is. -/
structure NmI (c : Cm) (w : World) (g base : Nat) (k : Nat) (u : Value) (W : World) : Prop where
  r : RdAt W g ⟨putJ c ((jsOf c.k).drop k), 0⟩
  o : W.ownsRow base 2 1 u k ((((jsOf c.k).take k).map c.get).map (Value.int .i64))
  b : Below w.heap.size w W
set_option maxRecDepth 100000 in
set_option maxHeartbeats 3200000 in
theorem numbers_any (x : St) (hx : StOk x) (hr : rightS x = true) (w : World) (hw : WordsC w) : Calls Tryz.prog 19 #[stV x] w (GotW (wordS x) (numsS x) w) := by
  have hk := right_kind hr
  obtain ⟨k, c, n⟩ := x
  obtain ⟨hx1, hx2, hx3⟩ := hx
  simp only at hx1 hx2 hx3 hk
  have HW0 : Hid (Below w.heap.size w (w.alloc (.cells (stCells ⟨k, c, n⟩) TSt))) := Lib.hid ((Below.refl _ _).alloc (Nat.le_refl _) _)
  unfold stCells at HW0
  simp only at HW0
  unfold stV stCells
  simp only
  rcases hk with rfl | rfl | rfl
  · have hc : rightC c = true := by
      unfold rightS at hr
      simp at hr
      exact hr.2
    have hck : isK c.k = true := by
      unfold rightC at hc
      simp at hc
      exact hc.1
    have HE : Hid (wordS ⟨1, c, n⟩ = wordL c.k.toNat ∧ numsS ⟨1, c, n⟩ = (jsOf c.k).map c.get) := Lib.hid ⟨rfl, rfl⟩
    have hpl := putC_len hx2
    have HPC : Hid (rNum ⟨putC c, 0⟩ = (c.k, ⟨putJ c (jsOf c.k), 0⟩)) := Lib.hid (by rw [← putJ_all c]; exact rNum_put hx2.1 _)
    have HCP := Lib.hid (fun W => cput_any c hx2 W)
    have he : errC c = 0 := by unfold errC; rw [hc]; rfl
    rw [hc, if_pos rfl, he] at HCP
    have HWD := Lib.hid (fun W hW => word_any c.k hck W hW)
    have HW := Lib.hid hw
    have hl6 := jsOf_len c.k
    have HPD := Lib.hid (fun i (hi : i < (jsOf c.k).length) => putJ_drop c (jsOf c.k) hi)
    have HGO := Lib.hid (fun j => get_ok hx2 j)
    clear hr hc hck he hw
    unfold cmV at HCP
    go_enter Tryz.func19, Tryz.ntmps19
    go_wp2_with (go_at_call 44; refine (HCP.out _).mono ?_)
    rintro e w1 ⟨rfl, hb1⟩
    have HW1 : Hid (Below w.heap.size w w1) := Lib.hid (HW0.out.trans (hb1.mono HW0.out.size))
    clear hb1 HW0 HCP
    have HNW := Lib.hid (new_any (putC c) w1 (by omega))
    go_wp2_with (go_at_call 45; refine HNW.out.mono ?_)
    rintro e w2 ⟨rfl, hr2, hb2⟩
    have HW2 : Hid (Below w.heap.size w w2) := Lib.hid (HW1.out.trans (hb2.mono HW1.out.size))
    have HR2 := Lib.hid hr2
    clear hr2 hb2 HNW
    have hg1 : w.heap.size ≤ w1.heap.size := HW1.out.size
    generalize w1.heap.size = g at *
    have HNM := Lib.hid (num_any g ⟨putC c, 0⟩ w2 HR2.out)
    rw [HPC.out] at HNM
    go_wp2_with (go_at_call 47; refine HNM.out.mono ?_)
    rintro e w3 ⟨rfl, hr3, hg3⟩
    have HR3 := Lib.hid hr3
    have HW3 : Hid (Below w.heap.size w w3) := Lib.hid (HW2.out.grown hg3 HW2.out.size (fun k hk => by injection hk with hk; omega))
    clear hr3 hg3 HNM HR2 HW2 HW1
    go_wp2_with (go_at_call 46; refine (HWD.out _ (HW.out.below HW3.out)).mono ?_; rintro e wd ⟨rfl, rfl⟩)
    clear HWD HW HPC
    have hgs : g < w3.heap.size := HR3.out.lt
    have HI3 : Hid (NmI c w g (g + 1) 0 (.slice none 0 0) w3) := Lib.hid ⟨by rw [List.drop_zero]; exact HR3.out, World.ownsRow_nil _ _ _ _, HW3.out⟩
    clear HR3 HW3
    obtain ⟨i0, hi0, hz0, hz1', hz2'⟩ := info_parts i64_infoS
    go_loopw [8] (fun u wr => ∃ k : Nat, k ≤ (jsOf c.k).length ∧ Hid (NmI c w g (g + 1) k u wr)) (fun u _ => 6 - lenV u)
    case atStart => exact ⟨0, Nat.zero_le _, HI3⟩
    case round =>
      obtain ⟨k, hk, HI⟩ := hrel
      have hlv := own_len HI.out.o
      have hsz := HI.out.b.size
      have HLF := Lib.hid (left_any g _ wr HI.out.r)
      by_cases hlt : k < (jsOf c.k).length
      · have hgl : I64 (c.get (jsOf c.k)[k]) := HGO.out _
        have hpd := HPD.out k hlt
        have hpp := putN_pos (c.get (jsOf c.k)[k])
        have HRN : Hid (rNum ⟨putJ c ((jsOf c.k).drop k), 0⟩ = (c.get (jsOf c.k)[k], ⟨putJ c ((jsOf c.k).drop (k + 1)), 0⟩)) := Lib.hid (by rw [hpd]; exact rNum_put hgl _)
        have hln : 0 < (putJ c ((jsOf c.k).drop k)).length := by rw [hpd, List.length_append]; omega
        have HTK : Hid ((((jsOf c.k).take (k + 1)).map c.get).map (Value.int .i64) = (((jsOf c.k).take k).map c.get).map (Value.int .i64) ++ [.int .i64 (c.get (jsOf c.k)[k])]) := Lib.hid (by rw [List.take_succ_eq_append_getElem hlt, List.map_append, List.map_append]; rfl)
        have HNM := Lib.hid (num_any g _ wr HI.out.r)
        rw [HRN.out] at HNM
        have HOR := Lib.hid HI.out.o
        have HBW := Lib.hid HI.out.b
        clear hpd hpp HPD HGO HI HRN
        generalize (putJ c ((jsOf c.k).drop k)).length = ln at *
        generalize c.get (jsOf c.k)[k] = y at *
        generalize (((jsOf c.k).take k).map c.get).map (Value.int .i64) = XS at *
        go_wp2_with (first | (go_at_call 48; refine HLF.out.mono ?_; rintro e wl ⟨rfl, hwl⟩; obtain rfl := hwl.symm) | (go_at_call 47; refine HNM.out.mono ?_))
        rintro e w4 ⟨rfl, hr4, hg4⟩
        have HR4 := Lib.hid hr4
        have hg4b : g < w4.heap.size := HR4.out.lt
        have HO4 := Lib.hid (HOR.out.kept hg4 (.inr (own_low HOR.out (by omega))))
        have HB4 : Hid (Below w.heap.size w w4) := Lib.hid (HBW.out.grown hg4 hsz (fun k hk => by injection hk with hk; omega))
        have hsz4 := HB4.out.size
        clear hr4 hg4 HNM HLF HOR HBW
        go_wp2_with (at_builtin; refine wpList_append_own _ rfl _ _ 46 rfl (g + 1) 2 i0 _ 1 8 Tryz.underlying46 hi0 hz0 hz1' hz2' rfl (by decide) _ k _ rfl (HO4.out.alloc _) ⟨w4.heap.size, 0, none⟩ 1 1 [.int .i64 y] rfl rfl (new_cells _ _ #[_] rfl) (by intro u hu; simp at hu; rw [hu]; rfl) (by simp only [maxLen]; omega) (by omega) (by simp; omega) ?_)
        intro v' w5 hown5 hgr5 _
        have HI5 : Hid (NmI c w g (g + 1) (k + 1) v' w5) := Lib.hid ⟨(HR4.out.below ((Below.refl _ _).alloc (Nat.le_refl _) _)).kept hgr5 (fun e => own_low HO4.out (g := g) (by omega) e.symm), by rw [HTK.out]; exact hown5, (HB4.out.alloc (by omega) _).grown hgr5 (by simp; omega) (fun j hj => by have := own_base HO4.out j hj; omega)⟩
        have hlv5 : lenV v' = k + 1 := own_len HI5.out.o
        clear hown5 hgr5 HR4 HO4 HB4 HTK
        go_wp2_with fail
        go_roundw
        case rel => exact ⟨k + 1, by omega, HI5⟩
        case measure => show 6 - lenV v' < 6 - lenV u8; omega
      · obtain rfl : k = (jsOf c.k).length := by omega
        have hln : putJ c ((jsOf c.k).drop (jsOf c.k).length) = [] := by rw [List.drop_length]; rfl
        rw [hln] at HLF
        obtain ⟨Au, cu, hu⟩ := own_form HI.out.o
        subst hu
        have HO := Lib.hid HI.out.o
        have HB := Lib.hid HI.out.b
        clear HI hln HPD HGO
        go_wp2_with (go_at_call 48; refine HLF.out.mono ?_; rintro e wl ⟨rfl, hwl⟩; obtain rfl := hwl.symm)
        go_ret2
        rw [HE.out.1, HE.out.2]
        refine ⟨Au, cu, by rw [List.length_map]; rfl, ?_, HB.out⟩
        have h := Seg.of_own HO.out
        rw [List.take_length] at h
        exact h
  · have HE : Hid (wordS ⟨2, c, n⟩ = fuseW ∧ numsS ⟨2, c, n⟩ = [n]) := Lib.hid ⟨rfl, rfl⟩
    have c8 : (w.alloc (.cells #[.int .i64 2, .int .i64 c.k, .int .i64 c.i, .int .i64 c.m, .int .i64 c.o, .int .i64 c.s, .int .i64 c.q, .int .i64 c.p, .int .i64 n] TSt)).cell? ⟨w.heap.size, 8, none⟩ = some (.int .i64 n) := cell_new _ _ _ 8 rfl
    clear hr hw
    go_enter Tryz.func19, Tryz.ntmps19
    go_wp2_with fail
    generalize w.alloc (.cells #[.int .i64 2, .int .i64 c.k, .int .i64 c.i, .int .i64 c.m, .int .i64 c.o, .int .i64 c.s, .int .i64 c.q, .int .i64 c.p, .int .i64 n] TSt) = w0 at *
    have HBE : Hid (Below w.heap.size w (w0.alloc (.cells #[.int .i64 n] 2)).drew) := Lib.hid (HW0.out.alloc HW0.out.size _).drew
    have HSG : Hid (Seg (w0.alloc (.cells #[.int .i64 n] 2)).drew (w0.alloc (.cells #[.int .i64 n] 2)).drew.heap.size (some ⟨w0.heap.size, 0, none⟩) ([n].map (Value.int .i64))) := Lib.hid (seg_one n)
    go_region
    go_wp2_with fail
    go_ret2
    rw [HE.out.1, HE.out.2]
    exact ⟨some ⟨w0.heap.size, 0, none⟩, 1, rfl, HSG.out, HBE.out⟩
  · have HE : Hid (wordS ⟨3, c, n⟩ = crashW ∧ numsS ⟨3, c, n⟩ = [n]) := Lib.hid ⟨rfl, rfl⟩
    have c8 : (w.alloc (.cells #[.int .i64 3, .int .i64 c.k, .int .i64 c.i, .int .i64 c.m, .int .i64 c.o, .int .i64 c.s, .int .i64 c.q, .int .i64 c.p, .int .i64 n] TSt)).cell? ⟨w.heap.size, 8, none⟩ = some (.int .i64 n) := cell_new _ _ _ 8 rfl
    clear hr hw
    go_enter Tryz.func19, Tryz.ntmps19
    go_wp2_with fail
    generalize w.alloc (.cells #[.int .i64 3, .int .i64 c.k, .int .i64 c.i, .int .i64 c.m, .int .i64 c.o, .int .i64 c.s, .int .i64 c.q, .int .i64 c.p, .int .i64 n] TSt) = w0 at *
    have HBE : Hid (Below w.heap.size w (w0.alloc (.cells #[.int .i64 n] 2)).drew) := Lib.hid (HW0.out.alloc HW0.out.size _).drew
    have HSG : Hid (Seg (w0.alloc (.cells #[.int .i64 n] 2)).drew (w0.alloc (.cells #[.int .i64 n] 2)).drew.heap.size (some ⟨w0.heap.size, 0, none⟩) ([n].map (Value.int .i64))) := Lib.hid (seg_one n)
    go_region
    go_wp2_with fail
    go_ret2
    rw [HE.out.1, HE.out.2]
    exact ⟨some ⟨w0.heap.size, 0, none⟩, 1, rfl, HSG.out, HBE.out⟩
end Go.Proofs.YtmplokdbbhlomaaGreatDoor

/-
  What script.Line and script.Print come to, over this seat's translation: contracts for callers.
-/
namespace Go.Proofs.YtmplokdbbhlomaaGreatDoor
open Go.RowKit Go.Sort

theorem below_grow (w : World) (k : Nat) (os : Array Obj) : Below w.heap.size w (grow (w.drewN k) os) :=
  ⟨rfl, rfl, rfl, by simp [grow], fun j hj => by
    show (w.heap ++ os)[j]? = w.heap[j]?
    rw [Array.getElem?_append_left hj]⟩
/-- What the walks of the lines read of the package variables. -/
structure EnvS (w : World) : Prop where
  words : WordsC w
  tab : Lib.TabIs Tryz.prog w "internal/strconv.uint64pow10" .u64 Lib.pow10Tab
theorem g_tab : Tryz.prog.globalNamed "internal/strconv.uint64pow10" = some 2 := by kernel_rfl
theorem EnvS.below {w w' : World} (h : EnvS w) (hb : Below w.heap.size w w') : EnvS w' := ⟨h.words.below hb, Go.Joins.tab_stays g_tab h.tab hb (Nat.le_refl _)⟩
theorem fmt_any (n : Int) (h : I64 n) (w : World) (he : EnvS w) : Calls Tryz.prog 20 #[.int .i64 n, .int .i64 10] w fun e w' => e = .returned (.string (bs (Lib.itoa n))) ∧ Below w.heap.size w w' :=
  (Tryz.strconv_FormatInt_10 n (by unfold I64 at h; omega) (by unfold I64 at h; omega) w he.tab).mono fun e w' ⟨he, k, os, hw⟩ => ⟨he, by rw [hw]; exact below_grow w k os⟩
set_option maxRecDepth 100000 in
set_option maxHeartbeats 3200000 in
theorem line_any (x : St) (hx : StOk x) (w : World) (he : EnvS w) : Calls Tryz.prog 6 #[stV x] w fun e w' => e = .returned (.tuple #[.string (bs (if rightS x then lineS x else [])), .int .i64 (errS x)]) ∧ Below w.heap.size w w' := by
  have HCK := Lib.hid (fun W => scheck_any x W)
  have HW0 : Hid (Below w.heap.size w (w.alloc (.cells (stCells x) TSt))) := Lib.hid ((Below.refl _ _).alloc (Nat.le_refl _) _)
  have HX0 := Lib.hid (CsAt.made w (stCells x) TSt)
  have hcx : stCells x = #[.int .i64 x.k, .int .i64 x.c.k, .int .i64 x.c.i, .int .i64 x.c.m, .int .i64 x.c.o, .int .i64 x.c.s, .int .i64 x.c.q, .int .i64 x.c.p, .int .i64 x.n] := rfl
  have HE := Lib.hid he
  clear he
  rw [hcx] at HW0 HX0
  cases hr : rightS x with
  | false =>
    have her : errS x = 3 := by unfold errS; rw [hr]; rfl
    rw [her] at HCK
    rw [her, if_neg (by simp)]
    unfold stV stCells at HCK ⊢
    clear hr her
    go_enter Tryz.func6, Tryz.ntmps6
    go_wp2_with (go_at_call 8; refine (HCK.out _).mono ?_; rintro e w1 ⟨rfl, hb⟩; have HB1 := Lib.hid hb; clear hb)
    go_ret2
    exact ⟨rfl, HW0.out.trans (HB1.out.mono HW0.out.size)⟩
  | true =>
    have her : errS x = 0 := by unfold errS; rw [hr]; rfl
    have HNU := Lib.hid (fun W hW => numbers_any x hx hr W hW)
    have HNI := Lib.hid (numsS_in hx)
    have hnl := numsS_len x
    have hwl := wordS_len x
    rw [her] at HCK
    rw [her, if_pos rfl]
    have HLE : Hid (lineS x = wordS x ++ ((numsS x).take (numsS x).length).flatMap numL) := Lib.hid (by rw [List.take_length]; rfl)
    unfold stV stCells at HCK HNU ⊢
    clear hr her
    generalize lineS x = L at *
    generalize wordS x = wd at *
    generalize numsS x = ns at *
    go_enter Tryz.func6, Tryz.ntmps6
    go_wp2_with (go_at_call 8; refine (HCK.out _).mono ?_)
    rintro e w1 ⟨rfl, hb1⟩
    have HW1 : Hid (Below w.heap.size w w1) := Lib.hid (HW0.out.trans (hb1.mono HW0.out.size))
    have HX1 := Lib.hid (HX0.out.below (by simp) hb1)
    have q0 := HX1.out.cell 0
    have q1 := HX1.out.cell 1
    have q2 := HX1.out.cell 2
    have q3 := HX1.out.cell 3
    have q4 := HX1.out.cell 4
    have q5 := HX1.out.cell 5
    have q6 := HX1.out.cell 6
    have q7 := HX1.out.cell 7
    have q8 := HX1.out.cell 8
    clear hb1 HW0 HX0 HCK hcx
    go_wp2_with (go_at_call 19; refine (HNU.out _ (HE.out.words.below HW1.out)).mono ?_)
    rintro e w2 ⟨A, cn, rfl, hs2, hb2⟩
    have HS2 := Lib.hid hs2
    have HW2 : Hid (Below w.heap.size w w2) := Lib.hid (HW1.out.trans (hb2.mono HW1.out.size))
    clear hs2 hb2 HNU HW1 HX1 q0 q1 q2 q3 q4 q5 q6 q7 q8
    go_wp2_with fail
    go_loopw [5, 8, 21] (fun vs _ i wr => ∃ k : Nat, k ≤ ns.length ∧ i = .int .i64 k ∧ vs = .string (bs (wd ++ (ns.take k).flatMap numL)) ∧ Hid (Below w2.heap.size w2 wr)) (fun _ _ i _ => ns.length - (intOf i).toNat)
    case atStart => exact ⟨0, Nat.zero_le _, rfl, by simp, Below.refl _ _⟩
    case round =>
      obtain ⟨k, hk, rfl, rfl, HB⟩ := hrel
      by_cases hlt : k < ns.length
      · obtain ⟨b, o, rfl, hb, hc⟩ := (HS2.out.below HB.out).at (k := k) (by rw [List.length_map]; exact hlt)
        rw [List.getElem_map] at hc
        have hin := HNI.out _ (List.getElem_mem hlt)
        have HSN : Hid ((ns.take (k + 1)).flatMap numL = (ns.take k).flatMap numL ++ numL ns[k]) := Lib.hid (by rw [List.take_succ_eq_append_getElem hlt, List.flatMap_append]; simp)
        have hfl := nums_flat_len (ns.take k) (fun n hn => HNI.out n (List.mem_of_mem_take hn))
        rw [List.length_take] at hfl
        have hil := itoa_len hin
        have HFM := Lib.hid (fun W hW => fmt_any ns[k] hin W hW)
        have HNL : Hid (numL ns[k] = 32 :: Lib.itoa ns[k]) := Lib.hid rfl
        clear hin
        generalize ns[k] = y at *
        generalize Lib.itoa y = ti at *
        generalize (ns.take k).flatMap numL = pk at *
        have hl1 : (wd ++ pk).length ≤ 400 := by rw [List.length_append]; omega
        have HPE : Hid ((wd ++ pk) ++ (32 :: ti) = wd ++ (pk ++ numL y)) := Lib.hid (by rw [HNL.out, List.append_assoc])
        generalize wd ++ pk = pp at *
        have hs0 := bs_size [32]
        have hs1 := bs_size ti
        have hs2 := bs_size pp
        have hs3 := bs_size (32 :: ti)
        have hap1 : bs [32] ++ bs ti = bs (32 :: ti) := bs_append [32] ti
        have hap2 := bs_append pp (32 :: ti)
        have hbig1 : ¬ 9223372036854775807 < 1 + ti.length := by omega
        have hbig2 : ¬ 9223372036854775807 < pp.length + (32 :: ti).length := by rw [List.length_cons]; omega
        clear hfl hwl
        go_wp2_with (go_at_call 20; refine (HFM.out _ ((HE.out.below HW2.out).below HB.out)).mono ?_; rintro e w3 ⟨rfl, hb3⟩; have HB3 := Lib.hid (HB.out.trans (hb3.mono HB.out.size)); clear hb3)
        go_roundw
        case rel => exact ⟨k + 1, by omega, by go_num, by rw [HSN.out, ← HPE.out], HB3⟩
        case measure => simp [intOf]; omega
      · obtain rfl : k = ns.length := by omega
        go_wp2_with fail
        go_ret2
        exact ⟨by rw [HLE.out]; rfl, HW2.out.trans (HB.out.mono HW2.out.size)⟩
end Go.Proofs.YtmplokdbbhlomaaGreatDoor

/-
  What script.Print comes to, over this seat's translation: a contract for callers.
-/
namespace Go.Proofs.YtmplokdbbhlomaaGreatDoor
open Go.RowKit

set_option maxRecDepth 100000 in
set_option maxHeartbeats 6400000 in
theorem print_any (l : List St) (A : Option Addr) (c : Nat) (w : World) (hs : Seg w w.heap.size A (stRows l)) (hI : ∀ x ∈ l, StOk x) (he : EnvS w) : Calls Tryz.prog 12 #[.slice A l.length c] w fun e w' => e = .returned (.tuple #[.string (bs (if wrongL l = 0 then printL l else [])), .int .i64 (wrongL l)]) ∧ Below w.heap.size w w' := by
  have HS := Lib.hid hs
  have HI := Lib.hid hI
  have HAL := Lib.hid (sall_any l A c w hs)
  have HE := Lib.hid he
  clear hs hI he
  by_cases h0 : wrongL l = 0
  case neg =>
    rw [if_neg h0]
    generalize wrongL l = er at *
    have hne : (er != 0) = true := by simpa using h0
    go_enter Tryz.func12, Tryz.ntmps12
    go_wp2_with (go_at_call 37; refine HAL.out.mono ?_; rintro e w1 ⟨rfl, hb⟩; have HB1 := Lib.hid hb; clear hb)
    go_ret2
    exact ⟨rfl, HB1.out⟩
  obtain ⟨hl, hR⟩ := wrongL_zero h0
  have HR := Lib.hid hR
  rw [if_pos h0]
  rw [h0] at HAL ⊢
  clear h0 hR
  have HLP : Hid (printL l = printL (l.take l.length)) := Lib.hid (by rw [List.take_length])
  go_enter Tryz.func12, Tryz.ntmps12
  go_wp2_with (go_at_call 37; refine HAL.out.mono ?_; rintro e w1 ⟨rfl, hb⟩; have HB1 := Lib.hid hb; clear hb)
  have HW1 : Hid (Below w.heap.size w (w1.alloc (.cells #[.pointer none, .slice none 0 0] TB))) := Lib.hid (HB1.out.alloc HB1.out.size _)
  have HBD : Hid (Lib.IsBuilder TB TU w.heap.size w1.heap.size (Lib.byteCells (printL (l.take 0))) (w1.alloc (.cells #[.pointer none, .slice none 0 0] TB))) := Lib.hid (bld_fresh w1 w.heap.size HB1.out.size)
  generalize hRE : printL l = R at *
  have HRE := Lib.hid hRE
  clear hRE
  generalize (w1.alloc (.cells #[.pointer none, .slice none 0 0] TB)) = w2 at *
  go_loopw [7, 8, 9, 17] (fun _ _ _ i wr => ∃ k : Nat, k ≤ l.length ∧ i = .int .i64 k ∧ Hid (Lib.IsBuilder TB TU w.heap.size w1.heap.size (Lib.byteCells (printL (l.take k))) wr) ∧ Hid (Below w.heap.size w wr)) (fun _ _ _ i _ => l.length - (intOf i).toNat)
  case atStart => exact ⟨0, Nat.zero_le _, rfl, HBD, HW1⟩
  case round =>
    clear HBD HW1
    obtain ⟨k, hk, rfl, HB, HW⟩ := hrel
    by_cases hlt : k < l.length
    · obtain ⟨b, o, rfl, hb, e0, e1, e2, e3, e4, e5, e6, e7, e8⟩ := st_at (HS.out.below HW.out) hlt
      have HSN : Hid (printL (l.take (k + 1)) = (printL (l.take k) ++ lineS l[k]) ++ [10]) := Lib.hid (by rw [List.take_succ_eq_append_getElem hlt]; unfold printL; rw [List.flatMap_append, List.append_assoc]; simp)
      have hlen := printL_len (l.take k) (fun x hx => HI.out x (List.mem_of_mem_take hx))
      rw [List.length_take] at hlen
      have hxo := HI.out _ (List.getElem_mem hlt)
      have hxr := HR.out _ (List.getElem_mem hlt)
      have hk0 : (0 : Int) ≤ (k : Int) := by omega
      have hkb : (k : Int) < (l.length : Int) := by omega
      generalize l[k] = x at *
      generalize printL (l.take k) = ys at *
      have hsl := lineS_len hxo
      have HBA : Hid (Below wr.heap.size wr (wr.alloc (.cells (stCells x) TSt))) := Lib.hid ((Below.refl _ _).alloc (Nat.le_refl _) _)
      have HBA2 := Lib.hid (bld_below HB.out HBA.out)
      have HWA : Hid (Below w.heap.size w (wr.alloc (.cells (stCells x) TSt))) := Lib.hid (HW.out.trans (HBA.out.mono HW.out.size))
      have HSC := Lib.hid (fun W hW => line_any x hxo W hW)
      have her : errS x = 0 := by unfold errS; rw [hxr]; rfl
      rw [hxr, if_pos rfl, her] at HSC
      unfold stCells at HBA2 HWA
      unfold stV stCells at HSC
      clear HBA her hxo hxr
      generalize lineS x = px at *
      go_wp2_with (go_at_call 6; refine (HSC.out _ (HE.out.below HWA.out)).mono ?_)
      rintro e w4 ⟨rfl, hb4⟩
      have HB4 := Lib.hid (bld_below HBA2.out hb4)
      have HW4 : Hid (Below w.heap.size w w4) := Lib.hid (HWA.out.trans (hb4.mono HWA.out.size))
      clear hb4 HBA2 HWA
      have HWR := Lib.hid (write_any w.heap.size w1.heap.size _ (bs px) w4 HB4.out (by rw [bs_size, Lib.byteCells_length]; omega) HW4.out.size)
      go_wp2_with (go_at_call 38; refine HWR.out.mono ?_)
      rintro e w5 ⟨rfl, hbd5, hb5, _⟩
      have HB5 : Hid (Lib.IsBuilder TB TU w.heap.size w1.heap.size (Lib.byteCells (ys ++ px)) w5) := Lib.hid (by
        rw [bytes_append, ← strCells_mk px]
        exact hbd5)
      have HW5 : Hid (Below w.heap.size w w5) := Lib.hid (HW4.out.trans hb5)
      clear hbd5 hb5 HWR HB4 HW4
      have HWR := Lib.hid (write_any w.heap.size w1.heap.size _ (bs [10]) w5 HB5.out (by rw [bs_size, Lib.byteCells_length, List.length_append]; simp; omega) HW5.out.size)
      go_wp2_with (go_at_call 38; refine HWR.out.mono ?_)
      rintro e w6 ⟨rfl, hbd6, hb6, _⟩
      have HB6 : Hid (Lib.IsBuilder TB TU w.heap.size w1.heap.size (Lib.byteCells (printL (l.take (k + 1)))) w6) := Lib.hid (by
        rw [HSN.out, bytes_append, ← strCells_mk [10]]
        exact hbd6)
      have HW6 : Hid (Below w.heap.size w w6) := Lib.hid (HW5.out.trans hb6)
      clear hbd6 hb6 HWR
      go_wp2_with fail
      go_roundw
      case rel => exact ⟨k + 1, by omega, by go_num, HB6, HW6⟩
      case measure => simp [intOf]; omega
    · obtain rfl : k = l.length := by omega
      have hb := HB.out
      rw [← HLP.out] at hb
      have HST := Lib.hid (Tryz.Builder_String_any w.heap.size w1.heap.size _ wr hb HW.out.size)
      clear hb
      go_wp2_with (go_at_call 39; refine HST.out.mono ?_)
      rintro e w8 ⟨rfl, hb8⟩
      have HW8 : Hid (Below w.heap.size w w8) := Lib.hid (HW.out.trans hb8)
      clear hb8 HST
      go_wp2_with fail
      go_ret2
      exact ⟨by rw [HRE.out]; rfl, HW8.out⟩
end Go.Proofs.YtmplokdbbhlomaaGreatDoor

/-
  What complinelaw33.awake comes to, over this seat's translation: a contract for callers.
-/
namespace Go.Proofs.YtmplokdbbhlomaaGreatDoor
open Go.RowKit

def exS : List St := [⟨1, ⟨10, 0, 0, 0, 0, 0, 0⟩, 0⟩, ⟨3, zeroC, 5⟩]
theorem exS_ok : ∀ x ∈ exS, StOk x := by
  intro x hx
  simp [exS] at hx
  rcases hx with rfl | rfl <;> (unfold StOk CmOk I64; simp [zeroC])
theorem exS_wrong : wrongL exS = 0 := by simp [wrongL, exS, rightS, rightC, isK, zeroC, hasB, Cm.get, List.range_succ]
theorem uv_small {z : Nat} (h : z < 128) : Lib.uvarint z = [z.toUInt8] := Lib.uvarint_small h
theorem putN_small {n : Int} (h0 : 0 ≤ n) (h : n < 64) : putN n = [(2 * n.toNat).toUInt8] := by
  have e : Lib.zigzag n = 2 * n.toNat := by unfold Lib.zigzag; rw [if_pos h0]; omega
  unfold putN
  rw [e, Lib.uvarint_small (by omega)]
theorem exS_put : putL exS = [4, 0, 2, 20, 4, 10] := by
  simp [putL, exS, putS, putT, putC, putF, six, hasB, putN_small]
theorem exS_print : printL exS = [116, 105, 99, 107, 10, 99, 114, 97, 115, 104, 32, 53, 10] := by
  have h5 : Lib.itoa 5 = [53] := by unfold Lib.itoa; rw [if_neg (by omega)]; unfold Lib.decDigits; rfl
  simp [printL, exS, lineS, wordS, numsS, wordL, crashW, numL, h5, jsOf, six, hasB]
theorem exS_seg (w : World) : Seg (w.alloc (.cells #[.int .i64 1, .int .i64 10, .int .i64 0, .int .i64 0, .int .i64 0, .int .i64 0, .int .i64 0, .int .i64 0, .int .i64 0, .int .i64 3, .int .i64 0, .int .i64 0, .int .i64 0, .int .i64 0, .int .i64 0, .int .i64 0, .int .i64 0, .int .i64 5] TSt)) (w.alloc (.cells #[.int .i64 1, .int .i64 10, .int .i64 0, .int .i64 0, .int .i64 0, .int .i64 0, .int .i64 0, .int .i64 0, .int .i64 0, .int .i64 3, .int .i64 0, .int .i64 0, .int .i64 0, .int .i64 0, .int .i64 0, .int .i64 0, .int .i64 0, .int .i64 5] TSt)).heap.size (some ⟨w.heap.size, 0, none⟩) (stRows exS) := by
  intro j u hu
  refine ⟨w.heap.size, 0, rfl, by simp, ?_⟩
  rw [Nat.zero_add, cell_new _ _ _ j rfl]
  have e : stRows exS = (#[.int .i64 1, .int .i64 10, .int .i64 0, .int .i64 0, .int .i64 0, .int .i64 0, .int .i64 0, .int .i64 0, .int .i64 0, .int .i64 3, .int .i64 0, .int .i64 0, .int .i64 0, .int .i64 0, .int .i64 0, .int .i64 0, .int .i64 0, .int .i64 5] : Array Value).toList := rfl
  rw [e] at hu
  simpa using hu
set_option maxRecDepth 100000 in
set_option maxHeartbeats 3200000 in
theorem sawake_any (w : World) (he : EnvS w) : Calls Tryz.prog 5 #[] w fun e w' => e = .returned (.bool true) ∧ Below w.heap.size w w' := by
  have HW1 : Hid (Below w.heap.size w (w.alloc (.cells #[.int .i64 1, .int .i64 10, .int .i64 0, .int .i64 0, .int .i64 0, .int .i64 0, .int .i64 0, .int .i64 0, .int .i64 0, .int .i64 3, .int .i64 0, .int .i64 0, .int .i64 0, .int .i64 0, .int .i64 0, .int .i64 0, .int .i64 0, .int .i64 5] TSt))) := Lib.hid ((Below.refl _ _).alloc (Nat.le_refl _) _)
  have HS1 := Lib.hid (exS_seg w)
  have HE := Lib.hid he
  clear he
  have HPU := Lib.hid (sput_any exS (some ⟨w.heap.size, 0, none⟩) 2 _ HS1.out exS_ok)
  rw [if_pos exS_wrong, exS_wrong, exS_put] at HPU
  go_enter Tryz.func5, Tryz.ntmps5
  go_wp2_with (go_at_call 18; refine HPU.out.mono ?_)
  rintro e w2 ⟨rfl, hb2⟩
  have HS2 := Lib.hid (HS1.out.below hb2 |>.mono hb2.size)
  have HW2 : Hid (Below w.heap.size w w2) := Lib.hid (HW1.out.trans (hb2.mono HW1.out.size))
  clear hb2 HPU HW1 HS1
  have HPR := Lib.hid (print_any exS (some ⟨w.heap.size, 0, none⟩) 2 w2 HS2.out exS_ok (HE.out.below HW2.out))
  rw [if_pos exS_wrong, exS_wrong, exS_print] at HPR
  go_wp2_with (go_at_call 12; refine HPR.out.mono ?_; rintro e w3 ⟨rfl, hb3⟩; have HW3 : Hid (Below w.heap.size w w3) := Lib.hid (HW2.out.trans (hb3.mono HW2.out.size)); clear hb3)
  go_ret
  exact ⟨rfl, HW3.out⟩
end Go.Proofs.YtmplokdbbhlomaaGreatDoor
