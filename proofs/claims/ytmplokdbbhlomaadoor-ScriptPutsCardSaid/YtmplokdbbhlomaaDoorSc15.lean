/-
  What codec.Word, (*num.Reader).Left, script.numbers come to, over this seat's translation: contracts for callers.
-/
import Derived.Test.YtmplokdbbhlomaaDoorScT
import Derived.Test.YtmplokdbbhlomaaDoorSr5
import Derived.RegionTactic
import Derived.ChangeAlike
namespace Go.Proofs.YtmplokdbbhlomaaDoor
open Go.RowKit

/-- The package's words. -/
def WordsC (w : World) : Prop := ∀ n, n < 11 → w.cell? ⟨0, n, none⟩ = some (.string (bs (wordL n)))
theorem WordsC.below {w w' : World} (h : WordsC w) (hb : Below w.heap.size w w') : WordsC w' := fun n hn => by
  have h1 := h n hn
  have hl := World.block_lt_of_cell? w _ h1
  rw [hb.cell (p := ⟨0, n, none⟩) hl]
  exact h1
set_option maxHeartbeats 1600000 in
theorem word_any (k : Int) (hk : isK k = true) (w : World) (hw : WordsC w) : Calls Tryd.prog 68 #[.int .i64 k] w fun e w' => e = .returned (.string (bs (wordL k.toNat))) ∧ w = w' := by
  simp [isK] at hk
  obtain ⟨n, rfl⟩ : ∃ n : Nat, k = (n : Int) := ⟨k.toNat, by omega⟩
  rw [Int.toNat_natCast]
  have h0 : (0 : Int) ≤ (n : Int) := by omega
  have h1 : n < 11 := by omega
  have c1 := hw n h1
  clear hk hw
  generalize wordL n = t at *
  go_enter Tryd.func68, Tryd.ntmps68
  go_wp2_with fail
  go_ret
  exact ⟨rfl, rfl⟩
/-- A word and numbers that have come back. -/
def GotW (t : List UInt8) (l : List Int) (w : World) (e : Ending) (w' : World) : Prop := ∃ A c, e = .returned (.tuple #[.string (bs t), .slice A l.length c]) ∧ Seg w' w'.heap.size A (l.map (Value.int .i64)) ∧ Below w.heap.size w w'
theorem seg_one {w : World} (n : Int) : Seg (w.alloc (.cells #[.int .i64 n] 2)).drew (w.alloc (.cells #[.int .i64 n] 2)).drew.heap.size (some ⟨w.heap.size, 0, none⟩) ([n].map (Value.int .i64)) := by
  intro j u hu
  refine ⟨w.heap.size, 0, rfl, by simp, ?_⟩
  rw [Nat.zero_add, World.cell?_drew, cell_new _ _ _ j rfl]
  match j, hu with
  | 0, hu => simpa using hu
theorem i64_infoS : (Tryd.prog.info? 2).map (fun i => (i.zero, i.size, i.bytes)) = some (some (.int .i64 0), 1, 8) := by kernel_rfl
/-- What is left of a command's bytes. -/
theorem putJ_drop (c : Cm) (js : List Nat) {i : Nat} (hi : i < js.length) : putJ c (js.drop i) = putN (c.get js[i]) ++ putJ c (js.drop (i + 1)) := by
  rw [List.drop_eq_getElem_cons hi]
  rfl
def lenV : Value → Nat
  | .slice _ n _ => n
  | _ => 0
theorem own_len {w : World} {base : Nat} {e : TypeId} {size n : Nat} {v : Value} {xs : List Value} (h : w.ownsRow base e size v n xs) : lenV v = n := by
  obtain ⟨A, c, rfl⟩ := own_form h
  rfl
/-- Where script.numbers' loop is. -/
structure NmI (c : Cm) (w : World) (g base : Nat) (k : Nat) (u : Value) (W : World) : Prop where
  r : RdAt W g ⟨putJ c ((jsOf c.k).drop k), 0⟩
  o : W.ownsRow base 2 1 u k ((((jsOf c.k).take k).map c.get).map (Value.int .i64))
  b : Below w.heap.size w W
set_option maxRecDepth 100000 in
set_option maxHeartbeats 3200000 in
theorem numbers_any (x : St) (hx : StOk x) (hr : rightS x = true) (w : World) (hw : WordsC w) : Calls Tryd.prog 50 #[stV x] w (GotW (wordS x) (numsS x) w) := by
  have hk := right_kind hr
  obtain ⟨k, c, n⟩ := x
  obtain ⟨hx1, hx2, hx3⟩ := hx
  simp only at hx1 hx2 hx3 hk
  have HW0 : Hid (Below w.heap.size w (w.alloc (.cells (stCells ⟨k, c, n⟩) TSt))) := Lib.hid ((Below.refl _ _).alloc (Nat.le_refl _) _)
  unfold stCells at HW0
  simp only at HW0
  unfold stV stCells
  simp only
  rcases hk with rfl | rfl | rfl
  · have hc : rightC c = true := by
      unfold rightS at hr
      simp at hr
      exact hr.2
    have hck : isK c.k = true := by
      unfold rightC at hc
      simp at hc
      exact hc.1
    have HE : Hid (wordS ⟨1, c, n⟩ = wordL c.k.toNat ∧ numsS ⟨1, c, n⟩ = (jsOf c.k).map c.get) := Lib.hid ⟨rfl, rfl⟩
    have hpl := putC_len hx2
    have HPC : Hid (rNum ⟨putC c, 0⟩ = (c.k, ⟨putJ c (jsOf c.k), 0⟩)) := Lib.hid (by rw [← putJ_all c]; exact rNum_put hx2.1 _)
    have HCP := Lib.hid (fun W => cput_any c hx2 W)
    have he : errC c = 0 := by unfold errC; rw [hc]; rfl
    rw [hc, if_pos rfl, he] at HCP
    have HWD := Lib.hid (fun W hW => word_any c.k hck W hW)
    have HW := Lib.hid hw
    have hl6 := jsOf_len c.k
    have HPD := Lib.hid (fun i (hi : i < (jsOf c.k).length) => putJ_drop c (jsOf c.k) hi)
    have HGO := Lib.hid (fun j => get_ok hx2 j)
    clear hr hc hck he hw
    unfold cmV at HCP
    go_enter Tryd.func50, Tryd.ntmps50
    go_wp2_with (go_at_call 34; refine (HCP.out _).mono ?_)
    rintro e w1 ⟨rfl, hb1⟩
    have HW1 : Hid (Below w.heap.size w w1) := Lib.hid (HW0.out.trans (hb1.mono HW0.out.size))
    clear hb1 HW0 HCP
    have HNW := Lib.hid (new_any (putC c) w1 (by omega))
    go_wp2_with (go_at_call 20; refine HNW.out.mono ?_)
    rintro e w2 ⟨rfl, hr2, hb2⟩
    have HW2 : Hid (Below w.heap.size w w2) := Lib.hid (HW1.out.trans (hb2.mono HW1.out.size))
    have HR2 := Lib.hid hr2
    clear hr2 hb2 HNW
    have hg1 : w.heap.size ≤ w1.heap.size := HW1.out.size
    generalize w1.heap.size = g at *
    have HNM := Lib.hid (num_any g ⟨putC c, 0⟩ w2 HR2.out)
    rw [HPC.out] at HNM
    go_wp2_with (go_at_call 41; refine HNM.out.mono ?_)
    rintro e w3 ⟨rfl, hr3, hg3⟩
    have HR3 := Lib.hid hr3
    have HW3 : Hid (Below w.heap.size w w3) := Lib.hid (HW2.out.grown hg3 HW2.out.size (fun k hk => by injection hk with hk; omega))
    clear hr3 hg3 HNM HR2 HW2 HW1
    go_wp2_with (go_at_call 68; refine (HWD.out _ (HW.out.below HW3.out)).mono ?_; rintro e wd ⟨rfl, rfl⟩)
    clear HWD HW HPC
    have hgs : g < w3.heap.size := HR3.out.lt
    have HI3 : Hid (NmI c w g (g + 1) 0 (.slice none 0 0) w3) := Lib.hid ⟨by rw [List.drop_zero]; exact HR3.out, World.ownsRow_nil _ _ _ _, HW3.out⟩
    clear HR3 HW3
    obtain ⟨i0, hi0, hz0, hz1', hz2'⟩ := info_parts i64_infoS
    go_loopw [8] (fun u wr => ∃ k : Nat, k ≤ (jsOf c.k).length ∧ Hid (NmI c w g (g + 1) k u wr)) (fun u _ => 6 - lenV u)
    case atStart => exact ⟨0, Nat.zero_le _, HI3⟩
    case round =>
      obtain ⟨k, hk, HI⟩ := hrel
      have hlv := own_len HI.out.o
      have hsz := HI.out.b.size
      have HLF := Lib.hid (left_any g _ wr HI.out.r)
      by_cases hlt : k < (jsOf c.k).length
      · have hgl : I64 (c.get (jsOf c.k)[k]) := HGO.out _
        have hpd := HPD.out k hlt
        have hpp := putN_pos (c.get (jsOf c.k)[k])
        have HRN : Hid (rNum ⟨putJ c ((jsOf c.k).drop k), 0⟩ = (c.get (jsOf c.k)[k], ⟨putJ c ((jsOf c.k).drop (k + 1)), 0⟩)) := Lib.hid (by rw [hpd]; exact rNum_put hgl _)
        have hln : 0 < (putJ c ((jsOf c.k).drop k)).length := by rw [hpd, List.length_append]; omega
        have HTK : Hid ((((jsOf c.k).take (k + 1)).map c.get).map (Value.int .i64) = (((jsOf c.k).take k).map c.get).map (Value.int .i64) ++ [.int .i64 (c.get (jsOf c.k)[k])]) := Lib.hid (by rw [List.take_succ_eq_append_getElem hlt, List.map_append, List.map_append]; rfl)
        have HNM := Lib.hid (num_any g _ wr HI.out.r)
        rw [HRN.out] at HNM
        have HOR := Lib.hid HI.out.o
        have HBW := Lib.hid HI.out.b
        clear hpd hpp HPD HGO HI HRN
        generalize (putJ c ((jsOf c.k).drop k)).length = ln at *
        generalize c.get (jsOf c.k)[k] = y at *
        generalize (((jsOf c.k).take k).map c.get).map (Value.int .i64) = XS at *
        go_wp2_with (first | (go_at_call 42; refine HLF.out.mono ?_; rintro e wl ⟨rfl, hwl⟩; obtain rfl := hwl.symm) | (go_at_call 41; refine HNM.out.mono ?_))
        rintro e w4 ⟨rfl, hr4, hg4⟩
        have HR4 := Lib.hid hr4
        have hg4b : g < w4.heap.size := HR4.out.lt
        have HO4 := Lib.hid (HOR.out.kept hg4 (.inr (own_low HOR.out (by omega))))
        have HB4 : Hid (Below w.heap.size w w4) := Lib.hid (HBW.out.grown hg4 hsz (fun k hk => by injection hk with hk; omega))
        have hsz4 := HB4.out.size
        clear hr4 hg4 HNM HLF HOR HBW
        go_wp2_with (at_builtin; refine wpList_append_own _ rfl _ _ 88 rfl (g + 1) 2 i0 _ 1 8 Tryd.underlying88 hi0 hz0 hz1' hz2' rfl (by decide) _ k _ rfl (HO4.out.alloc _) ⟨w4.heap.size, 0, none⟩ 1 1 [.int .i64 y] rfl rfl (new_cells _ _ #[_] rfl) (by intro u hu; simp at hu; rw [hu]; rfl) (by simp only [maxLen]; omega) (by omega) (by simp; omega) ?_)
        intro v' w5 hown5 hgr5 _
        have HI5 : Hid (NmI c w g (g + 1) (k + 1) v' w5) := Lib.hid ⟨(HR4.out.below ((Below.refl _ _).alloc (Nat.le_refl _) _)).kept hgr5 (fun e => own_low HO4.out (g := g) (by omega) e.symm), by rw [HTK.out]; exact hown5, (HB4.out.alloc (by omega) _).grown hgr5 (by simp; omega) (fun j hj => by have := own_base HO4.out j hj; omega)⟩
        have hlv5 : lenV v' = k + 1 := own_len HI5.out.o
        clear hown5 hgr5 HR4 HO4 HB4 HTK
        go_wp2_with fail
        go_roundw
        case rel => exact ⟨k + 1, by omega, HI5⟩
        case measure => show 6 - lenV v' < 6 - lenV u8; omega
      · obtain rfl : k = (jsOf c.k).length := by omega
        have hln : putJ c ((jsOf c.k).drop (jsOf c.k).length) = [] := by rw [List.drop_length]; rfl
        rw [hln] at HLF
        obtain ⟨Au, cu, hu⟩ := own_form HI.out.o
        subst hu
        have HO := Lib.hid HI.out.o
        have HB := Lib.hid HI.out.b
        clear HI hln HPD HGO
        go_wp2_with (go_at_call 42; refine HLF.out.mono ?_; rintro e wl ⟨rfl, hwl⟩; obtain rfl := hwl.symm)
        go_ret2
        rw [HE.out.1, HE.out.2]
        refine ⟨Au, cu, by rw [List.length_map]; rfl, ?_, HB.out⟩
        have h := Seg.of_own HO.out
        rw [List.take_length] at h
        exact h
  · have HE : Hid (wordS ⟨2, c, n⟩ = fuseW ∧ numsS ⟨2, c, n⟩ = [n]) := Lib.hid ⟨rfl, rfl⟩
    have c8 : (w.alloc (.cells #[.int .i64 2, .int .i64 c.k, .int .i64 c.i, .int .i64 c.m, .int .i64 c.o, .int .i64 c.s, .int .i64 c.q, .int .i64 c.p, .int .i64 n] TSt)).cell? ⟨w.heap.size, 8, none⟩ = some (.int .i64 n) := cell_new _ _ _ 8 rfl
    clear hr hw
    go_enter Tryd.func50, Tryd.ntmps50
    go_wp2_with fail
    generalize w.alloc (.cells #[.int .i64 2, .int .i64 c.k, .int .i64 c.i, .int .i64 c.m, .int .i64 c.o, .int .i64 c.s, .int .i64 c.q, .int .i64 c.p, .int .i64 n] TSt) = w0 at *
    have HBE : Hid (Below w.heap.size w (w0.alloc (.cells #[.int .i64 n] 2)).drew) := Lib.hid (HW0.out.alloc HW0.out.size _).drew
    have HSG : Hid (Seg (w0.alloc (.cells #[.int .i64 n] 2)).drew (w0.alloc (.cells #[.int .i64 n] 2)).drew.heap.size (some ⟨w0.heap.size, 0, none⟩) ([n].map (Value.int .i64))) := Lib.hid (seg_one n)
    go_region
    go_wp2_with fail
    go_ret2
    rw [HE.out.1, HE.out.2]
    exact ⟨some ⟨w0.heap.size, 0, none⟩, 1, rfl, HSG.out, HBE.out⟩
  · have HE : Hid (wordS ⟨3, c, n⟩ = crashW ∧ numsS ⟨3, c, n⟩ = [n]) := Lib.hid ⟨rfl, rfl⟩
    have c8 : (w.alloc (.cells #[.int .i64 3, .int .i64 c.k, .int .i64 c.i, .int .i64 c.m, .int .i64 c.o, .int .i64 c.s, .int .i64 c.q, .int .i64 c.p, .int .i64 n] TSt)).cell? ⟨w.heap.size, 8, none⟩ = some (.int .i64 n) := cell_new _ _ _ 8 rfl
    clear hr hw
    go_enter Tryd.func50, Tryd.ntmps50
    go_wp2_with fail
    generalize w.alloc (.cells #[.int .i64 3, .int .i64 c.k, .int .i64 c.i, .int .i64 c.m, .int .i64 c.o, .int .i64 c.s, .int .i64 c.q, .int .i64 c.p, .int .i64 n] TSt) = w0 at *
    have HBE : Hid (Below w.heap.size w (w0.alloc (.cells #[.int .i64 n] 2)).drew) := Lib.hid (HW0.out.alloc HW0.out.size _).drew
    have HSG : Hid (Seg (w0.alloc (.cells #[.int .i64 n] 2)).drew (w0.alloc (.cells #[.int .i64 n] 2)).drew.heap.size (some ⟨w0.heap.size, 0, none⟩) ([n].map (Value.int .i64))) := Lib.hid (seg_one n)
    go_region
    go_wp2_with fail
    go_ret2
    rw [HE.out.1, HE.out.2]
    exact ⟨some ⟨w0.heap.size, 0, none⟩, 1, rfl, HSG.out, HBE.out⟩
end Go.Proofs.YtmplokdbbhlomaaDoor
