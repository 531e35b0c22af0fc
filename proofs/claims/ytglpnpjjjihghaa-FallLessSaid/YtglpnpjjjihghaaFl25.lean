/-
  What complineref23.Less comes to, over this seat's translation: a contract for callers.
-/
import Derived.Test.YtglpnpjjjihghaaPreLaw
import Derived.Test.YtglpnpjjjihghaaFl13
import Derived.Test.YtglpnpjjjihghaaBel
namespace Go.Proofs.Ytglpnpjjjihghaa
open Go.RowKit

theorem polE_ok {p : Pol} (h : polB p = true) : p.co.length = p.fu.length ∧ p.co.length ≤ 16 ∧ AllOk p := by
  unfold polB at h
  simp only [Bool.and_eq_true, decide_eq_true_eq, List.all_eq_true] at h
  refine ⟨h.1, h.2.1, fun x hx => ?_⟩
  have := h.2.2 x hx
  unfold okN at this
  simp only [Bool.and_eq_true, decide_eq_true_eq] at this
  exact this
set_option maxRecDepth 100000 in
set_option maxHeartbeats 6400000 in
theorem rless_any (p : Pol) (l : List Dw) (A : Option Addr) (c : Nat) (w : World) (h : PolOk w p) (hc : p.co.length ≤ maxLen) (hs : Seg w w.heap.size A (dwRows l)) (hI : ∀ x ∈ l, I64 x.n) (hl : l.length ≤ 100000) :
    Calls Try.prog 29 #[p.val, .slice A l.length c] w fun e w' => e = .returned (.int .i64 (lessF p l).2) ∧ Below w.heap.size w w' := by
  have HB0 : Hid (Below w.heap.size w (w.alloc (.cells #[.slice p.Ac p.co.length p.cc, .slice p.Af p.fu.length p.cf, .int .i64 p.line, .int .i64 p.cap] 37))) := Lib.hid ((Below.refl _ _).alloc (Nat.le_refl _) _)
  have HX := Lib.hid fun j => cell_new w #[.slice p.Ac p.co.length p.cc, .slice p.Af p.fu.length p.cf, .int .i64 p.line, .int .i64 p.cap] 37 (b := w.heap.size) j rfl
  have hlt0 : w.heap.size < (w.alloc (.cells #[.slice p.Ac p.co.length p.cc, .slice p.Af p.fu.length p.cf, .int .i64 p.line, .int .i64 p.cap] 37)).heap.size := by simp
  have HR : Hid (∀ W, Below w.heap.size w W → Calls Try.prog 50 #[p.val] W fun e w' => e = .returned (.bool (polB p)) ∧ Below W.heap.size W w') := Lib.hid fun W hW => right23_any p W (h.below hW) hc
  have HTH : Hid (polB p = true → ∀ (k m : Int) W, Below w.heap.size w W → Calls Try.prog 21 #[p.val, .agg #[.int .i64 k, .int .i64 m]] W fun e w' => e = .returned (.int .i64 (thereV p k m)) ∧ Below W.heap.size W w') := Lib.hid fun hb k m W hW => there_any p k m W (h.below hW) (polE_ok hb).1.symm (by have := (polE_ok hb).2.1; omega)
  have HDN : Hid (∀ (n : Nat) (k m : Int) W, n ≤ l.length → Below w.heap.size w W → Calls Try.prog 20 #[.slice A l.length c, .int .i64 n, .agg #[.int .i64 k, .int .i64 m]] W fun e w' => e = .returned (.int .i64 (drwS (l.take n) k m)) ∧ Below W.heap.size W w') := Lib.hid fun n k m W hn hW => drawn_any l n k m A c W ((hs.below hW).mono hW.size) hl hn
  have HS := Lib.hid hs
  have HI := Lib.hid hI
  obtain ⟨rv, hrv⟩ : ∃ r, r = (lessF p l).2 := ⟨_, rfl⟩
  rw [← hrv]
  have HRV := Lib.hid hrv
  have HF1 : Hid (polB p = false → rv = 1) := Lib.hid fun hb => by
    rw [hrv]
    have e : polE p = 1 := by unfold polE; rw [hb]; rfl
    unfold lessF
    rw [if_pos (by rw [e]; decide), e]
  have HF2 : Hid (polB p = true → rv = (lsF p l).2) := Lib.hid fun hb => by
    rw [hrv]
    have e : polE p = 0 := by unfold polE; rw [hb]; rfl
    unfold lessF
    rw [if_neg (by rw [e]; decide)]
  clear h hs hI hrv hc
  unfold Pol.val at HR HTH
  unfold Pol.val
  go_enter Try.func29, Try.ntmps29
  go_wp2_with fail
  generalize w.alloc (.cells #[.slice p.Ac p.co.length p.cc, .slice p.Af p.fu.length p.cf, .int .i64 p.line, .int .i64 p.cap] 37) = w0 at *
  have HX0 : Hid (∀ W, Below w0.heap.size w0 W → W.cell? ⟨w.heap.size, 0, none⟩ = some (.slice p.Ac p.co.length p.cc) ∧ W.cell? ⟨w.heap.size, 1, none⟩ = some (.slice p.Af p.fu.length p.cf) ∧ W.cell? ⟨w.heap.size, 2, none⟩ = some (.int .i64 p.line) ∧ W.cell? ⟨w.heap.size, 3, none⟩ = some (.int .i64 p.cap)) := Lib.hid fun W hW => by
    have hk := fun j => (hW.cell (p := ⟨w.heap.size, j, none⟩) hlt0).trans (HX.out j)
    exact ⟨hk 0, hk 1, hk 2, hk 3⟩
  have HW0 : Hid (∀ W, Below w0.heap.size w0 W → Below w.heap.size w W) := Lib.hid fun W hW => HB0.out.trans (hW.mono (Nat.le_of_lt hlt0))
  have HTR : Hid (∀ W W', Below w0.heap.size w0 W → Below W.heap.size W W' → Below w0.heap.size w0 W') := Lib.hid fun W W' h h' => h.trans (h'.mono h.size)
  clear HX HB0
  refine (HR.out w0 (HW0.out _ (Below.refl _ _))).mono ?_
  rintro e w1 ⟨rfl, hb1⟩
  have HB1 : Hid (Below w0.heap.size w0 w1) := Lib.hid hb1
  clear hb1 HR
  cases hpb : polB p with
  | false =>
    have HE := Lib.hid (HF1.out hpb)
    clear HF1 HF2 HTH HDN HRV hpb
    go_wp2_with fail
    go_ret
    exact ⟨ret_int HE.out.symm, HW0.out _ HB1.out⟩
  | true =>
    have HE := Lib.hid (HF2.out hpb)
    have HTHb := Lib.hid (HTH.out hpb)
    have HPK := Lib.hid (polE_ok hpb)
    clear HF1 HF2 HTH HRV hpb
    go_wp2_with fail
    go_loopw [5] (fun i wr => ∃ (k : Nat) (q : Pol), k ≤ l.length ∧ i = .int .i64 k ∧ Hid (PreF p l k q) ∧ Hid (Below w0.heap.size w0 wr)) (fun i _ => l.length - (intOf i).toNat)
    case atStart => exact ⟨0, p, Nat.zero_le _, rfl, preF_zero l HPK.out.2.2 HPK.out.1.symm, HB1⟩
    case round =>
      obtain ⟨k, q, hk, rfl, HPF, HB⟩ := hrel
      obtain ⟨c0, c1, c2, c3⟩ := HX0.out wr HB.out
      have HBX := Lib.hid (HW0.out _ HB.out)
      by_cases hlt : k < l.length
      · obtain ⟨b, o, rfl, hb, d0, d1, d2⟩ := dw_at ((HS.out.below HBX.out).mono HBX.out.size) hlt
        have HNX := Lib.hid (HPF.out.next hlt)
        have HST := Lib.hid (fun h1 h2 h3 => HPF.out.step HPK.out.2.2 HPK.out.1.symm hlt h1 h2 h3)
        have hdr := HPF.out.dr l[k].k l[k].m
        have htt := there_top HPK.out.2.2 HPK.out.1.symm l[k].k l[k].m
        have hxI := HI.out l[k] (List.getElem_mem hlt)
        have hk0 : (0 : Int) ≤ (k : Int) := by omega
        have hkb : (k : Int) < (l.length : Int) := by omega
        have HT1 : Hid (∀ W, Below wr.heap.size wr W → Calls Try.prog 21 #[.agg #[.slice p.Ac p.co.length p.cc, .slice p.Af p.fu.length p.cf, .int .i64 p.line, .int .i64 p.cap], .agg #[.int .i64 l[k].k, .int .i64 l[k].m]] W fun e w' => e = .returned (.int .i64 (thereV p l[k].k l[k].m)) ∧ Below W.heap.size W w') := Lib.hid fun W hW => HTHb.out _ _ W (HW0.out _ (HTR.out _ _ HB.out hW))
        have HD1 : Hid (∀ W, Below w0.heap.size w0 W → Calls Try.prog 20 #[.slice (some ⟨b, o, none⟩) l.length c, .int .i64 k, .agg #[.int .i64 l[k].k, .int .i64 l[k].m]] W fun e w' => e = .returned (.int .i64 (drwS (l.take k) l[k].k l[k].m)) ∧ Below W.heap.size W w') := Lib.hid fun W hW => HDN.out k _ _ W (by omega) (HW0.out _ hW)
        have HRX : Hid (rv = (lsF p l).2) := HE
        generalize thereV p l[k].k l[k].m = tv at *
        generalize drwS (l.take k) l[k].k l[k].m = dv at *
        generalize hxk : l[k].k = xk at *
        generalize hxm : l[k].m = xm at *
        generalize hxn : l[k].n = xn at *
        clear hxk hxm hxn
        have hbW : b < wr.heap.size := hb
        have hxW : w.heap.size < wr.heap.size := by have := HB.out.size; omega
        have hbel := fun (n : Bel wr.heap.size wr) (b o : Nat) (hb : b < wr.heap.size) => n.cells b o hb
        go_wp2_with fail
        refine wp_region_bel wr.heap.size (by kernel_rfl) (by kernel_rfl) ?_
        repeat (go_big_quiet_step (first | (go_at_call 21; exact Calls.bel_of (Nat.le_refl _) (HT1.out _ (Bel.h _)))))
        refine wpQuiet_nil ?_
        intro _ hw'
        obtain ⟨nq, hw''⟩ := hw'
        subst hw''
        have HN : Hid (Below wr.heap.size wr nq.wd) := Lib.hid nq.h
        clear hbel HT1
        generalize nq.wd = w3 at *
        have HB3 := Lib.hid (HTR.out _ _ HB.out HN.out)
        have e0 := (HN.out.cell (p := ⟨b, o + k * 3, none⟩) hbW).trans d0
        have e1 := (HN.out.cell (p := ⟨b, o + k * 3 + 1, none⟩) hbW).trans d1
        have e2 := (HN.out.cell (p := ⟨b, o + k * 3 + 2, none⟩) hbW).trans d2
        have hb3 : b < w3.heap.size := Nat.lt_of_lt_of_le hbW HN.out.size
        clear d0 d1 d2 HN c0 c1 c2 c3
        by_cases ht : tv < 0
        · have hE : Hid (rv = 8) := Lib.hid (by rw [HRX.out, HNX.out, if_pos ht])
          have htd : decide (tv < 0) = true := decide_eq_true ht
          clear HNX HST HRX HE hdr
          go_wp2_with fail
          go_ret
          exact ⟨ret_int hE.out.symm, HW0.out _ HB3.out⟩
        · have htd : decide (tv < 0) = false := decide_eq_false ht
          have hdr := hdr (by omega)
          by_cases hn : xn < 0
          · have hE : Hid (rv = 1) := Lib.hid (by rw [HRX.out, HNX.out, if_neg ht, if_pos hn])
            have hnd : decide (xn < 0) = true := decide_eq_true hn
            clear HNX HST HRX HE
            go_wp2_with fail
            go_ret
            exact ⟨ret_int hE.out.symm, HW0.out _ HB3.out⟩
          · have hnd : decide (xn < 0) = false := decide_eq_false hn
            have hwd : IntKind.i64.wrap (tv - dv) = tv - dv := IntWalk.i64_in _ (by omega)
            have HD2 : Hid (∀ W, Below w3.heap.size w3 W → Calls Try.prog 20 #[.slice (some ⟨b, o, none⟩) l.length c, .int .i64 k, .agg #[.int .i64 xk, .int .i64 xm]] W fun e w' => e = .returned (.int .i64 dv) ∧ Below W.heap.size W w') := Lib.hid fun W hW => HD1.out W (HTR.out _ _ HB3.out hW)
            have hbel := fun (n : Bel w3.heap.size w3) (b o : Nat) (hb : b < w3.heap.size) => n.cells b o hb
            by_cases hm : tv - dv < xn
            · have hE : Hid (rv = 12) := Lib.hid (by rw [HRX.out, HNX.out, if_neg ht, if_neg hn, if_pos hm])
              have hmd : decide (tv - dv < xn) = true := decide_eq_true hm
              clear HNX HST HRX HE
              go_wp2_with fail
              refine wp_region_bel w3.heap.size (by kernel_rfl) (by kernel_rfl) ?_
              repeat (go_big_quiet_step (first | (go_at_call 20; exact Calls.bel_of (Nat.le_refl _) (HD2.out _ (Bel.h _)))))
              refine wpQuiet_nil ?_
              intro _ hw'
              obtain ⟨nr, hw''⟩ := hw'
              subst hw''
              have HN : Hid (Below w0.heap.size w0 nr.wd) := Lib.hid (HTR.out _ _ HB3.out nr.h)
              clear hbel
              go_wp2_with fail
              go_ret
              exact ⟨ret_int hE.out.symm, HW0.out _ HN.out⟩
            · have hmd : decide (tv - dv < xn) = false := decide_eq_false hm
              have HPN := Lib.hid (HST.out (by omega) (by omega) (by omega))
              clear HNX HST HRX
              go_wp2_with fail
              refine wp_region_bel w3.heap.size (by kernel_rfl) (by kernel_rfl) ?_
              repeat (go_big_quiet_step (first | (go_at_call 20; exact Calls.bel_of (Nat.le_refl _) (HD2.out _ (Bel.h _)))))
              refine wpQuiet_nil ?_
              intro _ hw'
              obtain ⟨nr, hw''⟩ := hw'
              subst hw''
              have HN : Hid (Below w0.heap.size w0 nr.wd) := Lib.hid (HTR.out _ _ HB3.out nr.h)
              clear hbel
              go_wp2_with fail
              go_roundw
              case rel => exact ⟨k + 1, _, by omega, by go_num, HPN, HN⟩
              case measure => simp [intOf]; omega
      · obtain rfl : k = l.length := by omega
        have hE : Hid (rv = 0) := Lib.hid (by rw [HE.out, HPF.out.ls, List.drop_length]; rfl)
        go_wp2_with fail
        go_ret
        exact ⟨ret_int hE.out.symm, HBX.out⟩
end Go.Proofs.Ytglpnpjjjihghaa
