/-
  What fall.Less comes to, over this seat's translation: a contract for callers.
-/
import Derived.Test.YtglpnpjjjihghaaFl22
import Derived.Test.YtglpnpjjjihghaaBndLaw
import Derived.Test.YtglpnpjjjihghaaAl2
import Derived.Deep.CutRange
import Derived.Deep.QuietTactic
import Derived.BigQuiet
namespace Go.Proofs.Ytglpnpjjjihghaa
open Go.RowKit

/-- A pool and an error have come back. -/
def GotLs (q : Pol) (err : Int) (w : World) (e : Ending) (w' : World) : Prop := ∃ A1 d1 A2 d2, e = .returned (.tuple #[.agg #[.slice A1 q.co.length d1, .slice A2 q.fu.length d2, .int .i64 q.line, .int .i64 q.cap], .int .i64 err]) ∧ PolOk w' ⟨q.co, A1, d1, q.fu, A2, d2, q.line, q.cap⟩ ∧ Below w.heap.size w w'
theorem GotLs.no {w w' : World} {err : Int} (h : Below w.heap.size w w') : GotLs noP err w (.returned (.tuple #[.agg #[.slice none 0 0, .slice none 0 0, .int .i64 0, .int .i64 0], .int .i64 err])) w' :=
  ⟨none, 0, none, 0, rfl, ⟨⟨Seg.nil, fun _ => ⟨rfl, rfl⟩⟩, ⟨Seg.nil, fun _ => ⟨rfl, rfl⟩⟩⟩, h⟩
theorem polE_fit {p : Pol} (h : polE p = 0) : p.co.length = p.fu.length ∧ p.co.length ≤ 16 ∧ AllOk p := by
  unfold polE at h
  by_cases hb : polB p = true
  · unfold polB at hb
    simp only [Bool.and_eq_true, decide_eq_true_eq, List.all_eq_true] at hb
    refine ⟨hb.1, hb.2.1, fun x hx => ?_⟩
    have := hb.2.2 x hx
    unfold okN at this
    simp only [Bool.and_eq_true, decide_eq_true_eq] at this
    exact this
  · rw [if_neg hb] at h
    cases h
set_option maxRecDepth 100000 in
set_option maxHeartbeats 6400000 in
theorem less_any (p : Pol) (l : List Dw) (A : Option Addr) (c : Nat) (w : World) (h : PolOk w p) (hc : p.co.length ≤ maxLen) (hs : Seg w w.heap.size A (dwRows l)) (hI : ∀ x ∈ l, I64 x.n) (hl : l.length ≤ 100000) :
    Calls Try.prog 28 #[p.val, .slice A l.length c] w (GotLs (lessF p l).1 (lessF p l).2 w) := by
  have HB0 : Hid (Below w.heap.size w ((w.alloc (.cells #[.slice p.Ac p.co.length p.cc, .slice p.Af p.fu.length p.cf, .int .i64 p.line, .int .i64 p.cap] 37)).alloc (.cells #[.slice none 0 0, .slice none 0 0, .int .i64 0, .int .i64 0] 37))) := Lib.hid (((Below.refl _ _).alloc (Nat.le_refl _) _).alloc (by simp) _)
  have HCK : Hid (∀ W, Below w.heap.size w W → Calls Try.prog 24 #[p.val] W fun e w' => e = .returned (.int .i64 (polE p)) ∧ Below W.heap.size W w') := Lib.hid fun W hW => pcheck_any p W (h.below hW) hc
  have HP := Lib.hid h
  have HS := Lib.hid hs
  have HI := Lib.hid hI
  have HX : Hid ((∀ j, ((w.alloc (.cells #[.slice p.Ac p.co.length p.cc, .slice p.Af p.fu.length p.cf, .int .i64 p.line, .int .i64 p.cap] 37)).alloc (.cells #[.slice none 0 0, .slice none 0 0, .int .i64 0, .int .i64 0] 37)).cell? ⟨w.heap.size, j, none⟩ = (#[.slice p.Ac p.co.length p.cc, .slice p.Af p.fu.length p.cf, .int .i64 p.line, .int .i64 p.cap] : Array Value)[j]?) ∧ (∀ j, ((w.alloc (.cells #[.slice p.Ac p.co.length p.cc, .slice p.Af p.fu.length p.cf, .int .i64 p.line, .int .i64 p.cap] 37)).alloc (.cells #[.slice none 0 0, .slice none 0 0, .int .i64 0, .int .i64 0] 37)).cell? ⟨w.heap.size + 1, j, none⟩ = (#[.slice none 0 0, .slice none 0 0, .int .i64 0, .int .i64 0] : Array Value)[j]?)) := Lib.hid ⟨fun j => (cell_old _ _ _ (by simp)).trans (cell_new _ _ _ j rfl), fun j => cell_new _ _ _ j (by simp)⟩
  have HFZ : Hid ((∀ j, ((w.alloc (.cells #[.slice p.Ac p.co.length p.cc, .slice p.Af p.fu.length p.cf, .int .i64 p.line, .int .i64 p.cap] 37)).alloc (.cells #[.slice none 0 0, .slice none 0 0, .int .i64 0, .int .i64 0] 37)).frozen? ⟨w.heap.size, j, none⟩ = false) ∧ (∀ j, ((w.alloc (.cells #[.slice p.Ac p.co.length p.cc, .slice p.Af p.fu.length p.cf, .int .i64 p.line, .int .i64 p.cap] 37)).alloc (.cells #[.slice none 0 0, .slice none 0 0, .int .i64 0, .int .i64 0] 37)).frozen? ⟨w.heap.size + 1, j, none⟩ = false)) := Lib.hid ⟨fun j => by go_simp, fun j => by go_simp⟩
  have hz0 : ((w.alloc (.cells #[.slice p.Ac p.co.length p.cc, .slice p.Af p.fu.length p.cf, .int .i64 p.line, .int .i64 p.cap] 37)).alloc (.cells #[.slice none 0 0, .slice none 0 0, .int .i64 0, .int .i64 0] 37)).heap.size = w.heap.size + 2 := by simp
  clear h hs hI
  unfold Pol.val at HCK
  unfold Pol.val
  go_enter Try.func28, Try.ntmps28
  go_wp2_with fail
  generalize (w.alloc (.cells #[.slice p.Ac p.co.length p.cc, .slice p.Af p.fu.length p.cf, .int .i64 p.line, .int .i64 p.cap] 37)).alloc (.cells #[.slice none 0 0, .slice none 0 0, .int .i64 0, .int .i64 0] 37) = w0 at *
  have HX0 : Hid (∀ W, Below w0.heap.size w0 W → W.cell? ⟨w.heap.size, 0, none⟩ = some (.slice p.Ac p.co.length p.cc) ∧ W.cell? ⟨w.heap.size, 1, none⟩ = some (.slice p.Af p.fu.length p.cf) ∧ W.cell? ⟨w.heap.size, 2, none⟩ = some (.int .i64 p.line) ∧ W.cell? ⟨w.heap.size, 3, none⟩ = some (.int .i64 p.cap) ∧ (∀ j, W.frozen? ⟨w.heap.size, j, none⟩ = false)) := Lib.hid fun W hW => by
    have hk := fun j => (hW.cell (p := ⟨w.heap.size, j, none⟩) (by show w.heap.size < w0.heap.size; omega)).trans (HX.out.1 j)
    exact ⟨hk 0, hk 1, hk 2, hk 3, fun j => (hW.frozen (p := ⟨w.heap.size, j, none⟩) (by show w.heap.size < w0.heap.size; omega)).trans (HFZ.out.1 j)⟩
  have HR0 : Hid (∀ W, Below w0.heap.size w0 W → W.cell? ⟨w.heap.size + 1, 0, none⟩ = some (.slice none 0 0) ∧ W.cell? ⟨w.heap.size + 1, 1, none⟩ = some (.slice none 0 0) ∧ W.cell? ⟨w.heap.size + 1, 2, none⟩ = some (.int .i64 0) ∧ W.cell? ⟨w.heap.size + 1, 3, none⟩ = some (.int .i64 0) ∧ (∀ j, W.frozen? ⟨w.heap.size + 1, j, none⟩ = false)) := Lib.hid fun W hW => by
    have hk := fun j => (hW.cell (p := ⟨w.heap.size + 1, j, none⟩) (by show w.heap.size + 1 < w0.heap.size; omega)).trans (HX.out.2 j)
    exact ⟨hk 0, hk 1, hk 2, hk 3, fun j => (hW.frozen (p := ⟨w.heap.size + 1, j, none⟩) (by show w.heap.size + 1 < w0.heap.size; omega)).trans (HFZ.out.2 j)⟩
  clear HX HFZ
  refine (HCK.out w0 HB0.out).mono ?_
  rintro e w1 ⟨rfl, hb1⟩
  have HB1 := Lib.hid hb1
  have hz1 := hb1.size
  clear hb1 HCK
  obtain ⟨r0, r1, r2, r3, g⟩ := HR0.out w1 HB1.out
  by_cases hce : polE p = 0
  case neg =>
    have HE : Hid (lessF p l = (noP, polE p)) := Lib.hid (by unfold lessF; rw [if_pos hce])
    have hcb : (polE p != 0) = true := by simpa using hce
    generalize polE p = ce at *
    go_wp2_with fail
    obtain ⟨q0, q1, q2, q3⟩ := four_cells (.slice none 0 0) (.slice none 0 0) (.int .i64 0) (.int .i64 0) r0 r1 r2 r3
    have HBX := Lib.hid (below_four (b := w.heap.size + 1) (HB0.out.trans (HB1.out.mono (by omega))) (by omega) (.slice none 0 0) (.slice none 0 0) (.int .i64 0) (.int .i64 0))
    generalize (((w1.setCell ⟨w.heap.size + 1, 0, none⟩ (.slice none 0 0)).setCell ⟨w.heap.size + 1, 1, none⟩ (.slice none 0 0)).setCell ⟨w.heap.size + 1, 2, none⟩ (.int .i64 0)).setCell ⟨w.heap.size + 1, 3, none⟩ (.int .i64 0) = w5 at *
    refine bodyPost_ret (v := .tuple #[.agg #[.slice none 0 0, .slice none 0 0, .int .i64 0, .int .i64 0], .int .i64 ce]) (by simp [results, Try.results28, go_sem, q0, q1, q2, q3]) rfl ?_
    rw [HE.out]
    exact GotLs.no HBX.out
  have HE : Hid (lessF p l = lsF p l) := Lib.hid (by unfold lessF; rw [if_neg (by omega)])
  obtain ⟨c0, c1, c2, c3, f⟩ := HX0.out w1 HB1.out
  have HPE := Lib.hid (polE_fit hce)
  have hb1 : p.co.length ≤ 16 := HPE.out.2.1
  have hb2 : p.fu.length ≤ 16 := by have := HPE.out.1; omega
  have hw1 : w.heap.size < w1.heap.size := by omega
  have HCL1 : Hid (∀ W, Below w1.heap.size w1 W → Calls Try.prog 54 #[.slice p.Ac p.co.length p.cc] W (CloneO p.co W)) := Lib.hid fun W hW => cloneO_any p.co p.Ac p.cc W (by omega) (HP.out.below (HB0.out.trans ((HB1.out.trans (hW.mono hz1)).mono (by omega)))).c.seg
  have HCL2 : Hid (∀ W, Below w1.heap.size w1 W → Calls Try.prog 54 #[.slice p.Af p.fu.length p.cf] W (CloneO p.fu W)) := Lib.hid fun W hW => cloneO_any p.fu p.Af p.cf W (by omega) (HP.out.below (HB0.out.trans ((HB1.out.trans (hW.mono hz1)).mono (by omega)))).f.seg
  rw [hce]
  go_wp2_with fail
  go_cut [] from 16 to 23 (fun W => ∃ A1 d1 A2 d2, Hid (LsI w w1.heap.size w.heap.size (w.heap.size + 1) A1 A2 d1 d2 p W))
  case first =>
    go_region_with (go_at_call 54; first | (refine (HCL1.out _ (by first | exact (Below.refl _ _).drew | exact (Below.refl _ _) | exact HBL.out.drew | exact HBL.out)).mono ?_; rintro e wx ⟨Ax, dx, rfl, hox, hbx⟩; have HOA : Hid (wx.ownsRow w1.heap.size 2 1 (.slice Ax p.co.length dx) p.co.length (p.co.map (Value.int .i64))) := Lib.hid (own_weak hox (by first | exact Nat.le_refl _ | exact HBL.out.size)); have HFA : Hid (∀ k, (Value.slice Ax p.co.length dx).ownBlock = some k → _ ≤ k ∧ k < wx.heap.size) := Lib.hid (fun k hk => hox.lt k hk); have HBL : Hid (Below w1.heap.size w1 wx) := Lib.hid (by first | exact (Below.refl _ _).drew.trans hbx | exact HBL.out.trans (hbx.mono HBL.out.size)); have hcx0 := (HBL.out.cell (p := ⟨w.heap.size, 0, none⟩) hw1).trans c0; have hcx1 := (HBL.out.cell (p := ⟨w.heap.size, 1, none⟩) hw1).trans c1; have hfx := fun j => (HBL.out.frozen (p := ⟨w.heap.size, j, none⟩) hw1).trans (f j); have HBX : Hid (Below _ _ wx) := Lib.hid hbx; clear hox hbx) | (refine (HCL2.out _ (by first | exact (Below.refl _ _).drew | exact (Below.refl _ _) | exact HBL.out.drew | exact HBL.out)).mono ?_; rintro e wx ⟨Ay, dy, rfl, hox, hbx⟩; have HOB : Hid (wx.ownsRow w1.heap.size 2 1 (.slice Ay p.fu.length dy) p.fu.length (p.fu.map (Value.int .i64))) := Lib.hid (own_weak hox (by first | exact Nat.le_refl _ | exact HBL.out.size)); have HFB : Hid (∀ k, (Value.slice Ay p.fu.length dy).ownBlock = some k → _ ≤ k ∧ k < wx.heap.size) := Lib.hid (fun k hk => hox.lt k hk); have HBL : Hid (Below w1.heap.size w1 wx) := Lib.hid (by first | exact (Below.refl _ _).drew.trans hbx | exact HBL.out.trans (hbx.mono HBL.out.size)); have hcx0 := (HBL.out.cell (p := ⟨w.heap.size, 0, none⟩) hw1).trans c0; have hcx1 := (HBL.out.cell (p := ⟨w.heap.size, 1, none⟩) hw1).trans c1; have hfx := fun j => (HBL.out.frozen (p := ⟨w.heap.size, j, none⟩) hw1).trans (f j); have HBX : Hid (Below _ _ wx) := Lib.hid hbx; clear hox hbx))
    all_goals
      have hA : wx.ownsRow w1.heap.size 2 1 (.slice Ax p.co.length dx) p.co.length (p.co.map (Value.int .i64)) := by first | exact HOA.out | exact own_below HOA.out ⟨HBX.out.os, HBX.out.tape, HBX.out.output, HBX.out.size, HBX.out.block⟩
      have hB : wx.ownsRow w1.heap.size 2 1 (.slice Ay p.fu.length dy) p.fu.length (p.fu.map (Value.int .i64)) := by first | exact HOB.out | exact own_below HOB.out ⟨HBX.out.os, HBX.out.tape, HBX.out.output, HBX.out.size, HBX.out.block⟩
      have hne : ∀ k, (Value.slice Ax p.co.length dx).ownBlock = some k → (Value.slice Ay p.fu.length dy).ownBlock = some k → False := fun k h1 h2 => by first | exact absurd (HFB.out k h2).1 (Nat.not_le.2 (HFA.out k h1).2) | exact absurd (HFA.out k h1).1 (Nat.not_le.2 (HFB.out k h2).2)
      have HLS := Lib.hid (LsI.start (w := w) hA hB hne HBL.out c0 c1 c2 c3 f r0 r1 r2 r3 g hw1 (by omega) (by omega) (Nat.le_refl _) (HB0.out.trans (HB1.out.mono (by omega))))
      clear hA hB hne
      go_wp2_with fail
      go_meet
      case rel => exact ⟨_, _, _, _, HLS⟩
  case rest =>
    obtain ⟨A1, d1, A2, d2, HLS⟩ := hcut
    have HLP := Lib.hid HPE.out.1
    clear HCL1 HCL2 HX0 HR0 HP r0 r1 r2 r3 g c0 c1 c2 c3 f HB1
    go_wp2_with fail
    go_loopw [26] (fun i wr => ∃ (k : Nat) (q : Pol), k ≤ l.length ∧ i = .int .i64 k ∧ Hid (LsI w w1.heap.size w.heap.size (w.heap.size + 1) A1 A2 d1 d2 q wr) ∧ Hid (lsF p l = lsF q (l.drop k) ∧ AllOk q ∧ q.fu.length = q.co.length ∧ q.co.length ≤ 16)) (fun i _ => l.length - (intOf i).toNat)
    case atStart => exact ⟨0, p, Nat.zero_le _, rfl, HLS, ⟨rfl, HPE.out.2.2, HPE.out.1.symm, HPE.out.2.1⟩⟩
    case round =>
      obtain ⟨k, q, hk, rfl, HL, HQ⟩ := hrel
      by_cases hlt : k < l.length
      · obtain ⟨b, o, rfl, hb, e0, e1, e2⟩ := dw_at (HS.out.below HL.out.b) hlt
        have hxI := HI.out l[k] (List.getElem_mem hlt)
        have HDR := Lib.hid (List.drop_eq_getElem_cons hlt)
        obtain ⟨x, hx⟩ : ∃ x, x = l[k] := ⟨_, rfl⟩
        rw [← hx] at e0 e1 e2 hxI HDR
        clear hx
        have hk0 : (0 : Int) ≤ (k : Int) := by omega
        have hkb : (k : Int) < (l.length : Int) := by omega
        go_wp2_with fail
        have HLX : Hid (LsI w w1.heap.size w.heap.size (w.heap.size + 1) A1 A2 d1 d2 q (wr.alloc (.cells #[.int .i64 x.k, .int .i64 x.m, .int .i64 x.n] 47))) := Lib.hid (HL.out.below ((Below.refl _ _).alloc (Nat.le_refl _) _))
        have x0 : (wr.alloc (.cells #[.int .i64 x.k, .int .i64 x.m, .int .i64 x.n] 47)).cell? ⟨wr.heap.size, 0, none⟩ = some (.int .i64 x.k) := by rw [cell_new _ _ _ _ rfl]; rfl
        have x1 : (wr.alloc (.cells #[.int .i64 x.k, .int .i64 x.m, .int .i64 x.n] 47)).cell? ⟨wr.heap.size, 1, none⟩ = some (.int .i64 x.m) := by rw [cell_new _ _ _ _ rfl]; rfl
        have x2 : (wr.alloc (.cells #[.int .i64 x.k, .int .i64 x.m, .int .i64 x.n] 47)).cell? ⟨wr.heap.size, 2, none⟩ = some (.int .i64 x.n) := by rw [cell_new _ _ _ _ rfl]; rfl
        have hxz : wr.heap.size < (wr.alloc (.cells #[.int .i64 x.k, .int .i64 x.m, .int .i64 x.n] 47)).heap.size := by simp
        generalize wr.alloc (.cells #[.int .i64 x.k, .int .i64 x.m, .int .i64 x.n] 47) = wx at *
        generalize wr.heap.size = bx at *
        obtain ⟨hlf, hall, hfl, hq16⟩ := HQ.out
        have HLF : Hid (lsF p l = lsF q (x :: l.drop (k + 1))) := Lib.hid (by rw [hlf, HDR.out])
        have HALL := Lib.hid hall
        have HFL := Lib.hid hfl
        have hf1 : q.fu.length ≤ q.co.length := Nat.le_of_eq hfl
        have hf2 : q.co.length ≤ q.fu.length := Nat.le_of_eq hfl.symm
        clear hlf hall hfl HQ HDR HL e0 e1 e2
        obtain ⟨g1, hA1⟩ : ∃ g1, 0 < q.co.length → A1 = some ⟨g1, 0, none⟩ := by
          by_cases h0 : 0 < q.co.length
          · obtain ⟨g, hg, _⟩ := own_at HLX.out.o1 h0
            exact ⟨g, fun _ => hg⟩
          · exact ⟨0, fun h => absurd h h0⟩
        obtain ⟨g2, hA2⟩ : ∃ g2, 0 < q.co.length → A2 = some ⟨g2, 0, none⟩ := by
          by_cases h0 : 0 < q.co.length
          · obtain ⟨g, hg, _⟩ := own_at HLX.out.o2 (by omega)
            exact ⟨g, fun _ => hg⟩
          · exact ⟨0, fun h => absurd h h0⟩
        have HPL := Lib.hid (place_any w.heap.size q.co.length q.fu.length g1 0 g2 0 A1 A2 d1 d2 x.k x.m wx HLX.out.c0 HLX.out.c1 (Nat.lt_of_lt_of_le HLX.out.lp HLX.out.sz) hf1 hf2 (by omega) hA1 hA2)
        refine HPL.out.mono ?_
        rintro e w2 ⟨rfl, hb2⟩
        have HL2 := Lib.hid (HLX.out.below hb2)
        have y0 := (hb2.cell (p := ⟨bx, 0, none⟩) hxz).trans x0
        have y1 := (hb2.cell (p := ⟨bx, 1, none⟩) hxz).trans x1
        have y2 := (hb2.cell (p := ⟨bx, 2, none⟩) hxz).trans x2
        have hxz2 : bx < w2.heap.size := Nat.lt_of_lt_of_le hxz hb2.size
        clear hb2 x0 x1 x2 HLX HPL hxz
        by_cases ht : thereV q x.k x.m < 0
        · have hpn := plc_none (bp := w.heap.size) (g1 := g1) (g2 := g2) ht HALL.out HFL.out
          rw [hpn]
          have HLE : Hid (lsF p l = (noP, 8)) := Lib.hid (by rw [HLF.out]; unfold lsF; rw [if_pos ht])
          clear hpn HLF hA1 hA2
          obtain ⟨c0, c1, c2, c3, f, r0, r1, r2, r3, g, -⟩ := HL2.out
          have hbr : w.heap.size ≤ w.heap.size + 1 := Nat.le_succ _
          go_wp2_with fail
          obtain ⟨q0, q1, q2, q3⟩ := four_cells (.slice none 0 0) (.slice none 0 0) (.int .i64 0) (.int .i64 0) r0 r1 r2 r3
          have HBX := Lib.hid (below_four HL2.out.b hbr (.slice none 0 0) (.slice none 0 0) (.int .i64 0) (.int .i64 0))
          generalize (((w2.setCell ⟨w.heap.size + 1, 0, none⟩ (.slice none 0 0)).setCell ⟨w.heap.size + 1, 1, none⟩ (.slice none 0 0)).setCell ⟨w.heap.size + 1, 2, none⟩ (.int .i64 0)).setCell ⟨w.heap.size + 1, 3, none⟩ (.int .i64 0) = w5 at *
          refine bodyPost_ret (v := .tuple #[.agg #[.slice none 0 0, .slice none 0 0, .int .i64 0, .int .i64 0], .int .i64 8]) (by simp [results, Try.results28, go_sem, q0, q1, q2, q3]) rfl ?_
          rw [HE.out, HLE.out]
          exact GotLs.no HBX.out
        · obtain ⟨⟨ga, oa, sa⟩, hsp, hpl, hca, hfa, hba, hset⟩ := HL2.out.place hA1 hA2 HFL.out (by omega : 0 ≤ thereV q x.k x.m)
          obtain rfl : sa = none := hsp
          rw [hpl]
          have HSET := Lib.hid hset
          clear hpl hset hA1 hA2
          have htm := there_max HALL.out HFL.out (k := x.k) (m := x.m)
          by_cases hn : x.n < 0
          · have HLE : Hid (lsF p l = (noP, 1)) := Lib.hid (by rw [HLF.out]; unfold lsF; rw [if_neg ht, if_pos hn])
            have hnd : decide (x.n < 0) = true := decide_eq_true hn
            clear HLF HSET
            obtain ⟨c0, c1, c2, c3, f, r0, r1, r2, r3, g, -⟩ := HL2.out
            have hbr : w.heap.size ≤ w.heap.size + 1 := Nat.le_succ _
            go_wp2_with fail
            obtain ⟨q0, q1, q2, q3⟩ := four_cells (.slice none 0 0) (.slice none 0 0) (.int .i64 0) (.int .i64 0) r0 r1 r2 r3
            have HBX := Lib.hid (below_four HL2.out.b hbr (.slice none 0 0) (.slice none 0 0) (.int .i64 0) (.int .i64 0))
            generalize (((w2.setCell ⟨w.heap.size + 1, 0, none⟩ (.slice none 0 0)).setCell ⟨w.heap.size + 1, 1, none⟩ (.slice none 0 0)).setCell ⟨w.heap.size + 1, 2, none⟩ (.int .i64 0)).setCell ⟨w.heap.size + 1, 3, none⟩ (.int .i64 0) = w5 at *
            refine bodyPost_ret (v := .tuple #[.agg #[.slice none 0 0, .slice none 0 0, .int .i64 0, .int .i64 0], .int .i64 1]) (by simp [results, Try.results28, go_sem, q0, q1, q2, q3]) rfl ?_
            rw [HE.out, HLE.out]
            exact GotLs.no HBX.out
          · have hnd : decide (x.n < 0) = false := decide_eq_false hn
            have hov : ovV x.n (thereV q x.k x.m) = max (x.n - thereV q x.k x.m) 0 := ov_pos (by omega) (by omega) hxI
            have HOV := Lib.hid hov
            clear hov
            generalize hth : thereV q x.k x.m = th at *
            have HOA := Lib.hid fun W => (over_any x.n th W hxI (by unfold I64; omega)).mono fun e w' (h : _ ∧ _) => (⟨h.1, h.2.symm⟩ : e = _ ∧ w' = W)
            by_cases hm : th < x.n
            · have HLE : Hid (lsF p l = (noP, 12)) := Lib.hid (by rw [HLF.out]; unfold lsF; rw [hth, if_neg ht, if_neg hn, if_pos hm])
              have hmd : decide ((0 : Int) < ovV x.n th) = true := decide_eq_true (by rw [HOV.out]; omega)
              clear HLF HSET hth HOV
              generalize ovV x.n th = ov at *
              go_wp2_with fail
              go_quiet ((go_at_call 56; exact Calls.quiet_of_same (HOA.out _)))
              have HL3 := Lib.hid (HL2.out.below (below_drewN (Below.refl _ _) nq))
              have z2 : (w2.drewN nq).cell? ⟨bx, 2, none⟩ = some (.int .i64 x.n) := y2
              have hcb : (w2.drewN nq).cell? ⟨ga, oa, none⟩ = some (.int .i64 th) := hca
              have hfb : (w2.drewN nq).frozen? ⟨ga, oa, none⟩ = false := hfa
              have HB3 : Hid (Below w2.heap.size w2 (w2.drewN nq)) := Lib.hid (below_drewN (Below.refl _ _) nq)
              clear y0 y1 y2 hca hfa HL2
              generalize w2.drewN nq = w3 at *
              obtain ⟨c0, c1, c2, c3, f, r0, r1, r2, r3, g, -⟩ := HL3.out
              have hbr : w.heap.size ≤ w.heap.size + 1 := Nat.le_succ _
              go_wp2_with fail
              obtain ⟨q0, q1, q2, q3⟩ := four_cells (.slice none 0 0) (.slice none 0 0) (.int .i64 0) (.int .i64 0) r0 r1 r2 r3
              have HBX := Lib.hid (below_four HL3.out.b hbr (.slice none 0 0) (.slice none 0 0) (.int .i64 0) (.int .i64 0))
              generalize (((w3.setCell ⟨w.heap.size + 1, 0, none⟩ (.slice none 0 0)).setCell ⟨w.heap.size + 1, 1, none⟩ (.slice none 0 0)).setCell ⟨w.heap.size + 1, 2, none⟩ (.int .i64 0)).setCell ⟨w.heap.size + 1, 3, none⟩ (.int .i64 0) = w5 at *
              refine bodyPost_ret (v := .tuple #[.agg #[.slice none 0 0, .slice none 0 0, .int .i64 0, .int .i64 0], .int .i64 12]) (by simp [results, Try.results28, go_sem, q0, q1, q2, q3]) rfl ?_
              rw [HE.out, HLE.out]
              exact GotLs.no HBX.out
            · have HLE : Hid (lsF p l = lsF (subP q x) (l.drop (k + 1))) := Lib.hid (by rw [HLF.out]; rw [lsF, hth, if_neg ht, if_neg hn, if_neg hm])
              have hmd : decide ((0 : Int) < ovV x.n th) = false := decide_eq_false (by rw [HOV.out]; omega)
              have HAS := Lib.hid (allOk_sub HFL.out HALL.out (x := x) (by rw [hth]; omega))
              have HLN := Lib.hid (subP_len q x)
              have hws : IntKind.i64.wrap (th - x.n) = th - x.n := IntWalk.i64_in _ (by omega)
              clear HLF HOV hth
              generalize ovV x.n th = ov at *
              go_wp2_with fail
              go_quiet ((go_at_call 56; exact Calls.quiet_of_same (HOA.out _)))
              have HL3 := Lib.hid (HL2.out.below (below_drewN (Below.refl _ _) nq))
              have z2 : (w2.drewN nq).cell? ⟨bx, 2, none⟩ = some (.int .i64 x.n) := y2
              have hcb : (w2.drewN nq).cell? ⟨ga, oa, none⟩ = some (.int .i64 th) := hca
              have hfb : (w2.drewN nq).frozen? ⟨ga, oa, none⟩ = false := hfa
              have HB3 : Hid (Below w2.heap.size w2 (w2.drewN nq)) := Lib.hid (below_drewN (Below.refl _ _) nq)
              clear y0 y1 y2 hca hfa HL2
              generalize w2.drewN nq = w3 at *
              go_wp2_with fail
              go_region
              have HL4 : Hid (LsI w w1.heap.size w.heap.size (w.heap.size + 1) A1 A2 d1 d2 (subP q x) (w3.setCell ⟨ga, oa, none⟩ (.int .i64 (th - x.n))).drew) := Lib.hid ((HSET.out x.n w3 HB3.out).below ((Below.refl _ _).drew))
              clear HSET HL3 z2 hcb hfb HB3
              generalize (w3.setCell ⟨ga, oa, none⟩ (.int .i64 (th - x.n))).drew = w4 at *
              go_wp2_with fail
              go_roundw
              case rel => exact ⟨k + 1, subP q x, by omega, by go_num, HL4, ⟨HLE.out, HAS.out, by rw [HLN.out.1, HLN.out.2]; exact HFL.out, by rw [HLN.out.1]; exact hq16⟩⟩
              case measure => simp [intOf]; omega
      · obtain rfl : k = l.length := by omega
        obtain ⟨hlf, -, -, -⟩ := HQ.out
        have HLE : Hid (lsF p l = (q, 0)) := Lib.hid (by rw [hlf, List.drop_length]; rfl)
        obtain ⟨c0, c1, c2, c3, f, r0, r1, r2, r3, g, -⟩ := HL.out
        have hbr : w.heap.size ≤ w.heap.size + 1 := Nat.le_succ _
        clear hlf HQ
        go_wp2_with fail
        obtain ⟨q0, q1, q2, q3⟩ := four_cells (.slice A1 q.co.length d1) (.slice A2 q.fu.length d2) (.int .i64 q.line) (.int .i64 q.cap) r0 r1 r2 r3
        have HBX := Lib.hid (below_four HL.out.b hbr (.slice A1 q.co.length d1) (.slice A2 q.fu.length d2) (.int .i64 q.line) (.int .i64 q.cap))
        have HPX := Lib.hid (HL.out.pol (.slice A1 q.co.length d1) (.slice A2 q.fu.length d2) (.int .i64 q.line) (.int .i64 q.cap))
        generalize (((wr.setCell ⟨w.heap.size + 1, 0, none⟩ (.slice A1 q.co.length d1)).setCell ⟨w.heap.size + 1, 1, none⟩ (.slice A2 q.fu.length d2)).setCell ⟨w.heap.size + 1, 2, none⟩ (.int .i64 q.line)).setCell ⟨w.heap.size + 1, 3, none⟩ (.int .i64 q.cap) = w5 at *
        refine bodyPost_ret (v := .tuple #[.agg #[.slice A1 q.co.length d1, .slice A2 q.fu.length d2, .int .i64 q.line, .int .i64 q.cap], .int .i64 0]) (by simp [results, Try.results28, go_sem, q0, q1, q2, q3]) rfl ?_
        rw [HE.out, HLE.out]
        exact ⟨A1, d1, A2, d2, rfl, HPX.out, HBX.out⟩
end Go.Proofs.Ytglpnpjjjihghaa
