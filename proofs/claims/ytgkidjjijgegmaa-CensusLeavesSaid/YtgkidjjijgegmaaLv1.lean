/-
  What census.Left comes to, over this seat's translation: a contract for callers. (Printed by gen_lv1.py.)
-/
import Derived.Test.YtgkidjjijgegmaaLvLaw
import Derived.Test.YtgkidjjijgegmaaRegLast
import Derived.Test.YtgkidjjijgegmaaCW7
import Derived.Test.YtgkidjjijgegmaaCW8
import Derived.Deep.AppendLies
import Derived.Deep.CutRange
namespace Go.Proofs.Ytgkidjjijgegmaa
open Go.RowKit

def updN {α : Type} (f : Nat → α) (a : Nat) (v : α) : Nat → α := fun j => if j = a then v else f j
theorem updN_same {α : Type} (f : Nat → α) (a : Nat) (v : α) : updN f a v a = v := if_pos rfl
theorem updN_ne {α : Type} (f : Nat → α) {a j : Nat} (v : α) (h : j ≠ a) : updN f a v j = f j := if_neg h
theorem grown_none {w W : World} (h : Below w.heap.size w W) (r : Option Nat) : w.grownBy W r := ⟨h.os, h.tape, h.output, h.size, fun k hk _ => h.block k hk⟩
theorem grown_step {w W W' : World} {r r' : Option Nat} (h : w.grownBy W r) (h' : W.grownBy W' r') (hr : r' = r ∨ ∀ g, r' = some g → w.heap.size ≤ g) : w.grownBy W' r := by
  refine ⟨h'.os.trans h.os, h'.tape.trans h.tape, h'.output.trans h.output, Nat.le_trans h.size h'.size, fun k hk hne => ?_⟩
  rw [h'.block k (Nat.lt_of_lt_of_le hk h.size) ?_, h.block k hk hne]
  rcases hr with rfl | hr
  · exact hne
  · intro e
    have := hr k e.symm
    omega
theorem grown_alloc {w W : World} {r : Option Nat} (h : w.grownBy W r) (o : Obj) : w.grownBy (W.alloc o) r := grown_step h (grown_none ((Below.refl _ _).alloc (Nat.le_refl _) o) r) (.inl rfl)
/-- A block of slices, each of one's own rows. -/
structure LfI (w0 : World) (s : Nat) (f : Nat → List Int) (cf : Nat → Value) (W : World) : Prop where
  b : Below w0.heap.size w0 W
  sz : w0.heap.size + 1 ≤ W.heap.size
  c : ∀ j, j < s → W.cell? ⟨w0.heap.size, j, none⟩ = some (cf j)
  fz : ∀ j, W.frozen? ⟨w0.heap.size, j, none⟩ = false
  own : ∀ j, j < s → W.ownsRow (w0.heap.size + 1) 2 1 (cf j) (f j).length ((f j).map (Value.int .i64))
  far : ∀ i j, i < s → j < s → i ≠ j → (cf i).ownBlock = none ∨ (cf i).ownBlock ≠ (cf j).ownBlock
section
variable {w0 W W' : World} {s : Nat} {f f' : Nat → List Int} {cf : Nat → Value}
theorem LfI.below (h : LfI w0 s f cf W) (hb : Below W.heap.size W W') : LfI w0 s f cf W' := by
  have hs := h.sz
  have hc : ∀ b j, b < W.heap.size → W'.cell? ⟨b, j, none⟩ = W.cell? ⟨b, j, none⟩ := fun b j hbb => hb.cell (p := ⟨b, j, none⟩) hbb
  exact ⟨h.b.trans (hb.mono h.b.size), Nat.le_trans hs hb.size, fun j hj => (hc _ _ (by omega)).trans (h.c j hj), fun j => (hb.frozen (p := ⟨w0.heap.size, j, none⟩) (by show w0.heap.size < _; omega)).trans (h.fz j), fun j hj => own_below (h.own j hj) hb, h.far⟩
theorem LfI.congr (h : LfI w0 s f cf W) (e : ∀ j, j < s → f j = f' j) : LfI w0 s f' cf W := ⟨h.b, h.sz, h.c, h.fz, fun j hj => by rw [← e j hj]; exact h.own j hj, h.far⟩
theorem LfI.put (h : LfI w0 s f cf W) {a : Nat} (ha : a < s) (hg : W.grownBy W' (cf a).ownBlock) {v' : Value} {ys : List Int} (hown : W'.ownsRow (w0.heap.size + 1) 2 1 v' ys.length (ys.map (Value.int .i64)))
    (hloc : v'.ownBlock = (cf a).ownBlock ∨ ∃ g, v'.ownBlock = some g ∧ W.heap.size ≤ g) :
    LfI w0 s (updN f a ys) (updN cf a v') (W'.setCell ⟨w0.heap.size, a, none⟩ v') := by
  have hs := h.sz
  have hne : some w0.heap.size ≠ (cf a).ownBlock := fun e => own_not_low (h.own a ha) (g := w0.heap.size) (by omega) e.symm
  have hv : v'.ownBlock ≠ some w0.heap.size := own_not_low hown (by omega)
  have hgs := grown_set W' w0.heap.size a v'
  have hc : ∀ j, W'.cell? ⟨w0.heap.size, j, none⟩ = W.cell? ⟨w0.heap.size, j, none⟩ := fun j => World.cell?_of_block (a := ⟨w0.heap.size, j, none⟩) (hg.block w0.heap.size (by omega) hne)
  refine ⟨(h.b.grown hg h.b.size (fun k hk => by have := own_base (h.own a ha) k hk; omega)).setCell (p := ⟨w0.heap.size, a, none⟩) (Nat.le_refl _) _, by have := hg.size; simp; omega, fun j hj => ?_, fun j => ?_, fun j hj => ?_, fun i j hi hj hij => ?_⟩
  · by_cases e : j = a
    · subst e
      rw [updN_same]
      exact World.cell?_setCell_same' _ _ _ (by rw [hc, h.c j hj]; rfl)
    · rw [updN_ne _ _ e, World.cell?_setCell_other _ _ _ _ (fun e' => e (by injection e' with _ e' _; exact e'.symm)), hc]
      exact h.c j hj
  · rw [World.frozen?_setCell]
    have : W'.frozen? ⟨w0.heap.size, j, none⟩ = W.frozen? ⟨w0.heap.size, j, none⟩ := by unfold World.frozen?; rw [hg.block _ (by omega) hne]
    rw [this]
    exact h.fz j
  · by_cases e : j = a
    · subst e
      rw [updN_same, updN_same]
      exact hown.kept hgs (.inr hv)
    · rw [updN_ne _ _ e, updN_ne _ _ e]
      exact ((h.own j hj).kept hg (h.far j a hj ha e)).kept hgs (.inr (own_not_low (h.own j hj) (by omega)))
  · by_cases ei : i = a
    · subst ei
      have ej : j ≠ i := fun e => hij e.symm
      rw [updN_same, updN_ne _ _ ej]
      rcases hloc with e | ⟨g, e, hle⟩
      · rw [e]; exact h.far i j hi hj hij
      · right
        rw [e]
        intro e'
        have := ((h.own j hj).lt g e'.symm).2
        omega
    · rw [updN_ne _ _ ei]
      by_cases ej : j = a
      · subst ej
        rw [updN_same]
        rcases hloc with e | ⟨g, e, hle⟩
        · rw [e]; exact h.far i j hi hj hij
        · right
          rw [e]
          intro e'
          have := ((h.own i hi).lt g e').2
          omega
      · rw [updN_ne _ _ ej]; exact h.far i j hi hj hij
end
theorem made_slices (n : Nat) : ∀ j, j < n → (madeCells (Value.slice none 0 0).cells (n * 1))[j]? = some (.slice none 0 0) := by
  intro j hj
  unfold madeCells
  simp [Value.cells, hj, Nat.mod_one]
set_option maxRecDepth 100000 in
theorem make_slices (n : Nat) (hn : n ≤ 1000000) (W : World) : ∃ cs : Array Value, (Instr.makeSlice 67 (.int .i64 (n : Int)) (.int .i64 (n : Int))).run Try.prog W = .ok (.slice (some ⟨W.heap.size, 0, none⟩) n n) (W.alloc (.cells cs 45)) ∧ ∀ j, j < n → cs[j]? = some (.slice none 0 0) := by
  obtain ⟨i0, hi, hz0, hz1, hz2⟩ := info_parts (show (Try.prog.info? 45).map (fun i => (i.zero, i.size, i.bytes)) = some (some (.slice none 0 0), 1, 24) by kernel_rfl)
  have h := run_makeSlice (P := Try.prog) W 67 45 i0 _ Try.underlying67 hi hz0 .i64 .i64 n n (by omega) (Int.le_refl _) (by rw [hz1]; simp; omega) (by rw [hz2]; simp; omega) (by omega)
  rw [hz1] at h
  simp only [Int.toNat_natCast] at h
  exact ⟨_, h, made_slices n⟩
theorem lfI_made (w0 : World) (s : Nat) {cs : Array Value} {t : TypeId} (hcs : ∀ j, j < s → cs[j]? = some (.slice none 0 0)) : LfI w0 s (fun _ => []) (fun _ => .slice none 0 0) (w0.alloc (.cells cs t)) :=
  ⟨(Below.refl _ _).alloc (Nat.le_refl _) _, by simp, fun j hj => (cell_new _ _ _ _ rfl).trans (hcs j hj), fun j => by go_simp, fun _ _ => World.ownsRow_nil _ _ _ _, fun _ _ _ _ _ => .inl rfl⟩
/-- Left's answer. -/
def GotLf (T : List Tl) (s : Nat) (w : World) (e : Ending) (w' : World) : Prop :=
  Below w.heap.size w w' ∧ ((lfOk (leftL T) s = true ∧ ∃ A c, e = .returned (.tuple #[.slice A s c, .int .i64 0]) ∧ Seg w' w'.heap.size A ((lfL (leftL T) s).map (Value.int .i64))) ∨ (lfOk (leftL T) s = false ∧ e = .returned (.tuple #[.slice none 0 0, .int .i64 2])))
theorem slice_at {w : World} {b : Nat} {s : Nat} {cf : Nat → Value} (h : ∀ j, j < s → w.cell? ⟨b, j, none⟩ = some (cf j)) {k : Nat} (hk : k < s) : w.cell? ⟨b, 0 + k, none⟩ = some (cf k) := by rw [Nat.zero_add]; exact h k hk

set_option maxRecDepth 100000 in
set_option maxHeartbeats 16000000 in
theorem left_any (KA : Option Addr) (kn kc : Nat) (o : Int) (T : List Tl) (B : Option Addr) (d s n : Nat) (hn : n = s + 1) (hs8 : s ≤ 8) (w : World) (hs : Seg w w.heap.size B (tlRows T)) (hI : ∀ t ∈ T, I64 t.a ∧ I64 t.b ∧ I64 t.c) (hl : T.length ≤ 100000) :
    Calls Try.prog 16 #[.agg #[.slice KA kn kc, .int .i64 o, .slice B T.length d], .int .i64 (s : Int)] w (GotLf T n w) := by
  have HS := Lib.hid hs
  have HI := Lib.hid hI
  have HNS := Lib.hid hn
  have hn9 : n ≤ 9 := by omega
  have hws : IntKind.i64.wrap ((s : Int) + 1) = (n : Int) := by rw [hn]; exact IntWalk.i64_in _ (by omega)
  have hd1 : decide ((s : Int) < 0) = false := decide_eq_false (by omega)
  have hd2 : decide ((8 : Int) < (s : Int)) = false := decide_eq_false (by omega)
  clear hs hI hn hs8
  have HB0 : Hid (Below w.heap.size w (w.alloc (.cells #[.slice KA kn kc, .int .i64 o, .slice B T.length d] 27))) := Lib.hid ((Below.refl _ _).alloc (Nat.le_refl _) _)
  have HC0 : Hid (∀ j, (w.alloc (.cells #[.slice KA kn kc, .int .i64 o, .slice B T.length d] 27)).cell? ⟨w.heap.size, j, none⟩ = (#[.slice KA kn kc, .int .i64 o, .slice B T.length d] : Array Value)[j]?) := Lib.hid (fun j => cell_new _ _ _ j rfl)
  have hz0 : (w.alloc (.cells #[.slice KA kn kc, .int .i64 o, .slice B T.length d] 27)).heap.size = w.heap.size + 1 := by simp
  have HZ0 := Lib.hid hz0
  obtain ⟨cs, hmk, hcs⟩ := make_slices n (by omega) (w.alloc (.cells #[.slice KA kn kc, .int .i64 o, .slice B T.length d] 27))
  have HLI : Hid (LfI (w.alloc (.cells #[.slice KA kn kc, .int .i64 o, .slice B T.length d] 27)) n (fun j : Nat => leftL (T.take 0) (j : Int)) (fun _ => .slice none 0 0) ((w.alloc (.cells #[.slice KA kn kc, .int .i64 o, .slice B T.length d] 27)).alloc (.cells cs 45))) := Lib.hid (lfI_made (w.alloc (.cells #[.slice KA kn kc, .int .i64 o, .slice B T.length d] 27)) n hcs)
  have HC2 : Hid (((w.alloc (.cells #[.slice KA kn kc, .int .i64 o, .slice B T.length d] 27)).alloc (.cells cs 45)).cell? ⟨w.heap.size, 2, none⟩ = some (.slice B T.length d)) := Lib.hid ((cell_old _ _ _ (by simp)).trans (HC0.out 2))
  rw [hz0] at hmk
  clear hcs hz0
  go_enter Try.func16, Try.ntmps16
  go_wp2_with fail
  clear hmk
  generalize w.alloc (.cells #[.slice KA kn kc, .int .i64 o, .slice B T.length d] 27) = w0 at *
  generalize w0.alloc (.cells cs 45) = wm at *
  rw [← HZ0.out]
  have c2' := HC2.out
  go_wp2_with fail
  go_loopw [8, 26] (fun _ i wr => ∃ k : Nat, k ≤ T.length ∧ i = .int .i64 k ∧ Hid (∃ cf, LfI w0 n (fun j : Nat => leftL (T.take k) (j : Int)) cf wr)) (fun _ i _ => T.length - (intOf i).toNat)
  case atStart => exact ⟨0, Nat.zero_le _, rfl, _, HLI.out⟩
  case round =>
    clear HLI c2'
    obtain ⟨k, hk, rfl, HM⟩ := hrel
    obtain ⟨cf, hli⟩ := HM.out
    have HL := Lib.hid hli
    have hsz := hli.sz
    clear HM hli
    by_cases hlt : k < T.length
    · obtain ⟨b, o', rfl, hb, e0, e1, e2, e3, e4, e5, e6⟩ := tl_at (HS.out.below (HB0.out.trans (HL.out.b.mono HB0.out.size))) hlt
      have HX := Lib.hid (HI.out _ (List.getElem_mem hlt))
      have HSN := Lib.hid (fun j : Nat => leftL_snoc hlt (j : Int))
      obtain ⟨x, hx⟩ : ∃ x, x = T[k] := ⟨_, rfl⟩
      rw [← hx] at e0 e1 e2 e3 e4 e5 e6 HX HSN
      clear hx
      obtain ⟨⟨x1, x2⟩, ta, tb, tc, td, te⟩ := x
      simp only at e0 e1 e2 e3 e4 e5 e6
      by_cases hin : 0 ≤ x2 ∧ x2 ≤ (s : Int)
      case neg =>
        have HIN := Lib.hid hin
        by_cases hlo : 0 ≤ x2
        case neg =>
          have hdl : decide (0 ≤ x2) = false := decide_eq_false hlo
          clear hin hlo
          have HLN : Hid (LfI w0 n (fun j : Nat => leftL (T.take (k + 1)) (j : Int)) cf (wr.alloc (.cells #[.int .i64 x1, .int .i64 x2, .int .i64 ta, .int .i64 tb, .int .i64 tc, .int .i64 td, .int .i64 te] 42))) := Lib.hid ((HL.out.below ((Below.refl _ _).alloc (Nat.le_refl _) _)).congr (fun j hj => by
            rw [HSN.out j, if_neg (fun e => HIN.out (by have := HNS.out; simp only at e; constructor <;> omega))]))
          clear HSN HX HIN HL
          go_wp2_with fail
          go_roundw
          case rel => exact ⟨k + 1, by omega, by go_num, _, HLN.out⟩
          case measure => simp [intOf]; omega
        have hdl : decide (0 ≤ x2) = true := decide_eq_true hlo
        have hdh : decide (x2 ≤ (s : Int)) = false := decide_eq_false (fun e => hin ⟨hlo, e⟩)
        clear hin hlo
        have HLN : Hid (LfI w0 n (fun j : Nat => leftL (T.take (k + 1)) (j : Int)) cf (wr.alloc (.cells #[.int .i64 x1, .int .i64 x2, .int .i64 ta, .int .i64 tb, .int .i64 tc, .int .i64 td, .int .i64 te] 42))) := Lib.hid ((HL.out.below ((Below.refl _ _).alloc (Nat.le_refl _) _)).congr (fun j hj => by
          rw [HSN.out j, if_neg (fun e => HIN.out (by have := HNS.out; simp only at e; constructor <;> omega))]))
        clear HSN HX HIN HL
        go_wp2_with fail
        go_roundw
        case rel => exact ⟨k + 1, by omega, by go_num, _, HLN.out⟩
        case measure => simp [intOf]; omega
      obtain ⟨a, rfl⟩ : ∃ a : Nat, x2 = (a : Int) := ⟨x2.toNat, by omega⟩
      have han : a < n := by have := HNS.out; omega
      have hdl : decide (0 ≤ (a : Int)) = true := decide_eq_true hin.1
      have hdh : decide ((a : Int) ≤ (s : Int)) = true := decide_eq_true hin.2
      have ha0 : (0 : Int) ≤ (a : Int) := hin.1
      have hab : (a : Int) < (n : Int) := by omega
      have hdn : decide (a ≤ s) = true := decide_eq_true (by omega)
      clear hin
      have HF2 : Hid ((fun j : Nat => leftL (T.take (k + 1)) (j : Int)) = updN (fun j : Nat => leftL (T.take k) (j : Int)) a (leftL (T.take k) (a : Int) ++ ([ta, tc] ++ lsL tb))) := Lib.hid (by
        funext j
        rw [HSN.out j]
        by_cases e : j = a
        · subst e; rw [updN_same, if_pos rfl]
        · rw [updN_ne _ _ e, if_neg (by simp only; omega)])
      have HLB : Hid (Below wr.heap.size wr (wr.alloc (.cells #[.int .i64 x1, .int .i64 (a : Int), .int .i64 ta, .int .i64 tb, .int .i64 tc, .int .i64 td, .int .i64 te] 42))) := Lib.hid ((Below.refl _ _).alloc (Nat.le_refl _) _)
      have HL1 := Lib.hid (HL.out.below HLB.out)
      have HXC := Lib.hid fun j => cell_new wr #[.int .i64 x1, .int .i64 (a : Int), .int .i64 ta, .int .i64 tb, .int .i64 tc, .int .i64 td, .int .i64 te] 42 (b := wr.heap.size) j rfl
      have hbx : wr.heap.size < (wr.alloc (.cells #[.int .i64 x1, .int .i64 (a : Int), .int .i64 ta, .int .i64 tb, .int .i64 tc, .int .i64 td, .int .i64 te] 42)).heap.size := by simp
      have hrb : ∀ g, (cf a).ownBlock = some g → g < wr.heap.size := fun g hg => ((HL.out.own a han).lt g hg).2
      have hlen := leftL_len (T.take k) (a : Int)
      rw [List.length_take] at hlen
      have HLE : Hid (∀ W, Calls Try.prog 22 #[.int .i64 tb] W (GotQ tb W)) := Lib.hid fun W => less_any2 tb W HX.out.2.1
      clear HX HL HSN
      go_wp2_with fail
      generalize (wr.alloc (.cells #[.int .i64 x1, .int .i64 (a : Int), .int .i64 ta, .int .i64 tb, .int .i64 tc, .int .i64 td, .int .i64 te] 42)) = w1 at *
      generalize hbxe : wr.heap.size = bx at *
      have c1 : w1.cell? ⟨bx, 1, none⟩ = some (.int .i64 (a : Int)) := HXC.out 1
      have c2 : w1.cell? ⟨bx, 2, none⟩ = some (.int .i64 ta) := HXC.out 2
      have c3 : w1.cell? ⟨bx, 3, none⟩ = some (.int .i64 tb) := HXC.out 3
      have c4 : w1.cell? ⟨bx, 4, none⟩ = some (.int .i64 tc) := HXC.out 4
      go_wp2_with fail
      clear e0 e1 e2 e3 e4 e5 e6
      have HL2 : Hid (LfI w0 n (fun j : Nat => leftL (T.take k) (j : Int)) cf w1.drew) := Lib.hid (HL1.out.below (Below.refl _ _).drew)
      have d1 : w1.drew.cell? ⟨bx, 1, none⟩ = some (.int .i64 (a : Int)) := c1
      have d2 : w1.drew.cell? ⟨bx, 2, none⟩ = some (.int .i64 ta) := c2
      have d3 : w1.drew.cell? ⟨bx, 3, none⟩ = some (.int .i64 tb) := c3
      have d4 : w1.drew.cell? ⟨bx, 4, none⟩ = some (.int .i64 tc) := c4
      have hbx2 : bx < w1.drew.heap.size := hbx
      obtain ⟨Ar, cr, hcf⟩ := own_form (HL2.out.own a han)
      obtain ⟨ys, HYS⟩ : ∃ ys, Hid (ys = leftL (T.take k) (a : Int)) := ⟨_, Lib.hid rfl⟩
      rw [← HYS.out] at hcf hlen HF2
      have d5 : w1.drew.cell? ⟨w0.heap.size, a, none⟩ = some (.slice Ar ys.length cr) := by rw [← hcf]; exact HL2.out.c a han
      have d6 : w1.drew.frozen? ⟨w0.heap.size, a, none⟩ = false := HL2.out.fz a
      have HO2 : Hid (w1.drew.ownsRow (w0.heap.size + 1) 2 1 (.slice Ar ys.length cr) ys.length (ys.map (Value.int .i64))) := Lib.hid (by have := HL2.out.own a han; rw [hcf] at this; simpa only [HYS.out] using this)
      obtain ⟨r, hr⟩ : ∃ r, r = (cf a).ownBlock := ⟨_, rfl⟩
      have hr2 : (Value.slice Ar ys.length cr).ownBlock = r := by rw [hr, hcf]
      have hnb : some bx ≠ r := fun e => by have := hrb bx (by rw [← hr]; exact e.symm); omega
      have hng : some w0.heap.size ≠ r := fun e => own_not_low HO2.out (g := w0.heap.size) (by omega) (by rw [hr2]; exact e.symm)
      have hz2 : w0.heap.size + 1 ≤ w1.drew.heap.size := HL2.out.sz
      have HCE := Lib.hid hcf
      have HRE := Lib.hid hr
      have HR2 := Lib.hid hr2
      have HNB := Lib.hid hnb
      have HNG := Lib.hid hng
      clear hcf HYS hr hr2 hnb hng HL1 HLB HXC hbx hrb
      obtain ⟨i0, hi0, hz0', hz1', hz2'⟩ := info_parts i64_infoL
      have hlp := lsL_pos tb
      have hll := lsL_len tb
      have hys : ys.length ≤ 400000 := by omega
      refine wp_region_last (S := fun W => W.cell? ⟨bx, 1, none⟩ = some (.int .i64 (a : Int)) ∧ W.cell? ⟨bx, 2, none⟩ = some (.int .i64 ta) ∧ W.cell? ⟨bx, 3, none⟩ = some (.int .i64 tb) ∧ W.cell? ⟨bx, 4, none⟩ = some (.int .i64 tc) ∧ W.cell? ⟨w0.heap.size, a, none⟩ = some (.slice Ar ys.length cr)) 19 (by kernel_rfl) ⟨d1, d2, d3, d4, d5⟩ (fun hHeld => ?_)
      have HSK : Hid (∀ W, w1.drew.grownBy W r → W.cell? ⟨bx, 1, none⟩ = some (.int .i64 (a : Int)) ∧ W.cell? ⟨bx, 2, none⟩ = some (.int .i64 ta) ∧ W.cell? ⟨bx, 3, none⟩ = some (.int .i64 tb) ∧ W.cell? ⟨bx, 4, none⟩ = some (.int .i64 tc) ∧ W.cell? ⟨w0.heap.size, a, none⟩ = some (.slice Ar ys.length cr)) := Lib.hid fun W hg => ⟨(hg.cell_far ⟨bx, 1, none⟩ hbx2 HNB.out).trans d1, (hg.cell_far ⟨bx, 2, none⟩ hbx2 HNB.out).trans d2, (hg.cell_far ⟨bx, 3, none⟩ hbx2 HNB.out).trans d3, (hg.cell_far ⟨bx, 4, none⟩ hbx2 HNB.out).trans d4, (hg.cell_far ⟨w0.heap.size, a, none⟩ (by show w0.heap.size < _; omega) HNG.out).trans d5⟩
      have HSF : Hid (∀ W, w1.drew.grownBy W r → W.frozen? ⟨w0.heap.size, a, none⟩ = false) := Lib.hid fun W hg => (hg.frozen_far ⟨w0.heap.size, a, none⟩ (by show w0.heap.size < _; omega) HNG.out).trans d6
      clear c1 c2 c3 c4
      generalize w1.drew = w2 at *
      have HG0 : Hid (w2.grownBy w2 r) := Lib.hid (grown_none (Below.refl _ _) r)
      clear d1 d2 d3 d4 d5 d6
      refine wpAnyL_take (i := 0) (v := .slice (some ⟨w0.heap.size, 0, none⟩) n n) rfl (by kernel_rfl) (by kernel_rfl) (by kernel_rfl) (by kernel_rfl) (by kernel_rfl) (fun _ _ _ h => h) (Or.inl ⟨by rfl, fun w' hSw => by obtain ⟨s1, s2, s3, s4, s5⟩ := hSw; go_simp⟩) hHeld ?_
      refine wpAnyL_take (i := 1) (v := .pointer (some ⟨bx, 1, none⟩)) rfl (by kernel_rfl) (by kernel_rfl) (by kernel_rfl) (by kernel_rfl) (by kernel_rfl) (fun _ _ _ h => h) (Or.inl ⟨by rfl, fun w' hSw => by obtain ⟨s1, s2, s3, s4, s5⟩ := hSw; go_simp⟩) hHeld ?_
      refine wpAnyL_take (i := 2) (v := .int .i64 (a : Int)) rfl (by kernel_rfl) (by kernel_rfl) (by kernel_rfl) (by kernel_rfl) (by kernel_rfl) (fun _ _ _ h => h) (Or.inl ⟨by rfl, fun w' hSw => by obtain ⟨s1, s2, s3, s4, s5⟩ := hSw; go_simp⟩) hHeld ?_
      refine wpAnyL_take (i := 3) (v := .slice (some ⟨w0.heap.size, 0, none⟩) n n) rfl (by kernel_rfl) (by kernel_rfl) (by kernel_rfl) (by kernel_rfl) (by kernel_rfl) (fun _ _ _ h => h) (Or.inl ⟨by rfl, fun w' hSw => by obtain ⟨s1, s2, s3, s4, s5⟩ := hSw; go_simp⟩) hHeld ?_
      refine wpAnyL_take (i := 4) (v := .pointer (some ⟨bx, 1, none⟩)) rfl (by kernel_rfl) (by kernel_rfl) (by kernel_rfl) (by kernel_rfl) (by kernel_rfl) (fun _ _ _ h => h) (Or.inl ⟨by rfl, fun w' hSw => by obtain ⟨s1, s2, s3, s4, s5⟩ := hSw; go_simp⟩) hHeld ?_
      refine wpAnyL_take (i := 5) (v := .int .i64 (a : Int)) rfl (by kernel_rfl) (by kernel_rfl) (by kernel_rfl) (by kernel_rfl) (by kernel_rfl) (fun _ _ _ h => h) (Or.inl ⟨by rfl, fun w' hSw => by obtain ⟨s1, s2, s3, s4, s5⟩ := hSw; go_simp⟩) hHeld ?_
      refine wpAnyL_take (i := 6) (v := .pointer (some ⟨w0.heap.size, a, none⟩)) rfl (by kernel_rfl) (by kernel_rfl) (by kernel_rfl) (by kernel_rfl) (by kernel_rfl) (fun _ _ _ h => h) (Or.inl ⟨by rfl, fun w' hSw => by obtain ⟨s1, s2, s3, s4, s5⟩ := hSw; go_simp⟩) hHeld ?_
      refine wpAnyL_take (i := 7) (v := .slice Ar ys.length cr) rfl (by kernel_rfl) (by kernel_rfl) (by kernel_rfl) (by kernel_rfl) (by kernel_rfl) (fun _ _ _ h => h) (Or.inl ⟨by rfl, fun w' hSw => by obtain ⟨s1, s2, s3, s4, s5⟩ := hSw; go_simp⟩) hHeld ?_
      refine wpAnyL_take (i := 8) (v := .pointer (some ⟨bx, 2, none⟩)) rfl (by kernel_rfl) (by kernel_rfl) (by kernel_rfl) (by kernel_rfl) (by kernel_rfl) (fun _ _ _ h => h) (Or.inl ⟨by rfl, fun w' hSw => by obtain ⟨s1, s2, s3, s4, s5⟩ := hSw; go_simp⟩) hHeld ?_
      refine wpAnyL_take (i := 9) (v := .int .i64 ta) rfl (by kernel_rfl) (by kernel_rfl) (by kernel_rfl) (by kernel_rfl) (by kernel_rfl) (fun _ _ _ h => h) (Or.inl ⟨by rfl, fun w' hSw => by obtain ⟨s1, s2, s3, s4, s5⟩ := hSw; go_simp⟩) hHeld ?_
      refine wpAnyL_take (i := 10) (v := .pointer (some ⟨bx, 4, none⟩)) rfl (by kernel_rfl) (by kernel_rfl) (by kernel_rfl) (by kernel_rfl) (by kernel_rfl) (fun _ _ _ h => h) (Or.inl ⟨by rfl, fun w' hSw => by obtain ⟨s1, s2, s3, s4, s5⟩ := hSw; go_simp⟩) hHeld ?_
      refine wpAnyL_take (i := 11) (v := .int .i64 tc) rfl (by kernel_rfl) (by kernel_rfl) (by kernel_rfl) (by kernel_rfl) (by kernel_rfl) (fun _ _ _ h => h) (Or.inl ⟨by rfl, fun w' hSw => by obtain ⟨s1, s2, s3, s4, s5⟩ := hSw; go_simp⟩) hHeld ?_
      refine wpAnyL_take (i := 14) (v := .pointer (some ⟨bx, 3, none⟩)) rfl (by kernel_rfl) (by kernel_rfl) (by kernel_rfl) (by kernel_rfl) (by kernel_rfl) (fun _ _ _ h => h) (Or.inl ⟨by rfl, fun w' hSw => by obtain ⟨s1, s2, s3, s4, s5⟩ := hSw; go_simp⟩) hHeld ?_
      refine wpAnyL_take (i := 15) (v := .int .i64 tb) rfl (by kernel_rfl) (by kernel_rfl) (by kernel_rfl) (by kernel_rfl) (by kernel_rfl) (fun _ _ _ h => h) (Or.inl ⟨by rfl, fun w' hSw => by obtain ⟨s1, s2, s3, s4, s5⟩ := hSw; go_simp⟩) hHeld ?_
      clear hHeld
      refine wpAnyL_ready (rs := [12]) (by kernel_rfl) (by simp) ?_
      refine AllReadyL.cons rfl (fun K hK => ?_) AllReadyL.nil
      go_simp

      have HG101 : Hid (w2.grownBy (w2.alloc (.cells #[.int .i64 ta, .int .i64 tc] 2)) r) := Lib.hid (grown_alloc HG0.out _)
      have HO101 := Lib.hid (HO2.out.alloc (.cells #[.int .i64 ta, .int .i64 tc] 2))
      have HN101 : Hid (∀ j u, ([.int .i64 ta, .int .i64 tc] : List Value)[j]? = some u → (w2.alloc (.cells #[.int .i64 ta, .int .i64 tc] 2)).cell? ((⟨w2.heap.size, 0, none⟩ : Addr).add j) = some u) := Lib.hid (new_cells w2 2 #[.int .i64 ta, .int .i64 tc] rfl)
      have hq101 : w2.heap.size < (w2.alloc (.cells #[.int .i64 ta, .int .i64 tc] 2)).heap.size := by simp
      have hp101 : ∀ g, r = some g → g < w2.heap.size := fun g e => by rw [← HR2.out] at e; first | exact (HO2.out.lt g e).2 | exact Nat.lt_of_lt_of_le (HO2.out.lt g e).2 HG0.out.size
      refine hK.out _ _ (fun _ => HSK.out _ HG101.out) (fun _ => ?_)
      clear hK K
      generalize (w2.alloc (.cells #[.int .i64 ta, .int .i64 tc] 2)) = w101 at *
      refine wpAnyL_ready (rs := [13]) (by kernel_rfl) (by simp) ?_
      refine AllReadyL.cons rfl (fun K hK => ?_) AllReadyL.nil
      refine step_append_lies _ rfl (.tmp 46) (.tmp 51) 45 rfl (w0.heap.size + 1) 2 i0 _ 1 8 Try.underlying45 hi0 hz0' hz1' hz2' rfl (by decide) _ ys.length (ys.map (Value.int .i64)) rfl HO101.out ⟨w2.heap.size, 0, none⟩ 2 2 [.int .i64 ta, .int .i64 tc] rfl rfl HN101.out (by intro u hu; simp at hu; rcases hu with rfl | rfl <;> rfl) (by decide) (by simp only [maxLen]; omega) (by omega) (Nat.le_trans hz2 HG101.out.size) w101.heap.size rfl ?_
      intro g102 cap102 w102 hown hgr hat _
      have HG102 : Hid (w2.grownBy w102 r) := Lib.hid (grown_step HG101.out hgr (.inl HR2.out))
      have HO102 := Lib.hid hown
      have HAT102 : Hid (r = some g102 ∨ w2.heap.size ≤ g102) := Lib.hid (hat.imp (fun e => by rw [← HR2.out]; exact e) (fun e => by rw [e]; exact HG101.out.size))
      clear hown hgr hat
      refine hK.out _ _ (fun _ => HSK.out _ HG102.out) (fun _ => ?_)
      clear hK K
      refine wpAnyL_ready (rs := [16]) (by kernel_rfl) (by simp) ?_
      refine AllReadyL.cons rfl (fun K hK => ?_) AllReadyL.nil
      go_simp
      go_at_call 22
      refine (HLE.out _).mono ?_
      rintro e w103 ⟨gl103, cl103, rfl, hox, hbe⟩
      have HG103 : Hid (w2.grownBy w103 r) := Lib.hid (grown_step HG102.out (grown_none hbe r) (.inl rfl))
      have HO103 := Lib.hid (own_below HO102.out hbe)
      have HLL103 := Lib.hid hox
      have hzl103 : ∀ g, r = some g → g < w102.heap.size := fun g e => Nat.lt_of_lt_of_le (HO2.out.lt g (by rw [HR2.out]; exact e)).2 HG102.out.size
      clear hox hbe
      go_wp2_with fail
      refine hK.out _ _ (fun _ => HSK.out _ HG103.out) (fun _ => ?_)
      clear hK K
      refine wpAnyL_ready (rs := [17]) (by kernel_rfl) (by simp) ?_
      refine AllReadyL.cons rfl (fun K hK => ?_) AllReadyL.nil
      refine step_append_lies _ rfl (.tmp 52) (.tmp 55) 45 rfl (w0.heap.size + 1) 2 i0 _ 1 8 Try.underlying45 hi0 hz0' hz1' hz2' rfl (by decide) _ (ys.length + 2) _ rfl HO103.out ⟨gl103, 0, none⟩ (lsL tb).length cl103 ((lsL tb).map (Value.int .i64)) rfl (by simp) (HLL103.out.cells rfl) (by intro u hu; obtain ⟨y, _, rfl⟩ := List.mem_map.1 hu; rfl) hlp (by simp only [maxLen]; omega) (by omega) (Nat.le_trans hz2 HG103.out.size) w103.heap.size rfl ?_
      intro g104 cap104 w104 hown hgr hat _
      have HG104 : Hid (w2.grownBy w104 r) := Lib.hid (grown_step HG103.out hgr (HAT102.out.imp (fun e => e.symm) (fun e g hg => by injection hg with hg; subst hg; exact e)))
      have hof : w104.ownsRow (w0.heap.size + 1) 2 1 (.slice (some ⟨g104, 0, none⟩) (ys.length + 2 + (lsL tb).length) cap104) (ys ++ ([ta, tc] ++ lsL tb)).length ((ys ++ ([ta, tc] ++ lsL tb)).map (Value.int .i64)) := by
        have e1 : (ys ++ ([ta, tc] ++ lsL tb)).length = ys.length + 2 + (lsL tb).length := by simp; omega
        have e2 : (ys ++ ([ta, tc] ++ lsL tb)).map (Value.int .i64) = ys.map (Value.int .i64) ++ [.int .i64 ta, .int .i64 tc] ++ (lsL tb).map (Value.int .i64) := by simp
        rw [e1, e2]
        exact hown
      have hloc : (Value.slice (some ⟨g104, 0, none⟩) (ys.length + 2 + (lsL tb).length) cap104).ownBlock = (cf a).ownBlock ∨ ∃ g, (Value.slice (some ⟨g104, 0, none⟩) (ys.length + 2 + (lsL tb).length) cap104).ownBlock = some g ∧ w2.heap.size ≤ g := by
        rw [← HRE.out]
        rcases hat with e | e
        · have e' : g102 = g104 := by injection e
          rw [← e']
          exact HAT102.out.imp (fun e => e.symm) (fun e => ⟨_, rfl, e⟩)
        · exact .inr ⟨_, rfl, by rw [e]; exact HG103.out.size⟩
      have HEND : Hid (∃ cf, LfI w0 n (fun j : Nat => leftL (T.take (k + 1)) (j : Int)) cf (w104.setCell ⟨w0.heap.size, a, none⟩ (.slice (some ⟨g104, 0, none⟩) (ys.length + 2 + (lsL tb).length) cap104))) := Lib.hid ⟨_, by rw [HF2.out]; exact HL2.out.put han (by rw [← HRE.out]; exact HG104.out) hof hloc⟩
      have f1 := (HSK.out _ HG104.out).2.2.2.2
      have f2 := HSF.out _ HG104.out
      clear hown hgr hat hof hloc
      refine hK.out _ _ (fun _ => HSK.out _ HG104.out) (fun _ => ?_)
      clear hK K
      refine wpAnyL_take (i := 18) (v := .pointer (some ⟨w0.heap.size, a, none⟩)) rfl (by kernel_rfl) (by kernel_rfl) (by kernel_rfl) (by kernel_rfl) (by kernel_rfl) (fun _ _ _ h => h) (Or.inl ⟨by rfl, fun w' hSw => by obtain ⟨s1, s2, s3, s4, s5⟩ := hSw; go_simp⟩) (HSK.out _ HG104.out) ?_
      refine wpAnyL_ready (rs := [19]) (by kernel_rfl) (by simp) ?_
      refine AllReadyL.cons rfl (fun K hK => ?_) AllReadyL.nil
      go_simp
      refine hK.out _ _ (fun h => absurd rfl h) (fun _ => ?_)
      clear hK K
      refine wpAnyL_done (by kernel_rfl) ?_ _
      go_wp2_with fail
      go_roundw
      case rel => exact ⟨k + 1, by omega, by go_num, HEND⟩
      case measure => simp [intOf]; omega
    · obtain rfl : k = T.length := by omega
      have hle := HL.out
      rw [List.take_length] at hle
      have HLT := Lib.hid hle
      clear hle HL
      go_wp2_with fail
      have hbw : Below w.heap.size w wr := HB0.out.trans (HLT.out.b.mono HB0.out.size)
      have HWR := Lib.hid hbw
      have hwz := hbw.size
      clear hbw
      generalize wr = wv at *
      have HOK0 : Hid (lfOk (leftL T) 0 = true) := Lib.hid rfl
      go_loopw [9, 11, 12, 13, 61] (fun u _ _ _ i wr => ∃ m : Nat, m ≤ n ∧ i = .int .i64 m ∧ Hid (lfOk (leftL T) m = true) ∧ Hid (wr.ownsRow wv.heap.size 2 1 u (lfL (leftL T) m).length ((lfL (leftL T) m).map (Value.int .i64))) ∧ Hid (Below wv.heap.size wv wr)) (fun _ _ _ _ i _ => n - (intOf i).toNat)
      case atStart => exact ⟨0, Nat.zero_le _, rfl, HOK0, World.ownsRow_nil _ _ _ _, Below.refl _ _⟩
      case round =>
        obtain ⟨m, hm, rfl, HOK, HO, HB⟩ := hrel
        have hbz := HB.out.size
        clear HOK0
        by_cases hmn : m < n
        · have HL4 := Lib.hid (HLT.out.below HB.out)
          obtain ⟨Am, cm, hcm⟩ := own_form (HL4.out.own m hmn)
          have hc0 := HL4.out.c m hmn
          rw [hcm] at hc0
          have hI4 := leftL_I64 HI.out (m : Int)
          have hn4 := leftL_len T (m : Int)
          have HSM : Hid (∀ W, Below wr.heap.size wr W → Calls Try.prog 25 #[.slice Am (leftL T (m : Int)).length cm] W fun e w' => e = .returned (.tuple #[.int .i64 (amtV (sumI (leftL T (m : Int)))), .int .i64 (amtE (sumI (leftL T (m : Int))))]) ∧ Below W.heap.size W w') := Lib.hid fun W hW => sum_any (leftL T (m : Int)) Am cm W hI4 (by have ho := HL4.out.own m hmn; rw [hcm] at ho; exact ((Seg.of_own ho).below hW).mono hW.size) (by omega)
          have HOKS := Lib.hid (lfOk_snoc (leftL T) m)
          have HLS := Lib.hid (lfL_snoc (leftL T) m)
          have hll : (lfL (leftL T) m).length ≤ 9 := by rw [lfL_len]; omega
          have hmb : (m : Int) < (n : Int) := by omega
          have hm0 : (0 : Int) ≤ (m : Int) := by omega
          clear hcm hI4
          by_cases hfit : I64 (sumI (leftL T (m : Int)))
          · have hE : amtE (sumI (leftL T (m : Int))) = 0 := by unfold amtE; rw [if_pos hfit]
            rw [hE] at HSM
            have HOKN : Hid (lfOk (leftL T) (m + 1) = true) := Lib.hid (by rw [HOKS.out, HOK.out]; simpa using hfit)
            generalize hL : leftL T (m : Int) = L at *
            clear hfit HOKS hE hL
            generalize hV : amtV (sumI L) = V at *
            generalize hzs : lfL (leftL T) m = zs at *
            obtain ⟨i0, hi0, hz0', hz1', hz2'⟩ := info_parts i64_infoL
            have hm9 : m ≤ 9 := by omega
            go_wp2_with (first | (go_at_call 25; refine (HSM.out _ (Below.refl _ _)).mono ?_; rintro e w5 ⟨rfl, hb5⟩; have HB5 : Hid (Below wr.heap.size wr w5) := Lib.hid hb5; have HO5 := Lib.hid (own_below HO.out hb5); clear hb5 HO) | (at_builtin; refine wpList_append_own _ rfl _ _ 45 rfl wv.heap.size 2 i0 _ 1 8 Try.underlying45 hi0 hz0' hz1' hz2' rfl (by decide) _ zs.length (zs.map (Value.int .i64)) rfl (HO5.out.alloc _) ⟨w5.heap.size, 0, none⟩ 1 1 [.int .i64 V] rfl rfl (new_cells _ _ #[_] rfl) one_int (by simp only [maxLen]; omega) (by omega) (by have := HB5.out.size; simp; omega) ?_))
            intro v' w6 hown6 hgr6 _
            have HB6 : Hid (Below wv.heap.size wv w6) := Lib.hid (((HB.out.trans (HB5.out.mono hbz)).alloc (Nat.le_trans hbz HB5.out.size) _).grown hgr6 (Nat.le_trans hbz (Nat.le_trans HB5.out.size (by simp))) (fun j hj => own_base HO5.out j hj))
            have HO6 : Hid (w6.ownsRow wv.heap.size 2 1 v' (lfL (leftL T) (m + 1)).length ((lfL (leftL T) (m + 1)).map (Value.int .i64))) := Lib.hid (by rw [HLS.out, List.map_append, List.length_append]; exact hown6)
            clear hown6 hgr6 HO5 HSM HLS
            go_wp2_with fail
            go_roundw
            case rel => exact ⟨m + 1, by omega, by go_num, HOKN, HO6, HB6⟩
            case measure => simp [intOf]; omega
          · have hE : amtE (sumI (leftL T (m : Int))) = 2 := by unfold amtE; rw [if_neg hfit]
            rw [hE] at HSM
            have HBAD : Hid (lfOk (leftL T) n = false) := Lib.hid (lfOk_off hmn hfit)
            clear hfit HOKS HOK
            generalize hL : leftL T (m : Int) = L at *
            clear hE hL
            generalize hV : amtV (sumI L) = V at *
            go_wp2_with (go_at_call 25; refine (HSM.out _ (Below.refl _ _)).mono ?_; rintro e w5 ⟨rfl, hb5⟩; have HB5 : Hid (Below wr.heap.size wr w5) := Lib.hid hb5; clear hb5)
            go_ret2
            exact ⟨HWR.out.trans (HB.out.trans (HB5.out.mono hbz) |>.mono hwz), .inr ⟨HBAD.out, rfl⟩⟩
        · obtain rfl : m = n := by omega
          obtain ⟨Az, cz, rfl⟩ := own_form HO.out
          go_wp2_with fail
          go_ret2
          refine ⟨HWR.out.trans (HB.out.mono hwz), .inl ⟨HOK.out, Az, cz, by rw [lfL_len]; rfl, ?_⟩⟩
          exact Seg.of_own HO.out
end Go.Proofs.Ytgkidjjijgegmaa
