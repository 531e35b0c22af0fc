/-
  What fall.Plan comes to, over this seat's translation: a contract for callers.
-/
import Derived.Test.YtglpnpjjjihghaaFl7
namespace Go.Proofs.Ytglpnpjjjihghaa
open Go.RowKit Go.Shelf
attribute [local go_sem] Oper.semAt_some

def plF (need : Int) (ys : List (List Dw)) : Int × List Dw := ys.foldl plS (need, [])
theorem plF_snoc (need : Int) (ys : List (List Dw)) (y : List Dw) : plF need (ys ++ [y]) = plS (plF need ys) y := by unfold plF; rw [List.foldl_append]; rfl
theorem wrap_I64 (n : Int) : I64 (IntKind.i64.wrap n) := by rw [IntKind.wrap_i64]; unfold I64; omega
theorem plF_I64 {need : Int} (h : I64 need) (ys : List (List Dw)) : I64 (plF need ys).1 := by
  rcases List.eq_nil_or_concat ys with rfl | ⟨zs, y, rfl⟩
  · exact h
  · rw [List.concat_eq_append, plF_snoc]
    exact wrap_I64 _
theorem plS_len (ys : List (List Dw)) : ∀ st : Int × List Dw, (ys.foldl plS st).2.length ≤ st.2.length + (ys.map List.length).sum := by
  induction ys with
  | nil => intro st; simp
  | cons y ys ih =>
    intro st
    rw [List.foldl_cons, List.map_cons, List.sum_cons]
    have h1 := ih (plS st y)
    have h2 : (plS st y).2.length ≤ st.2.length + y.length := by
      unfold plS
      rw [List.length_append]
      have := giveL_len y st.1
      omega
    omega
theorem sum_map_one {α : Type} (f : α → List Dw) (l : List α) (h : ∀ a, (f a).length = 1) : (l.map fun a => (f a).length).sum = l.length := by
  induction l with
  | nil => rfl
  | cons a l ih => rw [List.map_cons, List.sum_cons, ih, h, List.length_cons]; omega
theorem srcs_sum (p : Pol) (os : List Int) : ((srcs p os).map List.length).sum ≤ os.length + os.length + p.fu.length + 2 := by
  unfold srcs
  rw [List.map_append, List.map_append, List.sum_append, List.sum_append, List.map_map, List.map_map]
  have h1 := sum_map_one (fun m => [(⟨8, m, atI p.co m⟩ : Dw)]) os (fun _ => rfl)
  have h2 := sum_map_one (fun m => [(⟨9, m, atI p.fu m⟩ : Dw)]) os (fun _ => rfl)
  have h3 := othersN_len p.fu os p.fu.length
  simp only [Function.comp_def, List.map_cons, List.map_nil, List.sum_cons, List.sum_nil, List.length_cons, List.length_nil] at *
  unfold othersL
  omega
theorem plF_len {p : Pol} {os : List Int} {pre : List (List Dw)} {y : List Dw} (need : Int) (h : (pre ++ [y]) <+: srcs p os) : (plF need pre).2.length ≤ os.length + os.length + p.fu.length + 2 := by
  have h1 := plS_len pre (need, [])
  have h2 := srcs_sum p os
  obtain ⟨t, ht⟩ := h
  rw [← ht, List.map_append, List.map_append, List.sum_append, List.sum_append] at h2
  unfold plF
  simp only [List.length_nil, Nat.zero_add] at h1
  omega
def planE (p : Pol) (os : List Int) (need : Int) : Int := if mayE p os ≠ 0 then mayE p os else if need < 0 then 1 else 0
def planL (p : Pol) (os : List Int) (need : Int) : List Dw := if planE p os need = 0 then (plF need (srcs p os)).2 else []
/-- Draws and an error have come back. -/
def GotDE (l : List Dw) (err : Int) (w : World) (e : Ending) (w' : World) : Prop := ∃ A c, e = .returned (.tuple #[.slice A l.length c, .int .i64 err]) ∧ Seg w' w'.heap.size A (dwRows l) ∧ Below w.heap.size w w'
theorem PBox.grown {lo B : Nat} {W W' : World} {bn bl : Nat} {nd : Int} {u : Value} {L : List Dw} {row : Option Nat} (h : PBox lo W bn bl nd u L) (hg : W.grownBy W' row) (hr : ∀ r, row = some r → B ≤ r ∧ ∃ o : Obj, W.heap[r]? = some o ∧ o.isCells = false) : PBox lo W' bn bl nd u L := by
  have hr' : ∀ r, row = some r → ∃ o : Obj, W.heap[r]? = some o ∧ o.isCells = false := fun r e => (hr r e).2
  refine ⟨cell_kept h.cn hg hr', (frozen_kept h.cn hg hr').trans h.fn, cell_kept h.cl hg hr', (frozen_kept h.cl hg hr').trans h.fl, h.own.kept hg ?_, h.ne, h.ln, h.ll, Nat.le_trans h.sz hg.size⟩
  cases hu : u.ownBlock with
  | none => exact .inl rfl
  | some g =>
    refine .inr fun e => ?_
    obtain ⟨o, ho, hc⟩ := hr' g e.symm
    rw [own_is_cells h.own g o hu ho] at hc
    cases hc
set_option maxRecDepth 100000 in
set_option maxHeartbeats 3200000 in
theorem plan_any (p : Pol) (os : List Int) (need : Int) (A : Option Addr) (c : Nat) (w : World) (h : PolOk w p) (hc : p.co.length ≤ maxLen) (hs : Seg w w.heap.size A (os.map (Value.int .i64))) (hl : os.length ≤ 1000) (hI : ∀ x ∈ os, I64 x) (hN : I64 need) :
    Calls Try.prog 17 #[p.val, .slice A os.length c, .int .i64 need] w (GotDE (planL p os need) (planE p os need) w) := by
  have HB0 : Hid (Below w.heap.size w ((w.alloc (.cells #[.slice p.Ac p.co.length p.cc, .slice p.Af p.fu.length p.cf, .int .i64 p.line, .int .i64 p.cap] 37)).alloc (.cells #[.int .i64 need] 2))) := Lib.hid (((Below.refl _ _).alloc (Nat.le_refl _) _).alloc (by simp) _)
  have HM : Hid (∀ W, Below w.heap.size w W → Calls Try.prog 46 #[p.val, .slice A os.length c] W fun e w' => e = .returned (.int .i64 (mayE p os)) ∧ Below W.heap.size W w') := Lib.hid fun W hW => may_any p os A c W (h.below hW) hc ((hs.below hW).mono hW.size) (by omega) hI
  have HPN := Lib.hid (polAt_new p os A c w.heap.size w h hs rfl)
  have HSO : Hid (∀ W, Calls Try.prog 49 #[p.val, .slice A os.length c] W fun e w' => e = .returned (.func (.func 72) #[] #[.pointer (some ⟨W.heap.size + 1, 0, none⟩), .pointer (some ⟨W.heap.size, 0, none⟩)]) ∧ (W.alloc (.cells #[.slice p.Ac p.co.length p.cc, .slice p.Af p.fu.length p.cf, .int .i64 p.line, .int .i64 p.cap] 37)).alloc (.cells #[.slice A os.length c] 38) = w') := Lib.hid fun W => sources_any p A os.length c W
  have HE : Hid (planE p os need = if mayE p os ≠ 0 then mayE p os else if need < 0 then 1 else 0) := Lib.hid rfl
  have HL : Hid (planL p os need = if planE p os need = 0 then (plF need (srcs p os)).2 else []) := Lib.hid rfl
  have HMF := Lib.hid (fun h => mayF_of (p := p) (os := os) h)
  have HN := Lib.hid hN
  clear h hs hI hN
  generalize planL p os need = pl at *
  generalize planE p os need = pe at *
  unfold Pol.val at *
  by_cases h0 : mayE p os = 0
  · rw [if_neg (by omega)] at HE
    have F := HMF.out h0
    rw [h0] at HM
    have HF := Lib.hid F
    clear F h0 HMF
    by_cases hn : need < 0
    · rw [if_pos hn] at HE
      rw [HE.out, if_neg (by decide)] at HL
      have hnd : decide (need < 0) = true := decide_eq_true hn
      rw [HE.out, HL.out]
      clear HSO HPN HF HE HL HN
      go_enter Try.func17, Try.ntmps17
      go_wp2_with fail
      refine (HM.out _ HB0.out).mono ?_
      rintro e w1 ⟨rfl, hb1⟩
      have HB1 : Hid (Below w.heap.size w w1) := Lib.hid (HB0.out.trans (hb1.mono HB0.out.size))
      have qn : w1.cell? ⟨w.heap.size + 1, 0, none⟩ = some (.int .i64 need) := (hb1.cell (p := ⟨w.heap.size + 1, 0, none⟩) (by simp)).trans (by rw [cell_new _ _ _ _ (by simp)]; rfl)
      clear hb1
      go_wp2_with fail
      go_ret2
      exact ⟨none, 0, rfl, Seg.nil, HB1.out⟩
    · rw [if_neg hn] at HE
      rw [HE.out, if_pos rfl] at HL
      have hnd : decide (need < 0) = false := decide_eq_false hn
      rw [HE.out]
      clear HE
      refine (callsIn_wide (n := 9)).1 ?_
      refine callsIn_of_wp_marks Try.func17 rfl trivial ?_ rfl
      simp only [Try.ntmps17, List.size_toArray, List.length_cons, List.length_nil, Nat.reduceAdd, Nat.reduceSub, Array.replicate_succ, Array.replicate_zero, List.push_toArray, List.append_toArray, List.nil_append, List.cons_append]
      gi_wp2
      refine ⟨trivial, ?_⟩
      refine (callsIn_wide.2 (HM.out _ HB0.out)).mono ?_
      rintro e w1 ⟨rfl, hb1⟩
      have HB1 : Hid (Below w.heap.size w w1) := Lib.hid (HB0.out.trans (hb1.mono HB0.out.size))
      have q0 : w1.cell? ⟨w.heap.size, 0, none⟩ = some (.slice p.Ac p.co.length p.cc) := (hb1.cell (p := ⟨w.heap.size, 0, none⟩) (by simp; omega)).trans (by rw [cell_old _ _ _ (by simp), cell_new _ _ _ _ rfl]; rfl)
      have q1 : w1.cell? ⟨w.heap.size, 1, none⟩ = some (.slice p.Af p.fu.length p.cf) := (hb1.cell (p := ⟨w.heap.size, 1, none⟩) (by simp; omega)).trans (by rw [cell_old _ _ _ (by simp), cell_new _ _ _ _ rfl]; rfl)
      have q2 : w1.cell? ⟨w.heap.size, 2, none⟩ = some (.int .i64 p.line) := (hb1.cell (p := ⟨w.heap.size, 2, none⟩) (by simp; omega)).trans (by rw [cell_old _ _ _ (by simp), cell_new _ _ _ _ rfl]; rfl)
      have q3 : w1.cell? ⟨w.heap.size, 3, none⟩ = some (.int .i64 p.cap) := (hb1.cell (p := ⟨w.heap.size, 3, none⟩) (by simp; omega)).trans (by rw [cell_old _ _ _ (by simp), cell_new _ _ _ _ rfl]; rfl)
      have qn : w1.cell? ⟨w.heap.size + 1, 0, none⟩ = some (.int .i64 need) := (hb1.cell (p := ⟨w.heap.size + 1, 0, none⟩) (by simp)).trans (by rw [cell_new _ _ _ _ (by simp)]; rfl)
      have qf : w1.frozen? ⟨w.heap.size + 1, 0, none⟩ = false := (hb1.frozen (p := ⟨w.heap.size + 1, 0, none⟩) (by simp)).trans (by rw [World.frozen?_alloc_at _ _ _ _ (by simp)])
      have hlt1 : w.heap.size + 1 < w1.heap.size := by have := hb1.size; simp at this; omega
      have hlt0 : w.heap.size < w1.heap.size := by omega
      clear hb1 HB0
      gi_wp2
      refine ⟨trivial, ?_⟩
      refine (callsIn_wide.2 (HSO.out _)).mono ?_
      rintro e w3 ⟨rfl, hw3⟩
      have hzn : ((w1.alloc (.cells #[.slice none 0 0] 40)).alloc (.cells #[.func (.func 47) #[] #[.pointer (some ⟨w.heap.size + 1, 0, none⟩), .pointer (some ⟨w1.heap.size, 0, none⟩)]] 88)).heap.size = w1.heap.size + 2 := by simp
      have HBN : Hid (Below w1.heap.size w1 ((w1.alloc (.cells #[.slice none 0 0] 40)).alloc (.cells #[.func (.func 47) #[] #[.pointer (some ⟨w.heap.size + 1, 0, none⟩), .pointer (some ⟨w1.heap.size, 0, none⟩)]] 88))) := Lib.hid (((Below.refl _ _).alloc (Nat.le_refl _) _).alloc (by simp) _)
      have HPA := HPN.out _ (KpP.of_below (HB1.out.trans (HBN.out.mono (by omega))))
      rw [hw3, hzn] at HPA
      have hsz3 : w3.heap.size = w1.heap.size + 4 := by rw [← hw3]; simp
      have HB13 : Hid (Below w1.heap.size w1 w3) := Lib.hid (by
        rw [← hw3]
        exact (HBN.out.alloc (by simp; omega) _).alloc (by simp; omega) _)
      have HB3 : Hid (Below w.heap.size w w3) := Lib.hid (HB1.out.trans (HB13.out.mono (by omega)))
      have cn3 := (HB13.out.cell (p := ⟨w.heap.size + 1, 0, none⟩) hlt1).trans qn
      have fn3 := (HB13.out.frozen (p := ⟨w.heap.size + 1, 0, none⟩) hlt1).trans qf
      have cl3 : w3.cell? ⟨w1.heap.size, 0, none⟩ = some (.slice none 0 0) := by
        rw [← hw3, World.cell?_alloc_lt _ _ _ (by simp; try omega), World.cell?_alloc_lt _ _ _ (by simp; try omega), World.cell?_alloc_lt _ _ _ (by simp), cell_new _ _ _ _ rfl]
        rfl
      have fl3 : w3.frozen? ⟨w1.heap.size, 0, none⟩ = false := by
        rw [← hw3, World.frozen?_alloc_past _ _ _ (by simp; omega), World.frozen?_alloc_past _ _ _ (by simp; try omega), World.frozen?_alloc_past _ _ _ (by simp), World.frozen?_alloc_at _ _ _ _ rfl]
      have cf3 : w3.cell? ⟨w1.heap.size + 1, 0, none⟩ = some (.func (.func 47) #[] #[.pointer (some ⟨w.heap.size + 1, 0, none⟩), .pointer (some ⟨w1.heap.size, 0, none⟩)]) := by
        rw [← hw3, World.cell?_alloc_lt _ _ _ (by simp; try omega), World.cell?_alloc_lt _ _ _ (by simp; try omega), cell_new _ _ _ _ (by simp)]
        rfl
      have hw1s := HB1.out.size
      clear hw3 HBN
      rw [hzn]
      clear hzn
      gi_wp2
      refine wpIn_rangeFunc_hand (β := List Dw) rfl (by omega) (gf := 72) (lb := #[.pointer (some ⟨w1.heap.size + 2 + 1, 0, none⟩), .pointer (some ⟨w1.heap.size + 2, 0, none⟩)]) rfl trivial (enters_of Try.func72 (by kernel_rfl) rfl)
        (sources_hands 8 w.heap.size (w1.heap.size + 2 + 1) (w1.heap.size + 2) (by omega) p os A c w3 HPA HF.out.os1 HF.out.len (by have := HF.out.big; omega) hl HF.out.i64.1 HF.out.i64.2.1 HF.out.i64.2.2.1 HF.out.i64.2.2.2)
        kpp_t (kpp_b (by omega) (by omega) (by omega)) (Below.refl _ _) hd_b
        (fun pre W => ((∃ u, PBox (w1.heap.size + 4) W (w.heap.size + 1) w1.heap.size (plF need pre).1 u (plF need pre).2) ∧ W.cell? ⟨w1.heap.size + 1, 0, none⟩ = some (.func (.func 47) #[] #[.pointer (some ⟨w.heap.size + 1, 0, none⟩), .pointer (some ⟨w1.heap.size, 0, none⟩)])) ∧ Below w.heap.size w W)
        (OwnFrom.and (fun s W W' row hs hg hr => ⟨hs.1.imp fun u hu => hu.grown hg hr, cell_kept hs.2 hg (fun r e => (hr r e).2)⟩) (ownFrom_below (Nat.le_refl _) (by omega)))
        ⟨⟨⟨_, cn3, fn3, cl3, fl3, World.ownsRow_nil _ _ _ _, by omega, by omega, by omega, by omega⟩, cf3⟩, HB3.out⟩ ?a1 ?assign ?body ?done
      case assign =>
        intro l v W K hK
        gi_wp2
        exact hK
      case body =>
        rintro l pre y v W ⟨⟨⟨u, hp⟩, hcf⟩, hb9⟩ ⟨Ay, cy, rfl, hsy, hIy, hly⟩ hpf
        have hlen := plF_len need hpf
        have hbig := HF.out.big
        have hfl := HF.out.len
        have HPL := Lib.hid (plan1_any (w1.heap.size + 4) (w.heap.size + 1) w1.heap.size (plF need pre).1 u (plF need pre).2 y Ay cy W hp hsy hIy hly (plF_I64 HN.out pre) (by omega))
        have HSN := Lib.hid (plF_snoc need pre y)
        have HPB := Lib.hid hp
        have hfW : w1.heap.size + 1 < W.heap.size := by have := hp.sz; omega
        clear hlen hfl hbig hp hsy hIy
        gi_wp2
        refine ⟨trivial, ?_⟩
        refine (CallsIn.inRound l (callsIn_wide.2 HPL.out)).mono ?_
        rintro e W' ⟨⟨v9, rfl⟩, u', hp', hk'⟩
        gi_wp2
        have hub : ∀ g, g < w1.heap.size + 4 → some g ≠ u.ownBlock := fun g hg e => by
          have := (HPB.out.own.lt g e.symm).1
          omega
        refine ⟨hk'.oth, ⟨hk'.size, fun k hk hkl => hk'.keep k hkl (by omega) (by omega) (hub k (by omega))⟩, ⟨⟨u', by rw [HSN.out]; exact hp'⟩, (World.cell?_of_block (a := ⟨w1.heap.size + 1, 0, none⟩) (hk'.keep (w1.heap.size + 1) hfW (by omega) (by omega) (hub _ (by omega)))).trans hcf⟩, ?_⟩
        exact ⟨hk'.os.trans hb9.os, hk'.tape.trans hb9.tape, hk'.output.trans hb9.output, Nat.le_trans hb9.size hk'.size, fun k hk => (hk'.keep k (Nat.lt_of_lt_of_le hk hb9.size) (by omega) (by omega) (hub k (by omega))).trans (hb9.block k hk)⟩
      case done =>
        rintro D W hD ⟨⟨⟨u, hp⟩, hcf⟩, hb9⟩ hK
        obtain ⟨A9, c9, rfl⟩ := own_form hp.own
        have HPB := Lib.hid hp
        have cl9 := hp.cl
        clear hp
        gi_wp2
        refine ⟨by simp, .inl ⟨_, _, rfl, run_takeDeferred hK, ?_⟩⟩
        have hgr := HPB.out.grown (B := w3.heap.size) (grownBy_putObj' W D (.deferred none)) (fun r e => by cases e; exact ⟨hD, _, hK, rfl⟩)
        exact ⟨_, results_tmp2 rfl _ _ _, A9, c9, by rw [HL.out]; rfl, by rw [HL.out]; exact Seg.of_own hgr.own, hb9.trans (belowK_b (w := w) (Nat.le_refl _) W D _ _ (by omega) hK rfl rfl)⟩
  · have hpe : pe = mayE p os := by rw [HE.out, if_pos h0]
    subst hpe
    rw [if_neg h0] at HL
    have hen : (mayE p os != 0) = true := by simpa [bne] using h0
    rw [HL.out]
    clear h0 HMF HSO HPN HE HL HN
    generalize mayE p os = me at *
    go_enter Try.func17, Try.ntmps17
    go_wp2_with fail
    refine (HM.out _ HB0.out).mono ?_
    rintro e w1 ⟨rfl, hb1⟩
    have HB1 : Hid (Below w.heap.size w w1) := Lib.hid (HB0.out.trans (hb1.mono HB0.out.size))
    clear hb1
    go_wp2_with fail
    go_ret2
    exact ⟨none, 0, rfl, Seg.nil, HB1.out⟩
end Go.Proofs.Ytglpnpjjjihghaa
