/-
  What fall.Plan's inner function comes to, over this seat's translation: a contract for callers.
-/
import Derived.Test.YtglpnpjjjihghaaFl5
import Derived.Test.YtglpnpjjjihghaaFl6
import Derived.Laws.AppendOwnNone
namespace Go.Proofs.Ytglpnpjjjihghaa
open Go.RowKit

/-- What the appended one's type is called does not matter. -/
theorem run_app2 (ty : TypeId) (v x : Value) (w : World) : (Builtin.append_ #[40, 86] ty #[v, x]).run Try.prog w = (Builtin.append_ #[40, 40] ty #[v, x]).run Try.prog w := by
  obtain ⟨i0, hi0, _, _, _⟩ := info_parts dw_info
  cases v <;> simp [Builtin.append_, run_underlying Try.underlying40, run_underlying Try.underlying86, Go.sizeOf, typeInfo, hi0]
theorem dws_one (L : List Dw) : ∀ u ∈ dwRows L, u.oneCell' = true := by
  intro u hu
  obtain ⟨x, _, hx⟩ := List.mem_flatMap.1 hu
  exact dw_one x u hx
theorem dws_len (L : List Dw) : (dwRows L).length = L.length * 3 := by
  unfold dwRows
  induction L with
  | nil => rfl
  | cons x L ih => rw [List.flatMap_cons, List.length_append, ih, List.length_cons]; simp [Dw.cells]; omega
set_option maxRecDepth 100000 in
theorem wpList_append_dw {w : World} {ops : Array Oper} {rest : List Oper} {o : Oper} {a : Act} {Q : Exit → Act → World → Prop} (hgd : o.guard = none) (s x : Operand)
    (ho : o.op = .call { callee := .builtin .append, args := #[s, x], argTypes := #[40, 86] }) (base : Nat)
    (v : Value) (n : Nat) (xs : List Value) (hs : a.eval s = v) (hown : w.ownsRow base 47 3 v n xs)
    (lo : Nat) (xv : Value) (L : List Dw) (hx : a.eval x = xv) (hz : w.ownsRow lo 47 3 xv L.length (dwRows L)) (hlen : n + L.length ≤ 1000000) (hbase : base ≤ w.heap.size)
    (h : ∀ v' w', w'.ownsRow base 47 3 v' (n + L.length) (xs ++ dwRows L) → w.grownBy w' v.ownBlock → wpList Try.prog ops Q rest (a.put o.dst v') w') : wpList Try.prog ops Q (o :: rest) a w := by
  obtain ⟨i0, hi0, hz0, hz1, hz2⟩ := info_parts dw_info
  refine wpList_plain hgd fun K hK => ?_
  have hrun : ∃ v' w', (Builtin.append_ #[40, 40] o.type #[v, xv]).run Try.prog w = .ok v' w' ∧ w'.ownsRow base 47 3 v' (n + L.length) (xs ++ dwRows L) ∧ w.grownBy w' v.ownBlock := by
    rcases hz.2 with ⟨rfl, h0⟩ | ⟨g, cap, cur, rfl, _⟩
    · obtain rfl : L = [] := List.eq_nil_of_length_eq_zero h0
      exact ⟨v, w, run_append_owned_none (P := Try.prog) (w := w) base 40 o.type 47 i0 3 Try.underlying40 hi0 v n xs hown, by simpa [dwRows] using hown, ⟨rfl, rfl, rfl, Nat.le_refl _, fun _ _ _ => rfl⟩⟩
    · obtain ⟨v', w', h1, h2, h3, _⟩ := run_append_own (P := Try.prog) w base 40 o.type 47 i0 _ 3 24 Try.underlying40 hi0 hz0 hz1 hz2 rfl (by decide) v n xs hown ⟨g, 0, none⟩ L.length cap (dwRows L) (dws_len L) (fun j u hu => by
        have hseg := Seg.of_own hz
        obtain ⟨b, o', e, _, hc⟩ := hseg j u hu
        have e := Option.some.inj e
        injection e with e1 e2
        subst e1 e2
        have ea : (⟨g, 0, none⟩ : Addr).add j = ⟨g, 0 + j, none⟩ := by unfold Addr.add; split <;> simp_all
        rw [ea]
        exact hc) (dws_one L) (by simp only [maxLen]; omega) (by omega) hbase
      exact ⟨v', w', h1, h2, h3⟩
  obtain ⟨v', w', hr, ho', hg'⟩ := hrun
  rw [← run_app2] at hr
  unfold Oper.wp
  simp [execOp, ho, resolve, invoke, builtin, hs, hx, hr, Result.andThen]
  exact hK _ _ (h v' w' ho' hg')
theorem own_set {w : World} {base : Nat} {e : TypeId} {size n : Nat} {v : Value} {xs : List Value} (h : w.ownsRow base e size v n xs) {p : Addr} (hp : v.ownBlock ≠ some p.block) (u : Value) : (w.setCell p u).ownsRow base e size v n xs :=
  h.kept ⟨rfl, rfl, rfl, by simp [World.setCell], fun i _ hi => Below.heap_setCell _ _ _ _ (fun e => hi (by rw [e]))⟩ (Or.inr hp)
theorem own_is_cells {w : World} {base : Nat} {e : TypeId} {size n : Nat} {v : Value} {xs : List Value} (h : w.ownsRow base e size v n xs) : ∀ (j : Nat) (o : Obj), v.ownBlock = some j → w.heap[j]? = some o → o.isCells = true := by
  intro j o hj ho
  rcases h.2 with ⟨rfl, _⟩ | ⟨g, cap, cur, rfl, _, hh, _⟩
  · cases hj
  · have e2 : g = j := by simpa [Value.ownBlock] using hj
    subst e2
    rw [hh] at ho
    cases ho
    rfl
/-- Two boxes: what is lacking, and what is drawn. -/
structure PBox (lo : Nat) (W : World) (bn bl : Nat) (nd : Int) (u : Value) (L : List Dw) : Prop where
  cn : W.cell? ⟨bn, 0, none⟩ = some (.int .i64 nd)
  fn : W.frozen? ⟨bn, 0, none⟩ = false
  cl : W.cell? ⟨bl, 0, none⟩ = some u
  fl : W.frozen? ⟨bl, 0, none⟩ = false
  own : W.ownsRow lo 47 3 u L.length (dwRows L)
  ne : bn ≠ bl
  ln : bn < lo
  ll : bl < lo
  sz : lo ≤ W.heap.size
/-- What a call of the inner function keeps. -/
structure KpL (bn bl : Nat) (u : Value) (W W' : World) : Prop where
  size : W.heap.size ≤ W'.heap.size
  keep : ∀ k, k < W.heap.size → k ≠ bn → k ≠ bl → some k ≠ u.ownBlock → W'.heap[k]? = W.heap[k]?
  oth : KeepsOthers W W'
  os : W'.os = W.os
  tape : W'.tape = W.tape
  output : W'.output = W.output
/-- One source more. -/
def plS (st : Int × List Dw) (y : List Dw) : Int × List Dw := (IntKind.i64.wrap (st.1 - totV (giveL y st.1)), st.2 ++ giveL y st.1)
theorem giveL_I64 {s : List Dw} {need : Int} (h : ∀ x ∈ s, I64 x.n) : ∀ x ∈ giveL s need, I64 x.n := by
  intro x hx
  unfold giveL dwSome at hx
  have hx := (List.mem_filter.1 hx).1
  obtain ⟨i, hi, rfl⟩ := List.getElem_of_mem hx
  rw [List.getElem_zipWith]
  refine alL_I64 (T := need) (l := dwNs s) (fun z hz => ?_) _ (List.getElem_mem (by rw [List.length_zipWith] at hi; omega))
  obtain ⟨y, hy, rfl⟩ := List.mem_map.1 hz
  exact h y hy
theorem giveL_len (s : List Dw) (need : Int) : (giveL s need).length ≤ s.length := by
  unfold giveL dwSome
  refine Nat.le_trans (List.length_filter_le _ _) ?_
  rw [List.length_zipWith]
  omega
set_option maxRecDepth 100000 in
set_option maxHeartbeats 3200000 in
theorem plan1_any (lo bn bl : Nat) (nd : Int) (u : Value) (L s : List Dw) (A : Option Addr) (c : Nat) (W : World) (h : PBox lo W bn bl nd u L) (hs : Seg W W.heap.size A (dwRows s)) (hI : ∀ x ∈ s, I64 x.n) (hl : s.length ≤ 1000) (hN : I64 nd) (hL : L.length ≤ 100000) :
    Calls Try.prog 47 #[.slice A s.length c, .pointer (some ⟨bn, 0, none⟩), .pointer (some ⟨bl, 0, none⟩)] W fun e W' => (∃ v, e = .returned v) ∧ ∃ u', PBox lo W' bn bl (plS (nd, L) s).1 u' (plS (nd, L) s).2 ∧ KpL bn bl u W W' := by
  have HG : Hid (Calls Try.prog 48 #[.slice A s.length c, .int .i64 nd] W (GotDw (giveL s nd) W)) := Lib.hid (give_any s nd A c W hs hI hN hl)
  have HP := Lib.hid h
  have HGI := Lib.hid (giveL_I64 (need := nd) hI)
  have hgl := giveL_len s nd
  have HPS : Hid (plS (nd, L) s = (IntKind.i64.wrap (nd - totV (giveL s nd)), L ++ giveL s nd)) := Lib.hid rfl
  have cn := h.cn
  have hnW : bn < W.heap.size := Nat.lt_of_lt_of_le h.ln h.sz
  have hlW : bl < W.heap.size := Nat.lt_of_lt_of_le h.ll h.sz
  clear h hs hI
  rw [HPS.out]
  generalize giveL s nd = G at *
  obtain ⟨tg, htg⟩ : ∃ t, t = totV G := ⟨_, rfl⟩
  rw [← htg]
  have HTG := Lib.hid htg
  clear htg
  go_enter Try.func47, Try.ntmps47
  go_wp2_with fail
  refine HG.out.mono ?_
  rintro e w1 ⟨A1, c1, rfl, ho1, hb1⟩
  have HO1 := Lib.hid ho1
  have HB1 := Lib.hid hb1
  have hz1 := hb1.size
  have cn1 := (hb1.cell (p := ⟨bn, 0, none⟩) hnW).trans cn
  have fn1 := (hb1.frozen (p := ⟨bn, 0, none⟩) hnW).trans HP.out.fn
  clear hb1 ho1 cn
  have HTT : Hid (∀ W2, Below w1.heap.size w1 W2 → Calls Try.prog 30 #[.slice A1 G.length c1] W2 fun e w' => e = .returned (.int .i64 tg) ∧ Below W2.heap.size W2 w') := Lib.hid fun W2 hW2 => by rw [HTG.out]; exact total_any G A1 c1 W2 (((Seg.of_own HO1.out).below hW2).mono hW2.size) HGI.out (by omega)
  have hn1 : bn < w1.heap.size := by omega
  have hmx : Try.prog.follows .mixedOrders = true := by kernel_rfl
  go_wp2_with fail
  go_region_with (go_at_call 30; refine (HTT.out _ (by first | exact Below.refl _ _ | exact (Below.refl _ _).drew | exact (Below.refl _ _).drew.drew)).mono ?_; rintro e w2 ⟨rfl, hbw⟩; have hcw := (hbw.cell (p := ⟨bn, 0, none⟩) hn1).trans cn1; have hfw := (hbw.frozen (p := ⟨bn, 0, none⟩) hn1).trans fn1)
  all_goals
    have hb2 : Below w1.heap.size w1 w2 := ((Below.refl _ _).drew).trans hbw
    have hz2 := hb2.size
    have hub : ∀ g, g < lo → u.ownBlock ≠ some g := fun g hg e => by
      have := (HP.out.own.lt g e).1
      omega
    have hul := HP.out.ln
    have hull := HP.out.ll
    have hgb : (Value.slice A1 G.length c1).ownBlock ≠ some bn := fun e => by
      have := (HO1.out.lt bn e).1
      omega
    have hne := HP.out.ne
    have hlo := HP.out.sz
    have HU2 : Hid (w2.ownsRow lo 47 3 u L.length (dwRows L)) := Lib.hid (own_below' (own_below' HP.out.own HB1.out) hb2)
    have HU5 : Hid ((w2.setCell ⟨bn, 0, none⟩ (.int .i64 (IntKind.i64.wrap (nd - tg)))).ownsRow lo 47 3 u L.length (dwRows L)) := Lib.hid (own_set HU2.out (hub bn hul) _)
    have HG5 : Hid ((w2.setCell ⟨bn, 0, none⟩ (.int .i64 (IntKind.i64.wrap (nd - tg)))).ownsRow W.heap.size 47 3 (.slice A1 G.length c1) G.length (dwRows G)) := Lib.hid (own_set (own_below' HO1.out hb2) hgb _)
    have cl5 : (w2.setCell ⟨bn, 0, none⟩ (.int .i64 (IntKind.i64.wrap (nd - tg)))).cell? ⟨bl, 0, none⟩ = some u := (World.cell?_of_block (a := ⟨bl, 0, none⟩) (Below.heap_setCell _ _ _ _ (by simp only [ne_eq]; omega))).trans ((hb2.cell (p := ⟨bl, 0, none⟩) (by show bl < w1.heap.size; omega)).trans ((HB1.out.cell (p := ⟨bl, 0, none⟩) hlW).trans HP.out.cl))
    have fl5 : (w2.setCell ⟨bn, 0, none⟩ (.int .i64 (IntKind.i64.wrap (nd - tg)))).frozen? ⟨bl, 0, none⟩ = false := (World.frozen?_of_block (a := ⟨bl, 0, none⟩) (Below.heap_setCell _ _ _ _ (by simp only [ne_eq]; omega))).trans ((hb2.frozen (p := ⟨bl, 0, none⟩) (by show bl < w1.heap.size; omega)).trans ((HB1.out.frozen (p := ⟨bl, 0, none⟩) hlW).trans HP.out.fl))
    have cn5 : (w2.setCell ⟨bn, 0, none⟩ (.int .i64 (IntKind.i64.wrap (nd - tg)))).cell? ⟨bn, 0, none⟩ = some (.int .i64 (IntKind.i64.wrap (nd - tg))) := World.cell?_setCell_same' _ _ _ (by rw [hcw]; rfl)
    have fn5 : (w2.setCell ⟨bn, 0, none⟩ (.int .i64 (IntKind.i64.wrap (nd - tg)))).frozen? ⟨bn, 0, none⟩ = false := by rw [World.frozen?_setCell]; exact hfw
    have hs5 : W.heap.size ≤ (w2.setCell ⟨bn, 0, none⟩ (.int .i64 (IntKind.i64.wrap (nd - tg)))).heap.size := by simp [World.setCell]; omega
    have HK5 : Hid (KpL bn bl u W (w2.setCell ⟨bn, 0, none⟩ (.int .i64 (IntKind.i64.wrap (nd - tg))))) := Lib.hid (by
      have hbb := HB1.out.trans (hb2.mono hz1)
      have hbs := hbb.setCell (p := ⟨bn, 0, none⟩)
      refine ⟨hs5, fun k hk h1 _ _ => (Below.heap_setCell _ _ _ _ (by simp only [ne_eq]; omega)).trans (hbb.block k hk), (keeps_below hbb).trans (KeepsOthers.setCell _ _ _), ?_, ?_, ?_⟩
      · exact hbb.os
      · exact hbb.tape
      · exact hbb.output)
    clear hbw hcw hfw hb2
    generalize w2.setCell ⟨bn, 0, none⟩ (.int .i64 (IntKind.i64.wrap (nd - tg))) = w5 at *
    go_wp2_with (at_builtin; refine wpList_append_dw rfl _ _ rfl lo u L.length (dwRows L) rfl HU5.out W.heap.size _ G rfl HG5.out (by omega) (by omega) ?_)
    intro v' w6 ho6 hg6
    obtain ⟨A7, c7, rfl⟩ := own_form ho6
    have hn5 : bn < w5.heap.size := by omega
    have hl5 : bl < w5.heap.size := by omega
    have e6n := hg6.block bn hn5 (fun e => hub bn hul e.symm)
    have e6l := hg6.block bl hl5 (fun e => hub bl hull e.symm)
    have cl6 : w6.cell? ⟨bl, 0, none⟩ = some u := (World.cell?_of_block (a := ⟨bl, 0, none⟩) e6l).trans cl5
    have fl6 : w6.frozen? ⟨bl, 0, none⟩ = false := (World.frozen?_of_block (a := ⟨bl, 0, none⟩) e6l).trans fl5
    have cn6 := (World.cell?_of_block (a := ⟨bn, 0, none⟩) e6n).trans cn5
    have fn6 := (World.frozen?_of_block (a := ⟨bn, 0, none⟩) e6n).trans fn5
    have HF : Hid (PBox lo (w6.setCell ⟨bl, 0, none⟩ (.slice A7 (L.length + G.length) c7)) bn bl (IntKind.i64.wrap (nd - tg)) (.slice A7 (L.length + G.length) c7) (L ++ G) ∧ KpL bn bl u W (w6.setCell ⟨bl, 0, none⟩ (.slice A7 (L.length + G.length) c7))) := Lib.hid (by
      have hvb : (Value.slice A7 (L.length + G.length) c7).ownBlock ≠ some bl := fun e => by
        have := (ho6.lt bl e).1
        omega
      have e7n : (w6.setCell ⟨bl, 0, none⟩ (.slice A7 (L.length + G.length) c7)).heap[bn]? = w6.heap[bn]? := Below.heap_setCell _ _ _ _ (by simp only [ne_eq]; omega)
      refine ⟨⟨(World.cell?_of_block (a := ⟨bn, 0, none⟩) e7n).trans cn6, (World.frozen?_of_block (a := ⟨bn, 0, none⟩) e7n).trans fn6, World.cell?_setCell_same' _ _ _ (by rw [cl6]; rfl), by rw [World.frozen?_setCell]; exact fl6, ?_, hne, hul, hull, ?_⟩, ⟨?_, fun k hk h1 h2 h3 => ?_, ?_, ?_, ?_, ?_⟩⟩
      · rw [List.length_append, show dwRows (L ++ G) = dwRows L ++ dwRows G by simp [dwRows]]
        exact own_set ho6 hvb _
      · have := hg6.size
        simp [World.setCell]; omega
      · have := hg6.size
        simp [World.setCell]; omega
      · exact (Below.heap_setCell _ _ _ _ (by simp only [ne_eq]; omega)).trans ((hg6.block k (by have := HK5.out.size; omega) h3).trans (HK5.out.keep k hk h1 h2 h3))
      · exact (HK5.out.oth.trans (KeepsOthers.of_grownBy hg6 (own_is_cells HU5.out))).trans (KeepsOthers.setCell _ _ _)
      · exact hg6.os.trans HK5.out.os
      · exact hg6.tape.trans HK5.out.tape
      · exact hg6.output.trans HK5.out.output)
    clear ho6 hg6 e6n e6l
    go_wp2_with fail
    go_end0
    exact ⟨⟨_, rfl⟩, _, HF.out⟩
end Go.Proofs.Ytglpnpjjjihghaa
