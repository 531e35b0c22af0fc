/-
  What fall.sources hands on, over this seat's translation: a contract for ranges over it.
-/
import Derived.Test.YtglpnpjjjihghaaFl1
import Derived.Test.YtglpnpjjjihghaaRng
namespace Go.Proofs.Ytglpnpjjjihghaa
open Go.RowKit Go.Shelf
attribute [local go_sem] Oper.semAt_some

/-- A pool, as it lies in memory. -/
structure Pol where
  co : List Int
  Ac : Option Addr
  cc : Nat
  fu : List Int
  Af : Option Addr
  cf : Nat
  line : Int
  cap : Int
/-- What a round must keep: the blocks of what came in, and two boxes. -/
structure KpP (n1 bo bp : Nat) (W W' : World) : Prop where
  size : W.heap.size ≤ W'.heap.size
  keep : ∀ k, (k < n1 ∨ k = bo ∨ k = bp) → k < W.heap.size → W'.heap[k]? = W.heap[k]?
theorem KpP.refl (n1 bo bp : Nat) (W : World) : KpP n1 bo bp W W := ⟨Nat.le_refl _, fun _ _ _ => rfl⟩
theorem KpP.trans {n1 bo bp : Nat} {A B C : World} (h : KpP n1 bo bp A B) (k : KpP n1 bo bp B C) : KpP n1 bo bp A C :=
  ⟨Nat.le_trans h.size k.size, fun j hj hl => (k.keep j hj (Nat.lt_of_lt_of_le hl h.size)).trans (h.keep j hj hl)⟩
theorem KpP.of_below {n1 bo bp : Nat} {W W' : World} (h : Below W.heap.size W W') : KpP n1 bo bp W W' := ⟨h.size, fun j _ hl => h.block j hl⟩
theorem KpP.alloc {n1 bo bp : Nat} {W W' : World} (h : KpP n1 bo bp W W') (o : Obj) : KpP n1 bo bp W (W'.alloc o) := h.trans (.of_below ((Below.refl _ _).alloc (Nat.le_refl _) o))
/-- A pool and those who are out, in boxes: read alike in every later world. -/
structure PolAt (n0 : Nat) (W : World) (bo bp : Nat) (p : Pol) (os : List Int) (Ao : Option Addr) (ko : Nat) : Prop where
  o : W.cell? ⟨bo, 0, none⟩ = some (.slice Ao os.length ko)
  c0 : W.cell? ⟨bp, 0, none⟩ = some (.slice p.Ac p.co.length p.cc)
  c1 : W.cell? ⟨bp, 1, none⟩ = some (.slice p.Af p.fu.length p.cf)
  c2 : W.cell? ⟨bp, 2, none⟩ = some (.int .i64 p.line)
  c3 : W.cell? ⟨bp, 3, none⟩ = some (.int .i64 p.cap)
  so : Seg W n0 Ao (os.map (Value.int .i64))
  sc : Seg W n0 p.Ac (p.co.map (Value.int .i64))
  sf : Seg W n0 p.Af (p.fu.map (Value.int .i64))
  lo : bo < W.heap.size
  lp : bp < W.heap.size
  ln : n0 ≤ W.heap.size
theorem PolAt.keep {n0 : Nat} {W W' : World} {bo bp : Nat} {p : Pol} {os : List Int} {Ao : Option Addr} {ko : Nat} (h : PolAt n0 W bo bp p os Ao ko) (hk : KpP n0 bo bp W W') : PolAt n0 W' bo bp p os Ao ko := by
  have ho := hk.keep bo (.inr (.inl rfl)) h.lo
  have hp := hk.keep bp (.inr (.inr rfl)) h.lp
  have hs : ∀ q : Addr, q.block < n0 → W'.cell? q = W.cell? q := fun q hq => World.cell?_of_block (hk.keep q.block (.inl hq) (Nat.lt_of_lt_of_le hq h.ln))
  exact ⟨(World.cell?_of_block (a := ⟨bo, 0, none⟩) ho).trans h.o, (World.cell?_of_block (a := ⟨bp, 0, none⟩) hp).trans h.c0, (World.cell?_of_block (a := ⟨bp, 1, none⟩) hp).trans h.c1, (World.cell?_of_block (a := ⟨bp, 2, none⟩) hp).trans h.c2, (World.cell?_of_block (a := ⟨bp, 3, none⟩) hp).trans h.c3, h.so.keep hs, h.sc.keep hs, h.sf.keep hs, Nat.lt_of_lt_of_le h.lo hk.size, Nat.lt_of_lt_of_le h.lp hk.size, Nat.le_trans h.ln hk.size⟩
/-- What a value is that is handed on. -/
def HdDw (v : Value) (y : List Dw) (W : World) : Prop := ∃ A c, v = .slice A y.length c ∧ Seg W W.heap.size A (dwRows y) ∧ (∀ x ∈ y, I64 x.n) ∧ y.length ≤ 1000
def atI (l : List Int) (m : Int) : Int := l.getD (m - 1).toNat 0
def othersN (fu os : List Int) (k : Nat) : List Dw := (List.range k).flatMap fun (i : Nat) => if os.contains ((i : Int) + 1) then [] else [⟨9, (i : Int) + 1, fu.getD i 0⟩]
def othersL (fu os : List Int) : List Dw := othersN fu os fu.length
theorem othersN_succ {fu os : List Int} {k : Nat} (hk : k < fu.length) (b : Bool) (hb : os.contains ((k : Int) + 1) = b) : othersN fu os (k + 1) = othersN fu os k ++ if b then [] else [⟨9, (k : Int) + 1, fu[k]⟩] := by
  unfold othersN
  rw [List.range_succ, List.flatMap_append, List.flatMap_singleton, hb, List.getD_eq_getElem?_getD, List.getElem?_eq_getElem hk]
  rfl
theorem othersN_len (fu os : List Int) : ∀ k, (othersN fu os k).length ≤ k
  | 0 => by simp [othersN]
  | k + 1 => by
    have := othersN_len fu os k
    unfold othersN at *
    rw [List.range_succ, List.flatMap_append, List.flatMap_singleton, List.length_append]
    have h9 : (if os.contains ((k : Int) + 1) then ([] : List Dw) else [⟨9, (k : Int) + 1, fu.getD k 0⟩]).length ≤ 1 := by split <;> simp
    omega
def srcs (p : Pol) (os : List Int) : List (List Dw) :=
  os.map (fun m => [⟨8, m, atI p.co m⟩]) ++ os.map (fun m => [⟨9, m, atI p.fu m⟩]) ++ [othersL p.fu os, [⟨3, 0, p.line⟩], [⟨4, 0, p.cap⟩]]
theorem alone_hd (W : World) (k m n : Int) (hn : I64 n) : HdDw (.slice (some ⟨W.heap.size, 0, none⟩) 1 1) [⟨k, m, n⟩] (W.alloc (.cells #[.int .i64 k, .int .i64 m, .int .i64 n] 47)) :=
  ⟨_, _, rfl, fun j u hu => ⟨W.heap.size, 0, rfl, by simp, by rw [Nat.zero_add, cell_new _ _ _ j rfl, ← Array.getElem?_toList]; simpa [dwRows, Dw.cells] using hu⟩, by simpa using hn, by simp⟩
theorem othersN_I64 {fu os : List Int} (h : ∀ x ∈ fu, I64 x) (k : Nat) : ∀ x ∈ othersN fu os k, I64 x.n := by
  intro x hx
  unfold othersN at hx
  obtain ⟨i, _, hx⟩ := List.mem_flatMap.1 hx
  split at hx
  · simp at hx
  · simp at hx
    subst hx
    show I64 (fu[i]?.getD 0)
    rcases Nat.lt_or_ge i fu.length with hl | hl
    · rw [List.getElem?_eq_getElem hl]
      exact h _ (List.getElem_mem hl)
    · rw [List.getElem?_eq_none hl]
      unfold I64; simp
theorem atI_at {l : List Int} {s : Nat} (h : s < l.length) : atI l ((s : Int) + 1) = l[s] := by
  unfold atI
  rw [show ((s : Int) + 1 - 1).toNat = s by omega, List.getD_eq_getElem?_getD, List.getElem?_eq_getElem h]
  rfl
theorem map_take_prefix {α β : Type} (f : α → β) (l : List α) (k : Nat) : (l.take k).map f <+: l.map f := ⟨(l.drop k).map f, by rw [← List.map_append, List.take_append_drop]⟩
theorem src_pre1 (p : Pol) (os : List Int) (k : Nat) : (os.take k).map (fun m => [(⟨8, m, atI p.co m⟩ : Dw)]) <+: srcs p os := by
  unfold srcs
  exact ((map_take_prefix _ os k).trans (List.prefix_append _ _)).trans (List.prefix_append _ _)
theorem src_pre2 (p : Pol) (os : List Int) (k : Nat) : os.map (fun m => [(⟨8, m, atI p.co m⟩ : Dw)]) ++ (os.take k).map (fun m => [(⟨9, m, atI p.fu m⟩ : Dw)]) <+: srcs p os := by
  unfold srcs
  exact ((List.prefix_append_right_inj _).2 (map_take_prefix _ os k)).trans (List.prefix_append _ _)
theorem src_pre3 (p : Pol) (os : List Int) : os.map (fun m => [(⟨8, m, atI p.co m⟩ : Dw)]) ++ os.map (fun m => [(⟨9, m, atI p.fu m⟩ : Dw)]) ++ [othersL p.fu os] <+: srcs p os := ⟨[[⟨3, 0, p.line⟩], [⟨4, 0, p.cap⟩]], by simp [srcs]⟩
theorem src_pre4 (p : Pol) (os : List Int) : os.map (fun m => [(⟨8, m, atI p.co m⟩ : Dw)]) ++ os.map (fun m => [(⟨9, m, atI p.fu m⟩ : Dw)]) ++ [othersL p.fu os] ++ [[⟨3, 0, p.line⟩]] <+: srcs p os := ⟨[[⟨4, 0, p.cap⟩]], by simp [srcs]⟩
theorem src_pre5 (p : Pol) (os : List Int) : os.map (fun m => [(⟨8, m, atI p.co m⟩ : Dw)]) ++ os.map (fun m => [(⟨9, m, atI p.fu m⟩ : Dw)]) ++ [othersL p.fu os] ++ [[⟨3, 0, p.line⟩]] ++ [[⟨4, 0, p.cap⟩]] <+: srcs p os := ⟨[], by simp [srcs]⟩
set_option maxRecDepth 100000 in
set_option maxHeartbeats 3200000 in
theorem sources_hands (n n0 bo bp : Nat) (hn : 3 ≤ n) (p : Pol) (os : List Int) (Ao : Option Addr) (ko : Nat) (w : World) (hP : PolAt n0 w bo bp p os Ao ko) (ho : ∀ m ∈ os, 1 ≤ m ∧ m ≤ p.co.length) (hl : p.fu.length = p.co.length) (hc : p.co.length ≤ 1000) (hol : os.length ≤ 1000) (hIc : ∀ x ∈ p.co, I64 x) (hIf : ∀ x ∈ p.fu, I64 x) (hIl : I64 p.line) (hIk : I64 p.cap) :
    Hands Fence.wide n Try.prog 72 #[.pointer (some ⟨bo, 0, none⟩), .pointer (some ⟨bp, 0, none⟩)] HdDw (KpP n0 bo bp) (srcs p os) w := by
  intro l J W hW hJ hY h0
  have hPW := hP.keep (KpP.of_below hW)
  have HIC := Lib.hid hIc
  have HIF := Lib.hid hIf
  have HIL := Lib.hid (And.intro hIl hIk)
  have HJ := Lib.hid hJ
  have HY := Lib.hid hY
  have HO := Lib.hid ho
  have HLE := Lib.hid hl
  have HP := Lib.hid hPW
  have hfl : p.fu.length ≤ p.co.length := by omega
  have hfg : p.co.length ≤ p.fu.length := by omega
  clear hP hJ hY ho hl hW hIc hIf hIl hIk
  refine callsIn_of_wp Try.func72 rfl trivial ?_ rfl
  simp only [Try.ntmps72, List.size_toArray, List.length_cons, List.length_nil, Nat.reduceAdd, Nat.reduceSub, Array.replicate_succ, Array.replicate_zero, List.push_toArray, List.append_toArray, List.nil_append, List.cons_append]
  have o0 := hPW.o
  have c0 := hPW.c0
  have c1 := hPW.c1
  have c2 := hPW.c2
  have c3 := hPW.c3
  clear hPW
  gi_wp2
  gi_loopw [13] (fun i wr => ∃ k : Nat, k ≤ os.length ∧ i = .int .i64 k ∧ Hid (J ((os.take k).map (fun m => [⟨8, m, atI p.co m⟩])) wr ∧ KpP n0 bo bp W wr)) (fun i _ => os.length - (intOf i).toNat)
  case atStart => exact ⟨0, Nat.zero_le _, rfl, h0, KpP.refl _ _ _ _⟩
  case round =>
    obtain ⟨k, hk, rfl, HK⟩ := hrel
    have hPR := HP.out.keep HK.out.2
    have o0 := hPR.o
    have c0 := hPR.c0
    have c1 := hPR.c1
    have c2 := hPR.c2
    have c3 := hPR.c3
    by_cases hlt : k < os.length
    · obtain ⟨ba, oa, rfl, hba, ha⟩ := int_at hPR.so hlt
      obtain ⟨hm1, hm2⟩ := HO.out _ (List.getElem_mem hlt)
      obtain ⟨s, hs, hsm⟩ : ∃ s : Nat, s < p.co.length ∧ os[k] = (s : Int) + 1 := ⟨(os[k] - 1).toNat, by omega, by omega⟩
      obtain ⟨bc, oc, hAc, hbc, hcc⟩ := int_at hPR.sc hs
      rw [hAc] at c0
      rw [hsm] at ha
      have hkw : IntKind.i64.wrap ((s : Int) + 1 - 1) = (s : Int) := by rw [IntWalk.i64_in _ (by omega)]; omega
      have hkw2 : IntKind.i64.wrap (s : Int) = (s : Int) := IntWalk.i64_in _ (by omega)
      have hsb : (s : Int) < (p.co.length : Int) := by omega
      gi_wp2
      refine ⟨trivial, fun _ => by omega, ?_⟩
      refine (callsIn_wide.2 (alone_any _ _ _ _)).mono ?_
      rintro e w2 ⟨rfl, hw2⟩
      have HW2 : Hid (KpP n0 bo bp W w2) := Lib.hid (by rw [← hw2]; exact HK.out.2.alloc _)
      have HJ2 : Hid (J ((os.take k).map (fun m => [⟨8, m, atI p.co m⟩])) w2) := Lib.hid (by rw [← hw2]; exact HJ.out _ _ _ none HK.out.1 (World.grownBy_alloc _ _ _) (fun r e => by cases e))
      have hhd := alone_hd wr 8 ((s : Int) + 1) p.co[s] (HIC.out _ (List.getElem_mem hs))
      rw [hw2] at hhd
      have HSN : Hid ((os.take (k + 1)).map (fun m => [⟨8, m, atI p.co m⟩]) = (os.take k).map (fun m => [⟨8, m, atI p.co m⟩]) ++ [[(⟨8, (s : Int) + 1, p.co[s]⟩ : Dw)]]) := Lib.hid (by
        rw [List.take_succ_eq_append_getElem hlt, List.map_append, List.map_singleton, hsm, atI_at hs])
      obtain ⟨fn, tmps, assign, body, hy, hR⟩ := HY.out _ _ _ _ HJ2.out hhd (by rw [← HSN.out]; exact src_pre1 p os (k + 1))
      clear hhd hw2
      gi_wp2
      refine ⟨fun _ => by omega, ?_⟩
      refine hR.mono ?_
      rintro e W3 ⟨rfl, hJ3, hk3⟩
      rw [← HSN.out] at hJ3
      have HK3 := Lib.hid (And.intro hJ3 (HW2.out.trans hk3))
      clear hJ3 hk3
      gi_wp2
      go_roundw
      case rel => exact ⟨k + 1, by omega, by go_num, HK3⟩
      case measure => simp [intOf]; omega
    · obtain rfl : k = os.length := by omega
      have HK0 : Hid (J (os.map (fun m => [⟨8, m, atI p.co m⟩]) ++ (os.take 0).map (fun m => [⟨9, m, atI p.fu m⟩])) wr ∧ KpP n0 bo bp W wr) := Lib.hid (by
        have := HK.out
        rw [List.take_length] at this
        rw [List.take_zero, List.map_nil, List.append_nil]
        exact this)
      clear HK hPR
      gi_wp2
      gi_loopw [31] (fun i wr => ∃ k : Nat, k ≤ os.length ∧ i = .int .i64 k ∧ Hid (J (os.map (fun m => [⟨8, m, atI p.co m⟩]) ++ (os.take k).map (fun m => [⟨9, m, atI p.fu m⟩])) wr ∧ KpP n0 bo bp W wr)) (fun i _ => os.length - (intOf i).toNat)
      case atStart => exact ⟨0, Nat.zero_le _, rfl, HK0.out⟩
      case round =>
        clear HK0
        obtain ⟨k, hk, rfl, HK⟩ := hrel
        have hPR := HP.out.keep HK.out.2
        have o0 := hPR.o
        have c0 := hPR.c0
        have c1 := hPR.c1
        have c2 := hPR.c2
        have c3 := hPR.c3
        by_cases hlt : k < os.length
        · obtain ⟨ba, oa, rfl, hba, ha⟩ := int_at hPR.so hlt
          obtain ⟨hm1, hm2⟩ := HO.out _ (List.getElem_mem hlt)
          obtain ⟨s, hs, hsm⟩ : ∃ s : Nat, s < p.co.length ∧ os[k] = (s : Int) + 1 := ⟨(os[k] - 1).toNat, by omega, by omega⟩
          have hs2 : s < p.fu.length := by omega
          obtain ⟨bc, oc, hAc, hbc, hcc⟩ := int_at hPR.sf hs2
          rw [hAc] at c1
          rw [hsm] at ha
          have hkw : IntKind.i64.wrap ((s : Int) + 1 - 1) = (s : Int) := by rw [IntWalk.i64_in _ (by omega)]; omega
          have hkw2 : IntKind.i64.wrap (s : Int) = (s : Int) := IntWalk.i64_in _ (by omega)
          have hsb : (s : Int) < (p.fu.length : Int) := by omega
          gi_wp2
          refine ⟨trivial, fun _ => by omega, ?_⟩
          refine (callsIn_wide.2 (alone_any _ _ _ _)).mono ?_
          rintro e w2 ⟨rfl, hw2⟩
          have HW2 : Hid (KpP n0 bo bp W w2) := Lib.hid (by rw [← hw2]; exact HK.out.2.alloc _)
          have HJ2 : Hid (J (os.map (fun m => [⟨8, m, atI p.co m⟩]) ++ (os.take k).map (fun m => [⟨9, m, atI p.fu m⟩])) w2) := Lib.hid (by rw [← hw2]; exact HJ.out _ _ _ none HK.out.1 (World.grownBy_alloc _ _ _) (fun r e => by cases e))
          have hhd := alone_hd wr 9 ((s : Int) + 1) p.fu[s] (HIF.out _ (List.getElem_mem hs2))
          rw [hw2] at hhd
          have HSN : Hid ((os.take (k + 1)).map (fun m => [⟨9, m, atI p.fu m⟩]) = (os.take k).map (fun m => [⟨9, m, atI p.fu m⟩]) ++ [[(⟨9, (s : Int) + 1, p.fu[s]⟩ : Dw)]]) := Lib.hid (by
            rw [List.take_succ_eq_append_getElem hlt, List.map_append, List.map_singleton, hsm, atI_at hs2])
          obtain ⟨fn, tmps, assign, body, hy, hR⟩ := HY.out _ _ _ _ HJ2.out hhd (by rw [List.append_assoc, ← HSN.out]; exact src_pre2 p os (k + 1))
          clear hhd hw2
          gi_wp2
          refine ⟨fun _ => by omega, ?_⟩
          refine hR.mono ?_
          rintro e W3 ⟨rfl, hJ3, hk3⟩
          rw [List.append_assoc, ← HSN.out] at hJ3
          have HK3 := Lib.hid (And.intro hJ3 (HW2.out.trans hk3))
          clear hJ3 hk3
          gi_wp2
          go_roundw
          case rel => exact ⟨k + 1, by omega, by go_num, HK3⟩
          case measure => simp [intOf]; omega
        · obtain rfl : k = os.length := by omega
          have HK1 := HK.out
          rw [List.take_length] at HK1
          have HK0 := Lib.hid HK1
          clear HK HK1 hPR
          obtain ⟨wm, hwm⟩ : ∃ wm, wm = wr := ⟨_, rfl⟩
          subst hwm
          have HOW0 : Hid (wm.ownsRow wm.heap.size 47 3 (.slice none 0 0) (othersN p.fu os 0).length (dwRows (othersN p.fu os 0))) := Lib.hid ⟨by simp [othersN, dwRows], Or.inl ⟨rfl, rfl⟩⟩
          obtain ⟨i0, hi0, hz0, hz1', hz2⟩ := info_parts dw_info
          obtain ⟨Af, hAf0⟩ : ∃ A, A = p.Af := ⟨_, rfl⟩
          rw [← hAf0] at c1
          have HAF := Lib.hid hAf0
          clear hAf0
          gi_wp2
          gi_loopw [8, 50] (fun u i wr => ∃ k : Nat, k ≤ p.fu.length ∧ i = .int .i64 k ∧ Hid (wr.ownsRow wm.heap.size 47 3 u (othersN p.fu os k).length (dwRows (othersN p.fu os k))) ∧ Hid (Below wm.heap.size wm wr)) (fun _ i _ => p.fu.length - (intOf i).toNat)
          case atStart => exact ⟨0, Nat.zero_le _, rfl, HOW0.out, Below.refl _ _⟩
          case round =>
            obtain ⟨k, hk, rfl, HO3, HB3⟩ := hrel
            have hsz := HB3.out.size
            have hPR := (HP.out.keep HK0.out.2).keep (KpP.of_below HB3.out)
            have o0 := hPR.o
            have c0 := hPR.c0
            have c1 := hPR.c1
            have c2 := hPR.c2
            have c3 := hPR.c3
            by_cases hlt : k < p.fu.length
            · have hsf := hPR.sf
              rw [← HAF.out] at hsf c1
              obtain ⟨bf, of, rfl, hbf, hcf⟩ := int_at hsf hlt
              clear hsf
              have HCT := Lib.hid (contains2_any os Ao ko ((k : Int) + 1) wr (hPR.so.mono hPR.ln) (by omega))
              have HSN := Lib.hid (fun b => othersN_succ (os := os) hlt b)
              have hyl := othersN_len p.fu os k
              have hkw : IntKind.i64.wrap ((k : Int) + 1) = (k : Int) + 1 := IntWalk.i64_in _ (by omega)
              have hkb : (k : Int) < (p.fu.length : Int) := by omega
              have hk0 : (0 : Int) ≤ (k : Int) := by omega
              clear hPR
              gi_wp2
              refine ⟨trivial, fun _ => by omega, ?_⟩
              refine (callsIn_wide.2 HCT.out).mono ?_
              rintro e w9 ⟨rfl, rfl⟩
              cases hct : os.contains ((k : Int) + 1) with
              | true =>
                have hO9 := HO3.out
                have HSS := HSN.out true hct
                simp only [if_true, List.append_nil] at HSS
                rw [← HSS] at hO9
                have HO9 := Lib.hid hO9
                clear hO9 HSS HO3 hct
                gi_wp2
                go_roundw
                case rel => exact ⟨k + 1, by omega, by go_num, HO9, HB3⟩
                case measure => simp [intOf]; omega
              | false =>
                have HSS := Lib.hid (HSN.out false hct)
                clear hct
                generalize othersN p.fu os k = ys at *
                gi_wp2_with (gi_at_builtin; refine wpListIn_append_own _ rfl _ _ 86 rfl wm.heap.size 47 i0 _ 3 24 Try.underlying86 hi0 hz0 hz1' hz2 rfl (by decide) _ ys.length (dwRows ys) rfl (HO3.out.alloc _) ⟨wr.heap.size, 0, none⟩ 1 1 (Dw.cells ⟨9, (k : Int) + 1, p.fu[k]⟩) rfl rfl (new_cells _ _ #[_, _, _] (by simp)) (dw_one ⟨9, (k : Int) + 1, p.fu[k]⟩) (by simp only [maxLen]; omega) (by omega) (by simp; omega) ?_)
                intro v' w4 hown1 hgrow1 _
                have HO4 : Hid (w4.ownsRow wm.heap.size 47 3 v' (othersN p.fu os (k + 1)).length (dwRows (othersN p.fu os (k + 1)))) := Lib.hid (by
                  rw [HSS.out]
                  simp only [Bool.false_eq_true, if_false]
                  rw [dwRows_snoc, List.length_append, List.length_singleton]
                  exact hown1)
                have HB4 : Hid (Below wm.heap.size wm w4) := Lib.hid ((HB3.out.alloc hsz _).grown hgrow1 (by simp; omega) (fun j hj => own_base HO3.out j hj))
                clear hown1 hgrow1
                gi_wp2
                go_roundw
                case rel => exact ⟨k + 1, by omega, by go_num, HO4, HB4⟩
                case measure => simp [intOf]; omega
            · obtain rfl : k = p.fu.length := by omega
              obtain ⟨A8, c8, rfl⟩ := own_form HO3.out
              have HJ4 := Lib.hid (HJ.out _ _ _ none HK0.out.1 (show wm.grownBy wr none from ⟨HB3.out.os, HB3.out.tape, HB3.out.output, HB3.out.size, fun j hj _ => HB3.out.block j hj⟩) (fun r e => by cases e))
              have HW4 : Hid (KpP n0 bo bp W wr) := Lib.hid (HK0.out.2.trans (KpP.of_below HB3.out))
              have HH4 : Hid (HdDw (.slice A8 (othersN p.fu os p.fu.length).length c8) (othersL p.fu os) wr) := Lib.hid ⟨A8, c8, rfl, Seg.of_own HO3.out, othersN_I64 HIF.out _, by have := othersN_len p.fu os p.fu.length; show (othersN p.fu os p.fu.length).length ≤ 1000; omega⟩
              clear hPR o0 c0 c1 c2 c3 HO3 HB3 HK0 HOW0
              obtain ⟨fn, tmps, assign, body, hy, hR⟩ := HY.out _ _ _ _ HJ4.out HH4.out (src_pre3 p os)
              gi_wp2
              refine ⟨fun _ => by omega, ?_⟩
              refine hR.mono ?_
              rintro e W3 ⟨rfl, hJ3, hk3⟩
              clear hR hy HH4 HJ4
              have HJ3 := Lib.hid hJ3
              have HW3 := Lib.hid (HW4.out.trans hk3)
              clear hJ3 hk3
              have c2 := (HP.out.keep HW3.out).c2
              gi_wp2
              refine ⟨trivial, fun _ => by omega, ?_⟩
              refine (callsIn_wide.2 (alone_any _ _ _ _)).mono ?_
              rintro e W3a ⟨rfl, hwW3⟩
              have HW3a : Hid (KpP n0 bo bp W W3a) := Lib.hid (by rw [← hwW3]; exact HW3.out.alloc _)
              have HJ3a := Lib.hid (HJ.out _ _ _ none HJ3.out (World.grownBy_alloc W3 (.cells #[.int .i64 3, .int .i64 0, .int .i64 p.line] 47) _) (fun r e => by cases e))
              have hhdW3 := alone_hd W3 3 0 p.line HIL.out.1
              rw [hwW3] at hhdW3 HJ3a
              obtain ⟨fn, tmps, assign, body, hy, hR⟩ := HY.out _ _ _ _ HJ3a.out hhdW3 (src_pre4 p os)
              clear hwW3 hhdW3
              gi_wp2
              refine ⟨fun _ => by omega, ?_⟩
              refine hR.mono ?_
              rintro e W5 ⟨rfl, hHJ5, hHW5⟩
              clear hR hy
              have HJ5 := Lib.hid hHJ5
              have HW5 := Lib.hid (HW3a.out.trans hHW5)
              clear hHJ5 hHW5
              have c3 := (HP.out.keep HW5.out).c3
              gi_wp2
              refine ⟨trivial, fun _ => by omega, ?_⟩
              refine (callsIn_wide.2 (alone_any _ _ _ _)).mono ?_
              rintro e W5a ⟨rfl, hwW5⟩
              have HW5a : Hid (KpP n0 bo bp W W5a) := Lib.hid (by rw [← hwW5]; exact HW5.out.alloc _)
              have HJ5a := Lib.hid (HJ.out _ _ _ none HJ5.out (World.grownBy_alloc W5 (.cells #[.int .i64 4, .int .i64 0, .int .i64 p.cap] 47) _) (fun r e => by cases e))
              have hhdW5 := alone_hd W5 4 0 p.cap HIL.out.2
              rw [hwW5] at hhdW5 HJ5a
              obtain ⟨fn, tmps, assign, body, hy, hR⟩ := HY.out _ _ _ _ HJ5a.out hhdW5 (src_pre5 p os)
              clear hwW5 hhdW5
              gi_wp2
              refine ⟨fun _ => by omega, ?_⟩
              refine hR.mono ?_
              rintro e W7 ⟨rfl, hHJ7, hHW7⟩
              clear hR hy
              have HJ7 := Lib.hid hHJ7
              have HW7 := Lib.hid (HW5a.out.trans hHW7)
              clear hHJ7 hHW7
              gi_wp2
              go_end0
              refine ⟨⟨_, rfl⟩, ?_⟩
              have e9 : srcs p os = os.map (fun m => [⟨8, m, atI p.co m⟩]) ++ os.map (fun m => [⟨9, m, atI p.fu m⟩]) ++ [othersL p.fu os] ++ [[⟨3, 0, p.line⟩]] ++ [[⟨4, 0, p.cap⟩]] := by simp [srcs]
              rw [e9]
              exact HJ7.out
end Go.Proofs.Ytglpnpjjjihghaa
