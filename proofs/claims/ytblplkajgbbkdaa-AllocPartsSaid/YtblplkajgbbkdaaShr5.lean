/-
  What share.apportion comes to, over this seat's translation: a contract for callers.
-/
import Derived.Test.YtblplkajgbbkdaaShr4
import Derived.Deep.RegionHeld3
namespace Go.Proofs.Ytblplkajgbbkdaa
open Go.RowKit Go.Lib Go.Sort Go.Shelf Go.Proofs.Ytblplkajgbbkdaa.StableLaw Go.Proofs.Ytblplkajgbbkdaa.ShareLaw

/-- The weights, by places. -/
def wf (l : List Int) : Nat → Int := fun i => l.getD i 0
theorem wf_at {l : List Int} {i : Nat} (h : i < l.length) : wf l i = l[i] := by unfold wf; simp [h]
theorem sumN_wf (l : List Int) : ∀ k, k ≤ l.length → sumN (wf l) k = sumI (l.take k)
  | 0, _ => by simp [sumN, sumI]
  | k + 1, h => by rw [sumN, sumN_wf l k (by omega), sumI_snoc (by omega), wf_at (by omega)]
theorem sum_wf (l : List Int) : sumN (wf l) l.length = sumI l := by rw [sumN_wf l _ (Nat.le_refl _), List.take_length]
theorem mem_le_sum {l : List Int} (h : ∀ x ∈ l, 0 ≤ x) : ∀ x ∈ l, x ≤ sumI l := by
  induction l with
  | nil => intro x hx; cases hx
  | cons a l ih =>
    have hs : 0 ≤ sumI l := by
      have : ∀ m : List Int, (∀ x ∈ m, 0 ≤ x) → 0 ≤ sumI m := by
        intro m
        induction m with
        | nil => intro _; simp [sumI]
        | cons b m ih2 =>
          intro hm
          have h1 := hm b (by simp)
          have h2 := ih2 fun x hx => hm x (by simp [hx])
          simp only [sumI]; omega
      exact this l fun x hx => h x (by simp [hx])
    have ha := h a (by simp)
    intro x hx
    simp only [sumI]
    rcases List.mem_cons.1 hx with rfl | hx
    · omega
    · have := ih (fun y hy => h y (by simp [hy])) x hx; omega
theorem quotaI_any (T S : Int) (W : Nat → Int) (i : Nat) (w : World) (hT0 : 0 ≤ T) (hT : T ≤ 9223372036854775807) (hw0 : 0 ≤ W i) (hw : W i ≤ S) (h0 : 0 < S) (hS : S ≤ 9223372036854775807) :
    Calls Try.prog 22 #[.int .i64 T, .int .i64 (W i), .int .i64 S] w fun e w' => e = .returned (.tuple #[.int .i64 (quo T S W i), .int .i64 (rst T S W i), .int .i64 0]) ∧ Below w.heap.size w w' := by
  unfold quo rst
  generalize W i = u at *
  obtain ⟨Tn, rfl⟩ := Int.eq_ofNat_of_zero_le hT0
  obtain ⟨un, rfl⟩ := Int.eq_ofNat_of_zero_le hw0
  obtain ⟨Sn, rfl⟩ := Int.eq_ofNat_of_zero_le (show 0 ≤ S by omega)
  refine (quota_any Tn un Sn w (by omega) (by omega) (by omega) (by omega)).mono ?_
  rintro e w' ⟨rfl, hb⟩
  refine ⟨?_, hb⟩
  rw [Int.natCast_ediv, Int.natCast_emod, Int.natCast_mul]

/-- What the call has made, round by round. -/
structure Ap (w : World) (bp br bc bo n : Nat) (ps rs os : List Int) (wr : World) : Prop where
  p : Rowb wr bp 2 ps
  r : Rowb wr br 2 rs
  c : wr.heap[bc]? = some (.cells #[.slice (some ⟨br, 0, none⟩) n n] 22 (0, 0))
  o : Rowb wr bo 3 os
  b : Below w.heap.size w wr
  sz : bo < wr.heap.size
  d0 : w.heap.size ≤ bp
  d1 : bp < br
  d2 : br < bc
  d3 : bc < bo
section
variable {w wr w' : World} {bp br bc bo n : Nat} {ps rs os : List Int}
theorem Ap.cc (h : Ap w bp br bc bo n ps rs os wr) : wr.cell? ⟨bc, 0, none⟩ = some (.slice (some ⟨br, 0, none⟩) n n) := by rw [cell_of_row _ _ 0 _ 22 (0, 0) h.c]; rfl
theorem Ap.below (h : Ap w bp br bc bo n ps rs os wr) (hb : Below wr.heap.size wr w') : Ap w bp br bc bo n ps rs os w' := by
  have s := h.sz
  have d0 := h.d0; have d1 := h.d1; have d2 := h.d2; have d3 := h.d3
  exact ⟨h.p.below (by omega) hb, h.r.below (by omega) hb, (hb.block _ (by omega)).trans h.c, h.o.below (by omega) hb, h.b.trans (hb.mono (by omega)), by have := hb.size; omega, d0, d1, d2, d3⟩
theorem Ap.drew (h : Ap w bp br bc bo n ps rs os wr) : Ap w bp br bc bo n ps rs os wr.drew := ⟨h.p, h.r, h.c, h.o, h.b.drew, h.sz, h.d0, h.d1, h.d2, h.d3⟩
theorem Ap.setP (h : Ap w bp br bc bo n ps rs os wr) (i : Nat) (v : Int) : Ap w bp br bc bo n (ps.set i v) rs os (wr.setCell ⟨bp, i, none⟩ (.int .i64 v)) := by
  have d0 := h.d0; have d1 := h.d1; have d2 := h.d2; have d3 := h.d3
  exact ⟨h.p.set i v, h.r.other _ (by dsimp only; omega), (Deep.blk_setCell_other _ _ _ _ (by dsimp only; omega)).trans h.c, h.o.other _ (by dsimp only; omega), h.b.setCell (by dsimp only; omega) _, by rw [Deep.nblk_setCell]; exact h.sz, d0, d1, d2, d3⟩
theorem Ap.setR (h : Ap w bp br bc bo n ps rs os wr) (i : Nat) (v : Int) : Ap w bp br bc bo n ps (rs.set i v) os (wr.setCell ⟨br, i, none⟩ (.int .i64 v)) := by
  have d0 := h.d0; have d1 := h.d1; have d2 := h.d2; have d3 := h.d3
  exact ⟨h.p.other _ (by dsimp only; omega), h.r.set i v, (Deep.blk_setCell_other _ _ _ _ (by dsimp only; omega)).trans h.c, h.o.other _ (by dsimp only; omega), h.b.setCell (by dsimp only; omega) _, by rw [Deep.nblk_setCell]; exact h.sz, d0, d1, d2, d3⟩
theorem Ap.setO (h : Ap w bp br bc bo n ps rs os wr) (i : Nat) (v : Int) : Ap w bp br bc bo n ps rs (os.set i v) (wr.setCell ⟨bo, i, none⟩ (.int .i64 v)) := by
  have d0 := h.d0; have d1 := h.d1; have d2 := h.d2; have d3 := h.d3
  exact ⟨h.p.other _ (by dsimp only; omega), h.r.other _ (by dsimp only; omega), (Deep.blk_setCell_other _ _ _ _ (by dsimp only; omega)).trans h.c, h.o.set i v, h.b.setCell (by dsimp only; omega) _, by rw [Deep.nblk_setCell]; exact h.sz, d0, d1, d2, d3⟩
theorem rep_arr (n : Nat) : ((List.replicate n (0 : Int)).map (Value.int .i64)).toArray = Array.replicate n (Value.int .i64 0) := by simp
theorem Ap.start (w : World) (n : Nat) : Ap w w.heap.size (w.heap.size + 1) (w.heap.size + 1 + 1) (w.heap.size + 1 + 1 + 1) n (List.replicate n 0) (List.replicate n 0) (List.replicate n 0) ((((w.alloc (.cells (Array.replicate n (Value.int .i64 0)) 2)).alloc (.cells (Array.replicate n (Value.int .i64 0)) 2)).alloc (.cells #[.slice (some ⟨w.heap.size + 1, 0, none⟩) n n] 22)).alloc (.cells (Array.replicate n (Value.int .i64 0)) 3)) := by
  have n1 := Deep.nblk_alloc
  rw [← rep_arr]
  generalize List.replicate n (0 : Int) = zs
  refine ⟨?_, ?_, ?_, ?_, ?_, by rw [n1, n1, n1, n1]; omega, by omega, by omega, by omega, by omega⟩
  · exact (((Rowb.new w 2 zs).alloc (by rw [n1]; omega) _).alloc (by rw [n1, n1]; omega) _).alloc (by rw [n1, n1, n1]; omega) _
  · have h := Rowb.new (w.alloc (.cells (zs.map (Value.int .i64)).toArray 2)) 2 zs
    rw [n1] at h
    exact (h.alloc (by rw [n1, n1]; omega) _).alloc (by rw [n1, n1, n1]; omega) _
  · rw [Deep.blk_alloc_lt _ _ _ (by rw [n1, n1, n1]; omega)]
    have := Deep.blk_alloc_new ((w.alloc (.cells (zs.map (Value.int .i64)).toArray 2)).alloc (.cells (zs.map (Value.int .i64)).toArray 2)) (.cells #[.slice (some ⟨w.heap.size + 1, 0, none⟩) n n] 22)
    rw [n1, n1] at this
    exact this
  · have := Rowb.new (((w.alloc (.cells (zs.map (Value.int .i64)).toArray 2)).alloc (.cells (zs.map (Value.int .i64)).toArray 2)).alloc (.cells #[.slice (some ⟨w.heap.size + 1, 0, none⟩) n n] 22)) 3 zs
    rw [n1, n1, n1] at this
    exact this
  · exact ((((Below.refl _ _).alloc (Nat.le_refl _) _).alloc (by simp) _).alloc (by simp; omega) _).alloc (by simp; omega) _
/-- What the region of the parts and rests asks. -/
structure RC (bp br bc n k b o : Nat) (x : Int) (w : World) : Prop where
  c : w.cell? ⟨bc, 0, none⟩ = some (.slice (some ⟨br, 0, none⟩) n n)
  l : w.cell? ⟨b, o + k, none⟩ = some (.int .i64 x)
  p : ∃ u, w.cell? ⟨bp, k, none⟩ = some u
  pf : w.frozen? ⟨bp, k, none⟩ = false
  r : ∃ u, w.cell? ⟨br, k, none⟩ = some u
  rf : w.frozen? ⟨br, k, none⟩ = false
end
theorem sumN_upto {f : Nat → Int} {n : Nat} (h : ∀ i, i < n → 0 ≤ f i) : ∀ k, k ≤ n → sumN f k ≤ sumN f n := by
  induction n with
  | zero => intro k hk; obtain rfl : k = 0 := by omega
            exact Int.le_refl _
  | succ n ih =>
    intro k hk
    by_cases c : k = n + 1
    · rw [c]; exact Int.le_refl _
    · have h1 := ih (fun i hi => h i (by omega)) k (by omega)
      have h2 := h n (by omega)
      rw [sumN]; omega
theorem mk0 (n k : Nat) (g : Nat → Int) (hk : k < n) : k < (rowF n (fun i => if i < k then g i else 0)).length := by rw [rowF_len]; exact hk
set_option maxHeartbeats 3200000 in
set_option maxRecDepth 1000000 in
theorem apportion_any (T : Int) (l : List Int) (A : Option Addr) (c : Nat) (w : World) (hT0 : 0 ≤ T) (hT : T ≤ 9223372036854775807) (hl : ∀ x ∈ l, 0 ≤ x) (h0 : 0 < sumI l) (hS : sumI l ≤ 9223372036854775807) (hn : l.length ≤ 1024) (hs : Seg w w.heap.size A (l.map (Value.int .i64))) :
    Calls Try.prog 47 #[.int .i64 T, .slice A l.length c, .int .i64 (sumI l)] w fun e w' => e = .returned (.slice (some ⟨w.heap.size, 0, none⟩) l.length l.length) ∧ Rowb w' w.heap.size 2 (rowF l.length (ShareLaw.part T (sumI l) (wf l) l.length)) ∧ Below w.heap.size w w' ∧ w.heap.size < w'.heap.size := by
  have HS := Lib.hid hs
  have HL := Lib.hid hl
  have HSUM := Lib.hid (sum_wf l)
  have HLE := Lib.hid (mem_le_sum hl)
  clear hs hl
  have mk1 := make64 l.length (by omega)
  have mk2 := makeInt l.length (by omega)
  have HA0 := Lib.hid (Ap.start w l.length)
  generalize hZ : sumI l = S at *
  have HZ := Lib.hid hZ
  clear hZ
  obtain ⟨W, hW⟩ : ∃ W, W = wf l := ⟨_, rfl⟩
  have HW := Lib.hid hW
  rw [← hW] at HSUM ⊢
  clear hW
  have HW0 : Hid (∀ i, i < l.length → 0 ≤ W i ∧ W i ≤ S) := fun i hi => by
    rw [HW.out, wf_at hi]
    exact ⟨HL.out _ (List.getElem_mem hi), HLE.out _ (List.getElem_mem hi)⟩
  have HBQ : Hid (∀ k, k < l.length → 0 ≤ quo T S W k ∧ quo T S W k ≤ T) := fun k hk => ⟨quo_nonneg h0 hT0 (HW0.out k hk).1, quo_le h0 hT0 (HW0.out k hk).2⟩
  have HBD : Hid (∀ k, k ≤ l.length → 0 ≤ sumN (quo T S W) k ∧ sumN (quo T S W) k ≤ T) := fun k hk => by
    have h9 := (quo_sum_le h0 hT0 (fun i hi => (HW0.out i hi).1) HSUM.out).2
    exact ⟨sumN_nonneg fun i hi => (HBQ.out i (by omega)).1, Int.le_trans (sumN_upto (fun i hi => (HBQ.out i hi).1) k hk) h9⟩
  have HPL : Hid (∀ k, k < l.length → ShareLaw.part T S W l.length k ≤ T) := fun k hk => part_le h0 hT0 HSUM.out (HW0.out k hk).2
  go_enter Try.func47, Try.ntmps47
  go_wp2_with fail
  clear mk1 mk2
  rw [← rowF_zero (g := quo T S W)] at HA0
  obtain ⟨bp, hbp⟩ : ∃ z, z = w.heap.size := ⟨_, rfl⟩
  generalize w.heap.size + 1 + 1 + 1 = bo at HA0 ⊢
  generalize w.heap.size + 1 + 1 = bc at HA0 ⊢
  generalize w.heap.size + 1 = br at HA0 ⊢
  go_loopw [10, 11, 25] (fun u _ i wr => ∃ k : Nat, k ≤ l.length ∧ i = .int .i64 k ∧ u = .int .i64 (T - sumN (quo T S W) k) ∧ Hid (Ap w w.heap.size br bc bo l.length (rowF l.length (fun i => if i < k then quo T S W i else 0)) (rowF l.length (fun i => if i < k then rst T S W i else 0)) (rowF l.length (fun i => if i < k then (i : Int) else 0)) wr)) (fun _ _ i _ => l.length - (intOf i).toNat)
  case atStart => exact ⟨0, Nat.zero_le _, rfl, by simp [sumN], HA0⟩
  case round =>
    clear HA0
    obtain ⟨k, hk, rfl, rfl, HA⟩ := hrel
    by_cases hlt : k < l.length
    · obtain ⟨b, o, rfl, hb, hc0⟩ := HS.out.at (k := k) (by simpa using hlt)
      have ex : l[k] = W k := by rw [HW.out, wf_at hlt]
      have hwk0 : 0 ≤ W k := by rw [← ex]; exact HL.out _ (List.getElem_mem hlt)
      have hwkS : W k ≤ S := by rw [← ex]; exact HLE.out _ (List.getElem_mem hlt)
      rw [List.getElem_map, ex] at hc0
      have HQ := fun W' => Lib.hid (quotaI_any T S W k W' hT0 hT hwk0 hwkS h0 hS)
      have HC0 := Lib.hid hc0
      clear ex hwk0 hwkS hc0
      have HK : Hid (∀ W', Below wr.heap.size wr W' → RC w.heap.size br bc l.length k b o (W k) W') := by
        intro W' hB
        have h2 := HA.out.below hB
        exact ⟨h2.cc, (h2.b.cell (p := ⟨b, o + k, none⟩) hb).trans HC0.out, ⟨_, h2.p.cell (by rw [rowF_len]; exact hlt)⟩, h2.p.free k, ⟨_, h2.r.cell (by rw [rowF_len]; exact hlt)⟩, h2.r.free k⟩
      have HR0 := Lib.hid (HK.out _ ((Below.refl _ _).drew))
      have d1 := HA.out.d1
      have d2 := HA.out.d2
      have i1 : (0 : Int) ≤ (k : Int) := by omega
      have i2 : (k : Int) < (l.length : Int) := by omega
      have n1 : ¬ bc = w.heap.size := by omega
      have n2 : ¬ b = w.heap.size := by omega
      have n3 : ¬ bc = br := by omega
      have n4 : ¬ b = br := by omega
      have n5 : ¬ br = w.heap.size := by omega
      have n6 : ¬ w.heap.size = br := by omega
      have n7 : ¬ w.heap.size = bc := by omega
      have n8 : ¬ w.heap.size = b := by omega
      have n9 : ¬ br = bc := by omega
      have n10 : ¬ br = b := by omega
      go_wp2_with fail
      go_region_held3 (fun w' => w'.cell? ⟨bc, 0, none⟩ = some (.slice (some ⟨br, 0, none⟩) l.length l.length) ∧ w'.cell? ⟨b, o + k, none⟩ = some (.int .i64 (W k))) (first | exact ⟨HR0.out.c, HR0.out.l⟩ | exact ⟨HR1.out.c, HR1.out.l⟩ | go_keep) ((go_at_call 22; refine (HQ _).out.mono ?_; rintro e w1 ⟨rfl, hb1⟩; have HB1 := Lib.hid (((Below.refl wr.heap.size wr).drew).trans hb1); have HR1 := Lib.hid (HK.out w1 HB1.out); obtain ⟨u1, c1⟩ := HR1.out.p; have f1 := HR1.out.pf; obtain ⟨u2, c2⟩ := HR1.out.r; have f2 := HR1.out.rf; clear hb1))
      have HA2 := Lib.hid (((HA.out.below HB1.out).setP k (quo T S W k)).setR k (rst T S W k))
      rw [rowF_step, rowF_step] at HA2
      generalize (w1.setCell ⟨w.heap.size, k, none⟩ (.int .i64 (quo T S W k))).setCell ⟨br, k, none⟩ (.int .i64 (rst T S W k)) = w2 at HA2 ⊢
      clear c1 c2 f1 f2 HR1 HB1 HK HR0 HQ HA n1 n2 n3 n4 n5 n6 n7 n8 n9 n10 u1 u2 i1 i2
      have c3 : w2.cell? ⟨w.heap.size, k, none⟩ = some (.int .i64 (quo T S W k)) := by
        rw [HA2.out.p.cell (by rw [rowF_len]; exact hlt), rowF_at, if_pos (by omega)]
      have c4 : w2.cell? ⟨bo, k, none⟩ = some (.int .i64 0) := by
        rw [HA2.out.o.cell (by rw [rowF_len]; exact hlt), rowF_at, if_neg (by omega)]
      have f4 := HA2.out.o.free k
      have d3 := HA2.out.d3
      have n1 : ¬ bo = w.heap.size := by omega
      have n2 : ¬ w.heap.size = bo := by omega
      have HA3 := Lib.hid (HA2.out.setO k (k : Int))
      rw [rowF_step (g := fun i => (i : Int))] at HA3
      have hb1 := HBD.out k hk
      have hb2 := HBQ.out k hlt
      have es : T - sumN (quo T S W) k - quo T S W k = T - sumN (quo T S W) (k + 1) := by rw [sumN]; omega
      have HES := Lib.hid es
      clear es
      obtain ⟨g1, g2⟩ := hb1
      obtain ⟨g3, g4⟩ := hb2
      go_wp2_with fail
      go_roundw
      case rel => exact ⟨k + 1, by omega, by go_num, by rw [← HES.out], HA3⟩
      case measure => simp [intOf]; omega
    · obtain rfl : k = l.length := by omega
      rw [rowF_all, rowF_all, rowF_all] at HA
      have d0 := HA.out.d0
      have d1 := HA.out.d1
      have d2 := HA.out.d2
      have d3 := HA.out.d3
      have sz := HA.out.sz
      have HC := Lib.hid (sortWho_any bc br bo l.length (rst T S W) wr (by omega) HA.out.c HA.out.r HA.out.o (by omega) (by omega) (by omega) (by omega) (by omega))
      go_wp2_with fail
      refine HC.out.mono ?_
      rintro e w2 ⟨rfl, who, ho, hcell, hg⟩
      have HO := Lib.hid ho
      have HCELL := Lib.hid hcell
      have HP : Hid (Rowb w2 w.heap.size 2 (rowF l.length (partT T S W l.length 0)) ∧ Below w.heap.size w w2) := by
        refine ⟨?_, HA.out.b.grown hg (by omega) (fun k hk => by injection hk; omega)⟩
        have h1 := HA.out.p.of_block (hg.block _ (by omega) (fun e => by injection e; omega))
        have e1 : rowF l.length (quo T S W) = rowF l.length (partT T S W l.length 0) := rowF_congr fun i _ => by unfold partT; rw [if_neg (by omega)]; omega
        rw [e1] at h1
        exact h1
      have hsz2 : bo < w2.heap.size := by have := hg.size; omega
      clear ho hcell hg HC HA
      obtain ⟨L, hL⟩ : ∃ L, L = left T S W l.length := ⟨_, rfl⟩
      have HLB := Lib.hid (left_bd (T := T) (S := S) (W := W) (n := l.length) h0 HSUM.out)
      have HLN := Lib.hid (left_le (T := T) (S := S) (W := W) (n := l.length) h0 HSUM.out)
      have eL : T - sumN (quo T S W) l.length = L := by rw [hL]; rfl
      have hL0 : 0 ≤ L := by rw [hL]; exact HLB.out.1
      have hLn : L ≤ (l.length : Int) := by rw [hL]; exact HLN.out
      have HEL := Lib.hid hL
      rw [eL]
      clear hL eL
      go_wp2_with fail
      go_loopw [12, 60] (fun _ i wr => ∃ t : Nat, (t : Int) ≤ L ∧ i = .int .i64 t ∧ bo < wr.heap.size ∧ Hid (∀ t, t < l.length → wr.cell? ⟨bo, t, none⟩ = some (.int .i64 (who t : Int))) ∧ Hid (Rowb wr w.heap.size 2 (rowF l.length (partT T S W l.length t)) ∧ Below w.heap.size w wr)) (fun _ i _ => l.length - (intOf i).toNat)
      case atStart => exact ⟨0, hL0, rfl, hsz2, HCELL, HP⟩
      case round =>
        clear HCELL HP hsz2
        obtain ⟨t, ht, rfl, hsz2, HCELL, HP⟩ := hrel
        by_cases hlt : (t : Int) < L
        · have htn : t < l.length := by omega
          obtain ⟨j, hj⟩ : ∃ j, j = who t := ⟨_, rfl⟩
          have hjn : j < l.length := by rw [hj]; exact (HO.out t htn).1
          have hjr : rk (rst T S W) l.length j = t := by rw [hj]; exact (HO.out t htn).2
          have cw := HCELL.out t htn
          rw [← hj] at cw
          have cp := HP.out.1.cell (i := j) (by rw [rowF_len]; exact hjn)
          have fp := HP.out.1.free j
          have e0 : partT T S W l.length t j = quo T S W j := by unfold partT; rw [if_neg (by omega)]; omega
          rw [rowF_at, e0] at cp
          have hbd : 0 ≤ quo T S W j ∧ quo T S W j ≤ T - 1 := by
            refine ⟨(HBQ.out j hjn).1, ?_⟩
            have h7 := HPL.out j hjn
            unfold ShareLaw.part partT at h7
            rw [if_pos (by rw [hjr, ← HEL.out]; omega)] at h7
            omega
          obtain ⟨g1, g2⟩ := hbd
          have HP2 : Hid (Rowb (wr.setCell ⟨w.heap.size, j, none⟩ (.int .i64 (quo T S W j + 1))) w.heap.size 2 (rowF l.length (partT T S W l.length (t + 1))) ∧ Below w.heap.size w (wr.setCell ⟨w.heap.size, j, none⟩ (.int .i64 (quo T S W j + 1)))) := by
            refine ⟨?_, HP.out.2.setCell (by simp) _⟩
            have h7 := HP.out.1.set j (quo T S W j + 1)
            have e1 : (rowF l.length (partT T S W l.length t)).set j (quo T S W j + 1) = rowF l.length (partT T S W l.length (t + 1)) := by
              rw [rowF_set]
              refine rowF_congr fun i hi => ?_
              by_cases c : i = j
              · rw [if_pos c, c]; unfold partT; rw [if_pos (by omega)]
              · rw [if_neg c]
                have hne : rk (rst T S W) l.length i ≠ t := fun e => c (rk_inj hi hjn (e.trans hjr.symm))
                unfold partT
                by_cases c2 : rk (rst T S W) l.length i < t
                · rw [if_pos c2, if_pos (by omega)]
                · rw [if_neg c2, if_neg (by omega)]
            rw [e1] at h7
            exact h7
          have HC2 : Hid (∀ t, t < l.length → (wr.setCell ⟨w.heap.size, j, none⟩ (.int .i64 (quo T S W j + 1))).cell? ⟨bo, t, none⟩ = some (.int .i64 (who t : Int))) := by
            intro t' ht'
            rw [World.cell?_of_block (w := wr) (Deep.blk_setCell_other wr _ _ bo (by dsimp only; omega))]
            exact HCELL.out t' ht'
          have HJ := Lib.hid hj
          have HJR := Lib.hid hjr
          clear hj hjr e0 HCELL HP
          go_wp2_with fail
          go_roundw
          case rel => exact ⟨t + 1, by omega, by go_num, by simpa using hsz2, HC2, HP2⟩
          case measure => simp [intOf]; omega
        · have e : (L.toNat : Nat) = t := by omega
          have HP3 : Hid (Rowb wr w.heap.size 2 (rowF l.length (ShareLaw.part T S W l.length)) ∧ Below w.heap.size w wr) := by
            refine ⟨?_, HP.out.2⟩
            have h7 := HP.out.1
            rw [← e, HEL.out] at h7
            exact h7
          go_wp2_with fail
          go_ret
          exact ⟨rfl, HP3.out.1, HP3.out.2, by omega⟩
end Go.Proofs.Ytblplkajgbbkdaa
