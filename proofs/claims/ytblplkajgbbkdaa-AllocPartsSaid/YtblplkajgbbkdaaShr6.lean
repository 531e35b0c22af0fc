/-
  What share.Apportion, share.Allocate and share.Lost come to, over this seat's translation: contracts for callers.
-/
import Derived.Test.YtblplkajgbbkdaaShr5
namespace Go.Proofs.Ytblplkajgbbkdaa
open Go.RowKit Go.Lib Go.Sort Go.Shelf Go.Proofs.Ytblplkajgbbkdaa.StableLaw Go.Proofs.Ytblplkajgbbkdaa.ShareLaw

/-- A list of numbers came back, and an error. -/
def GotI (w : World) (xs : List Int) (err : Int) : Ending → World → Prop := fun e w' => ∃ A c, e = .returned (.tuple #[.slice A xs.length c, .int .i64 err]) ∧ Seg w' w'.heap.size A (xs.map (Value.int .i64)) ∧ Below w.heap.size w w'
theorem GotI.nil (w : World) (err : Int) (w' : World) (h : Below w.heap.size w w') : GotI w [] err (.returned (.tuple #[.slice none 0 0, .int .i64 err])) w' := ⟨none, 0, rfl, Seg.nil, h⟩
/-- What an amount comes to by weights, and the error. -/
def appE (T : Int) (l : List Int) : Int := if chkE T l ≠ 0 then chkE T l else if T = 0 then 0 else if sumI l = 0 then 17 else 0
def appL (T : Int) (l : List Int) : List Int := if chkE T l ≠ 0 then [] else if T = 0 then List.replicate l.length 0 else if sumI l = 0 then [] else rowF l.length (ShareLaw.part T (sumI l) (wf l) l.length)
/-- What is right, once nothing is wrong. -/
structure Fit (T : Int) (l : List Int) : Prop where
  len : l.length ≤ 1024
  pos : 0 ≤ T
  all : ∀ x ∈ l, 0 ≤ x
  amt : I64 (sumI l)
  val : chkV T l = sumI l
theorem amtE_zero {x : Int} (h : amtE x = 0) : I64 x := by
  unfold amtE at h
  split at h
  · assumption
  · omega
theorem fit_of {T : Int} {l : List Int} (h : chkE T l = 0) : Fit T l := by
  unfold chkE at h
  by_cases h1 : 1024 < l.length
  · rw [if_pos h1] at h; omega
  · rw [if_neg h1] at h
    by_cases h2 : T < 0 ∨ negB l = true
    · rw [if_pos h2] at h; omega
    · rw [if_neg h2] at h
      have hI := amtE_zero h
      refine ⟨by omega, by omega, negB_false (by
        cases hn : negB l
        · rfl
        · exact absurd (.inr hn) h2), hI, ?_⟩
      unfold chkV
      rw [if_neg h1, if_neg h2, (amt_in hI).1]
theorem sum_nonneg {l : List Int} (h : ∀ x ∈ l, 0 ≤ x) : 0 ≤ sumI l := by
  rw [← sum_wf]
  refine sumN_nonneg fun i hi => ?_
  rw [wf_at hi]
  exact h _ (List.getElem_mem hi)
theorem seg_zero (w : World) (n : Nat) : Seg (w.alloc (.cells (Array.replicate n (Value.int .i64 0)) 2)) (w.alloc (.cells (Array.replicate n (Value.int .i64 0)) 2)).heap.size (some ⟨w.heap.size, 0, none⟩) ((List.replicate n (0 : Int)).map (Value.int .i64)) := by
  have h := Rowb.new w 2 (List.replicate n 0)
  rw [rep_arr] at h
  exact h.seg (by simp)
set_option maxHeartbeats 1600000 in
theorem Apportion_any (T : Int) (l : List Int) (A : Option Addr) (c : Nat) (w : World) (hT : I64 T) (hl : ∀ x ∈ l, I64 x) (hs : Seg w w.heap.size A (l.map (Value.int .i64))) (hn : l.length ≤ maxLen) :
    Calls Try.prog 14 #[.int .i64 T, .slice A l.length c] w (GotI w (appL T l) (appE T l)) := by
  have HC := Lib.hid (check_any T l A c w hl hs hn)
  by_cases h1 : chkE T l = 0
  · have F := fit_of h1
    by_cases h2 : T = 0
    · have e1 : appE T l = 0 := by unfold appE; rw [if_neg (by omega), if_pos h2]
      have e2 : appL T l = List.replicate l.length 0 := by unfold appL; rw [if_neg (by omega), if_pos h2]
      rw [e1, e2]
      rw [h1, F.val] at HC
      have mk := make64 l.length (by have := F.len; omega)
      have h2' : (T == 0) = true := by simpa using h2
      have h2n : T = 0 := h2
      subst h2
      clear F e1 e2 h1 h2' h2n hl hs hT
      generalize sumI l = S at *
      go_enter Try.func14, Try.ntmps14
      go_wp2_with fail
      refine HC.out.mono ?_
      rintro e w1 ⟨rfl, hb1⟩
      have HB := Lib.hid hb1
      clear hb1
      go_wp2_with fail
      go_ret2
      refine ⟨some ⟨w1.heap.size, 0, none⟩, l.length, by rw [List.length_replicate]; rfl, seg_zero w1 l.length, HB.out.alloc HB.out.size _⟩
    · by_cases h3 : sumI l = 0
      · have e1 : appE T l = 17 := by unfold appE; rw [if_neg (by omega), if_neg h2, if_pos h3]
        have e2 : appL T l = [] := by unfold appL; rw [if_neg (by omega), if_neg h2, if_pos h3]
        rw [e1, e2]
        rw [h1, F.val, h3] at HC
        have h2' : (T == 0) = false := by simpa using h2
        clear F e1 e2 h1 h2 h3 hl hs hT
        go_enter Try.func14, Try.ntmps14
        go_wp2_with fail
        refine HC.out.mono ?_
        rintro e w1 ⟨rfl, hb1⟩
        have HB := Lib.hid hb1
        clear hb1
        go_wp2_with fail
        go_ret2
        exact GotI.nil _ _ _ HB.out
      · have e1 : appE T l = 0 := by unfold appE; rw [if_neg (by omega), if_neg h2, if_neg h3]
        have e2 : appL T l = rowF l.length (ShareLaw.part T (sumI l) (wf l) l.length) := by unfold appL; rw [if_neg (by omega), if_neg h2, if_neg h3]
        rw [e1, e2]
        rw [h1, F.val] at HC
        have h0 := sum_nonneg F.all
        have hI := F.amt
        have hTT := hT
        unfold I64 at hI hTT
        have HD : Hid (∀ W, Below w.heap.size w W → Calls Try.prog 47 #[.int .i64 T, .slice A l.length c, .int .i64 (sumI l)] W fun e w' => e = .returned (.slice (some ⟨W.heap.size, 0, none⟩) l.length l.length) ∧ Rowb w' W.heap.size 2 (rowF l.length (ShareLaw.part T (sumI l) (wf l) l.length)) ∧ Below W.heap.size W w' ∧ W.heap.size < w'.heap.size) := fun W hW =>
          apportion_any T l A c W F.pos (by omega) F.all (by omega) (by omega) F.len ((hs.below hW).mono hW.size)
        have h2' : (T == 0) = false := by simpa using h2
        have h3' : (sumI l == 0) = false := by simpa using h3
        clear F e1 e2 h1 h2 h3 hl hs hT h0 hI hTT
        generalize sumI l = S at *
        go_enter Try.func14, Try.ntmps14
        go_wp2_with fail
        refine HC.out.mono ?_
        rintro e w1 ⟨rfl, hb1⟩
        have HB := Lib.hid hb1
        clear hb1
        go_wp2_with fail
        refine (HD.out _ HB.out).mono ?_
        rintro e w2 ⟨rfl, hr, hb2, hlt⟩
        have HR := Lib.hid hr
        have HB2 := Lib.hid (HB.out.trans (hb2.mono HB.out.size))
        clear hr hb2
        go_wp2_with fail
        go_ret2
        exact ⟨some ⟨w1.heap.size, 0, none⟩, l.length, by rw [rowF_len]; rfl, HR.out.seg hlt, HB2.out⟩
  · have e1 : appE T l = chkE T l := by unfold appE; rw [if_pos h1]
    have e2 : appL T l = [] := by unfold appL; rw [if_pos h1]
    rw [e1, e2]
    have h1' : (chkE T l == 0) = false := by simpa using h1
    have h1n : (chkE T l != 0) = true := by simpa using h1
    clear e1 e2 h1 hl hs hT
    generalize chkE T l = E at *
    generalize chkV T l = V at *
    go_enter Try.func14, Try.ntmps14
    go_wp2_with fail
    refine HC.out.mono ?_
    rintro e w1 ⟨rfl, hb1⟩
    have HB := Lib.hid hb1
    clear hb1
    go_wp2_with fail
    go_ret2
    exact GotI.nil _ _ _ HB.out
def alE (T : Int) (l : List Int) : Int := if chkE T l ≠ 0 then chkE T l else if sumI l ≤ T then 0 else appE T l
def alL (T : Int) (l : List Int) : List Int := if chkE T l ≠ 0 then [] else if sumI l ≤ T then l else appL T l
/-- A list's copy. -/
def CloneP (l : List Int) (w : World) : Ending → World → Prop := fun e w' => ∃ A c, e = .returned (.slice A l.length c) ∧ Seg w' w'.heap.size A (l.map (Value.int .i64)) ∧ Below w.heap.size w w'
set_option maxHeartbeats 1600000 in
set_option maxRecDepth 100000 in
theorem clone_any (l : List Int) (A : Option Addr) (c : Nat) (w : World) (hn : l.length ≤ 1000000) (hs : Seg w w.heap.size A (l.map (Value.int .i64))) :
    Calls Try.prog 49 #[.slice A l.length c] w (CloneP l w) := by
  have inf : (Try.prog.info? 2).map (fun i => (i.zero, i.size, i.bytes)) = some (some (.int .i64 0), 1, 8) := by kernel_rfl
  obtain ⟨i0, hi, hz0, hz1, hz2⟩ := info_parts inf
  cases A with
  | none =>
    have e : l = [] := by
      cases l with
      | nil => rfl
      | cons a l =>
        obtain ⟨b, o, h, _⟩ := hs 0 (.int .i64 a) (by simp)
        cases h
    subst e
    refine (Try.slices_Clone_nil_f49 0 c w).mono ?_
    rintro e w' ⟨rfl, rfl⟩
    exact ⟨none, 0, rfl, Seg.nil, Below.refl _ _⟩
  | some a =>
    have hnews : ∀ (o : Obj) j u, (l.map (Value.int .i64))[j]? = some u → (w.alloc o).cell? (a.add j) = some u := fun ob j u hu => by
      obtain ⟨b, o, e, hb, hc⟩ := hs j u hu
      injection e with e
      subst e
      have ea : (⟨b, o, none⟩ : Addr).add j = ⟨b, o + j, none⟩ := by unfold Addr.add; split <;> simp_all
      rw [ea, cell_old _ _ _ hb]
      exact hc
    have hone : ∀ u ∈ l.map (Value.int .i64), u.oneCell' = true := fun u hu => by
      obtain ⟨y, _, rfl⟩ := List.mem_map.1 hu
      rfl
    have HN := Lib.hid hnews
    have H1 := Lib.hid hone
    clear hnews hone hs
    have q22 : ∀ (w : World) (a : Option Addr) (n c n' c' : Nat), (binOp .eql 22 (.slice a n c) (.slice none n' c')).run Try.prog w = .ok (.bool a.isNone) w := fun w a n c n' c' => Lib.run_eql_slice_nil w _ _ a n c n' c' Try.underlying22
    go_enter Try.func49, Try.ntmps49
    go_wp2_with (at_builtin; refine wpList_append_own _ rfl _ _ 22 rfl w.heap.size 2 i0 (.int .i64 0) 1 8 Try.underlying22 hi hz0 hz1 hz2 rfl (by decide) _ _ _ rfl (World.ownsRow_made w #[] 0 (Nat.le_refl _) (Nat.zero_le _) rfl) a l.length c (l.map (Value.int .i64)) rfl (by simp) (HN.out _) H1.out (by simp only [maxLen]; omega) (by omega) (by simp) ?_)
    intro v' w1 hown hgrow _
    have HO := Lib.hid hown
    have HG := Lib.hid hgrow
    clear hown hgrow
    go_wp2
    go_ret
    have hO : w1.ownsRow w.heap.size 2 1 v' l.length (l.map (Value.int .i64)) := by simpa using HO.out
    obtain ⟨A1, c1, rfl⟩ := own_form hO
    exact ⟨A1, c1, rfl, Seg.of_own hO, ((Below.refl _ w).alloc (Nat.le_refl _) _).grown HG.out (by simp) (by intro k hk; simp [Value.ownBlock] at hk; omega)⟩
set_option maxHeartbeats 1600000 in
theorem Allocate_any (T : Int) (l : List Int) (A : Option Addr) (c : Nat) (w : World) (hT : I64 T) (hl : ∀ x ∈ l, I64 x) (hs : Seg w w.heap.size A (l.map (Value.int .i64))) (hn : l.length ≤ maxLen) :
    Calls Try.prog 17 #[.int .i64 T, .slice A l.length c] w (GotI w (alL T l) (alE T l)) := by
  have HC := Lib.hid (check_any T l A c w hl hs hn)
  by_cases h1 : chkE T l = 0
  · have F := fit_of h1
    have hlen := F.len
    by_cases h2 : sumI l ≤ T
    · have e1 : alE T l = 0 := by unfold alE; rw [if_neg (by omega), if_pos h2]
      have e2 : alL T l = l := by unfold alL; rw [if_neg (by omega), if_pos h2]
      rw [e1, e2]
      rw [h1, F.val] at HC
      have HD : Hid (∀ W, Below w.heap.size w W → Calls Try.prog 49 #[.slice A l.length c] W (CloneP l W)) := fun W hW => clone_any l A c W (by omega) ((hs.below hW).mono hW.size)
      clear F e1 e2 h1 hl hs hT
      generalize sumI l = S at *
      go_enter Try.func17, Try.ntmps17
      go_wp2_with fail
      refine HC.out.mono ?_
      rintro e w1 ⟨rfl, hb1⟩
      have HB := Lib.hid hb1
      clear hb1
      go_wp2_with fail
      refine (HD.out _ HB.out).mono ?_
      rintro e w2 ⟨A2, c2, rfl, hs2, hb2⟩
      have HS2 := Lib.hid hs2
      have HB2 := Lib.hid (HB.out.trans (hb2.mono HB.out.size))
      clear hs2 hb2
      go_wp2_with fail
      go_ret2
      exact ⟨A2, c2, rfl, HS2.out, HB2.out⟩
    · have e1 : alE T l = appE T l := by unfold alE; rw [if_neg (by omega), if_neg h2]
      have e2 : alL T l = appL T l := by unfold alL; rw [if_neg (by omega), if_neg h2]
      rw [e1, e2]
      rw [h1, F.val] at HC
      have HD : Hid (∀ W, Below w.heap.size w W → Calls Try.prog 14 #[.int .i64 T, .slice A l.length c] W (GotI W (appL T l) (appE T l))) := fun W hW => Apportion_any T l A c W hT hl ((hs.below hW).mono hW.size) hn
      clear F e1 e2 h1 hl hs hT
      generalize sumI l = S at *
      generalize appL T l = zs at *
      generalize appE T l = E at *
      go_enter Try.func17, Try.ntmps17
      go_wp2_with fail
      refine HC.out.mono ?_
      rintro e w1 ⟨rfl, hb1⟩
      have HB := Lib.hid hb1
      clear hb1
      go_wp2_with fail
      refine (HD.out _ HB.out).mono ?_
      rintro e w2 ⟨A2, c2, rfl, hs2, hb2⟩
      have HS2 := Lib.hid hs2
      have HB2 := Lib.hid (HB.out.trans (hb2.mono HB.out.size))
      clear hs2 hb2
      go_wp2_with fail
      go_ret2
      exact ⟨A2, c2, rfl, HS2.out, HB2.out⟩
  · have e1 : alE T l = chkE T l := by unfold alE; rw [if_pos h1]
    have e2 : alL T l = [] := by unfold alL; rw [if_pos h1]
    rw [e1, e2]
    have h1' : (chkE T l == 0) = false := by simpa using h1
    have h1n : (chkE T l != 0) = true := by simpa using h1
    clear e1 e2 h1 hl hs hT
    generalize chkE T l = E at *
    generalize chkV T l = V at *
    go_enter Try.func17, Try.ntmps17
    go_wp2_with fail
    refine HC.out.mono ?_
    rintro e w1 ⟨rfl, hb1⟩
    have HB := Lib.hid hb1
    clear hb1
    go_wp2_with fail
    go_ret2
    exact GotI.nil _ _ _ HB.out
/-- Do parts fit claims? -/
def fitB : List Int → List Int → Bool
  | [], [] => true
  | c :: cs, p :: ps => decide (0 ≤ p) && decide (p ≤ c) && fitB cs ps
  | _, _ => false
def lostL (cs ps : List Int) : List Int := if fitB cs ps then List.zipWith (· - ·) cs ps else []
def lostE (cs ps : List Int) : Int := if fitB cs ps then 0 else 1
theorem fitB_len : ∀ {cs ps : List Int}, fitB cs ps = true → cs.length = ps.length
  | [], [], _ => rfl
  | c :: cs, p :: ps, h => by
    simp only [fitB, Bool.and_eq_true] at h
    simp [fitB_len h.2]
  | [], _ :: _, h => by simp [fitB] at h
  | _ :: _, [], h => by simp [fitB] at h
theorem fitB_iff : ∀ {cs ps : List Int}, cs.length = ps.length → (fitB cs ps = true ↔ ∀ i (h : i < cs.length) (h' : i < ps.length), 0 ≤ ps[i] ∧ ps[i] ≤ cs[i])
  | [], [], _ => by simp [fitB]
  | c :: cs, p :: ps, e => by
    have ih := fitB_iff (cs := cs) (ps := ps) (by simpa using e)
    simp only [fitB, Bool.and_eq_true, decide_eq_true_eq, ih]
    constructor
    · rintro ⟨h1, h2⟩ i h h'
      cases i with
      | zero => exact h1
      | succ i => exact h2 i (by simpa using h) (by simpa using h')
    · intro h
      exact ⟨h 0 (by simp) (by simp), fun i h1 h2 => h (i + 1) (by simpa using h1) (by simpa using h2)⟩
  | [], _ :: _, e => by simp at e
  | _ :: _, [], e => by simp at e
theorem fitB_no {cs ps : List Int} {i : Nat} (e : cs.length = ps.length) (h : i < cs.length) (h' : i < ps.length) (hn : ¬ (0 ≤ ps[i] ∧ ps[i] ≤ cs[i])) : fitB cs ps = false := by
  cases hf : fitB cs ps
  · rfl
  · exact absurd ((fitB_iff e).1 hf i h h') hn
theorem zip_snoc {cs ps : List Int} {k : Nat} (h : k < cs.length) (h' : k < ps.length) : List.zipWith (· - ·) (cs.take (k + 1)) (ps.take (k + 1)) = List.zipWith (· - ·) (cs.take k) (ps.take k) ++ [cs[k] - ps[k]] := by
  rw [List.take_succ_eq_append_getElem h, List.take_succ_eq_append_getElem h', List.zipWith_append (by simp; omega)]
  rfl
set_option maxHeartbeats 1600000 in
theorem Lost_any (cs ps : List Int) (A A' : Option Addr) (c c' : Nat) (w : World) (hcs : ∀ x ∈ cs, I64 x) (hs : Seg w w.heap.size A (cs.map (Value.int .i64))) (hs' : Seg w w.heap.size A' (ps.map (Value.int .i64))) (hn : cs.length ≤ 1000000) :
    Calls Try.prog 21 #[.slice A cs.length c, .slice A' ps.length c'] w (GotI w (lostL cs ps) (lostE cs ps)) := by
  by_cases hlen : cs.length = ps.length
  · have inf : (Try.prog.info? 2).map (fun i => (i.zero, i.size, i.bytes)) = some (some (.int .i64 0), 1, 8) := by kernel_rfl
    obtain ⟨i0, hi0, hz0, hz1, hz2⟩ := info_parts inf
    have HS := Lib.hid hs
    have HS' := Lib.hid hs'
    have HI := Lib.hid hcs
    have HLEN := Lib.hid hlen
    rw [← hlen]
    clear hs hs' hcs hlen
    go_enter Try.func21, Try.ntmps21
    go_wp2_with fail
    go_loopw [6, 7, 8, 16] (fun u _ _ i wr => ∃ k : Nat, k ≤ cs.length ∧ i = .int .i64 k ∧ Hid (∀ i (h : i < cs.length) (h' : i < ps.length), i < k → 0 ≤ ps[i] ∧ ps[i] ≤ cs[i]) ∧ Hid (wr.ownsRow w.heap.size 2 1 u (List.zipWith (· - ·) (cs.take k) (ps.take k)).length ((List.zipWith (· - ·) (cs.take k) (ps.take k)).map (Value.int .i64))) ∧ Hid (Below w.heap.size w wr)) (fun _ _ _ i _ => cs.length - (intOf i).toNat)
    case atStart => exact ⟨0, Nat.zero_le _, rfl, fun i _ _ h => by omega, ⟨by simp, Or.inl ⟨rfl, rfl⟩⟩, Below.refl _ _⟩
    case round =>
      obtain ⟨k, hk, rfl, HP, HO, HB⟩ := hrel
      have hsz := HB.out.size
      by_cases hlt : k < cs.length
      · have hlt' : k < ps.length := by have := HLEN.out; omega
        obtain ⟨b, o, rfl, hb, hc⟩ := (HS.out.below HB.out).at (k := k) (by simpa using hlt)
        obtain ⟨b', o', rfl, hb', hc'⟩ := (HS'.out.below HB.out).at (k := k) (by simpa using hlt')
        rw [List.getElem_map] at hc hc'
        have hI := HI.out cs[k] (List.getElem_mem hlt)
        unfold I64 at hI
        obtain ⟨hI1, hI2⟩ := hI
        by_cases hx : ps[k] < 0
        · have HF := Lib.hid (fitB_no HLEN.out hlt hlt' (by omega))
          go_wp2_with fail
          go_ret2
          have e1 : lostL cs ps = [] := by unfold lostL; rw [HF.out]; rfl
          have e2 : lostE cs ps = 1 := by unfold lostE; rw [HF.out]; rfl
          rw [e1, e2]
          exact GotI.nil _ _ _ HB.out
        · by_cases hy : cs[k] < ps[k]
          · have HF := Lib.hid (fitB_no HLEN.out hlt hlt' (by omega))
            go_wp2_with fail
            go_ret2
            have e1 : lostL cs ps = [] := by unfold lostL; rw [HF.out]; rfl
            have e2 : lostE cs ps = 1 := by unfold lostE; rw [HF.out]; rfl
            rw [e1, e2]
            exact GotI.nil _ _ _ HB.out
          · have HP2 : Hid (∀ i (h : i < cs.length) (h' : i < ps.length), i < k + 1 → 0 ≤ ps[i] ∧ ps[i] ≤ cs[i]) := by
              intro i h h' hik
              by_cases e : i = k
              · subst e; omega
              · exact HP.out i h h' (by omega)
            have HF := Lib.hid (zip_snoc hlt hlt')
            have hzl : (List.zipWith (· - ·) (cs.take k) (ps.take k)).length ≤ k := by rw [List.length_zipWith, List.length_take]; omega
            generalize List.zipWith (· - ·) (cs.take k) (ps.take k) = ys at *
            go_wp2_with (at_builtin; refine wpList_append_own _ rfl _ _ 22 rfl w.heap.size 2 i0 _ 1 8 Try.underlying22 hi0 hz0 hz1 hz2 rfl (by decide) _ ys.length (ys.map (Value.int .i64)) rfl (HO.out.alloc _) ⟨wr.heap.size, 0, none⟩ 1 1 [.int .i64 (cs[k] - ps[k])] rfl rfl (new_cells _ _ #[_] (by simp)) one_int (by simp only [maxLen]; omega) (by omega) (by simp; omega) ?_)
            intro v' w4 hown1 hgrow1 _
            have HO4 : Hid (w4.ownsRow w.heap.size 2 1 v' (List.zipWith (· - ·) (cs.take (k + 1)) (ps.take (k + 1))).length ((List.zipWith (· - ·) (cs.take (k + 1)) (ps.take (k + 1))).map (Value.int .i64))) := by
              show World.ownsRow _ _ _ _ _ _ _
              rw [HF.out, List.map_append, List.length_append, List.length_singleton]
              exact hown1
            have HG4 : Hid (Below w.heap.size w w4) := (HB.out.alloc hsz _).grown hgrow1 (by simp; omega) (fun j hj => own_base HO.out j hj)
            clear hown1 hgrow1
            go_wp2_with fail
            go_roundw
            case rel => exact ⟨k + 1, by omega, by go_num, HP2, HO4, HG4⟩
            case measure => simp [intOf]; omega
      · obtain rfl : k = cs.length := by omega
        have HF := Lib.hid ((fitB_iff HLEN.out).2 fun i h h' => HP.out i h h' h)
        have hO := HO.out
        have e9 : ps.take cs.length = ps := by rw [HLEN.out, List.take_length]
        rw [List.take_length, e9] at hO
        have e1 : lostL cs ps = List.zipWith (· - ·) cs ps := by unfold lostL; rw [HF.out]; rfl
        have e2 : lostE cs ps = 0 := by unfold lostE; rw [HF.out]; rfl
        generalize List.zipWith (· - ·) cs ps = zs at hO e1
        obtain ⟨A1, c1, rfl⟩ := own_form hO
        have HSD := Lib.hid (Seg.of_own hO)
        have HE1 := Lib.hid e1
        have HE2 := Lib.hid e2
        clear hO e1 e2 e9
        go_wp2_with fail
        go_ret2
        rw [HE1.out, HE2.out]
        exact ⟨A1, c1, rfl, HSD.out, HB.out⟩
  · have e0 : fitB cs ps = false := by
      cases hf : fitB cs ps
      · rfl
      · exact absurd (fitB_len hf) hlen
    have e1 : lostL cs ps = [] := by unfold lostL; rw [e0]; rfl
    have e2 : lostE cs ps = 1 := by unfold lostE; rw [e0]; rfl
    rw [e1, e2]
    clear e0 e1 e2 hs hs' hcs
    have h9 : ((cs.length : Int) != (ps.length : Int)) = true := by simp; omega
    have h8 : (cs.length == ps.length) = false := by simpa using hlen
    go_enter Try.func21, Try.ntmps21
    go_wp2_with fail
    go_ret2
    exact GotI.nil _ _ _ (Below.refl _ _)
end Go.Proofs.Ytblplkajgbbkdaa
