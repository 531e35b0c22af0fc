/-
  What audit.Wrong comes to, of any events, over this seat's translation: a contract for callers.
-/
import Derived.Test.YtikcodnmlenpeaaDoorAudit6
namespace Go.Proofs.YtikcodnmlenpeaaDoor
open Go.RowKit

/-! ### What lies behind the first k events -/
def flowsL (l : List Ev) (a : Int) : List Int := (l.filter fun x => x.a == a).map flowI
def houseS (l : List Ev) (k : Nat) (a : Int) : Int := sumI (flowsL (l.take k) a)
def phaseL : List Ev → Int
  | [] => 0
  | x :: l => if l.any (fun y => y.k == 1) then phaseL l else if x.k = 1 then x.n else phaseL l
def outsL (l : List Ev) : List (Int × Value) := l.foldl (fun o x => if x.k = 8 then putM x.m (.int .i64 1) o else o) []
def twiceB (l : List Ev) (m : Int) : Bool := l.any fun x => x.k == 8 && x.m == m
/-- Why an event is wrong, by what lies ahead of it. -/
def whyP (ms ss : Int) (l : List Ev) (k : Nat) (x : Ev) : Int :=
  if rightB ms ss x = false then 1
  else if ¬ (I64 (houseS l k x.a + flowI x) ∧ 0 ≤ houseS l k x.a + flowI x) then 2
  else if x.k = 1 ∧ folB (phaseL (l.take k)) x.n = false then 3
  else if x.k = 8 ∧ twiceB (l.take k) x.m = true then 4 else 0
def whyN (ms ss : Int) (l : List Ev) (k : Nat) : Int := if h : k < l.length then whyP ms ss l k l[k] else 0

theorem flowsL_append (l m : List Ev) (a : Int) : flowsL (l ++ m) a = flowsL l a ++ flowsL m a := by unfold flowsL; rw [List.filter_append, List.map_append]
theorem house_succ {l : List Ev} {k : Nat} (hk : k < l.length) (a : Int) : houseS l (k + 1) a = houseS l k a + if l[k].a = a then flowI l[k] else 0 := by
  unfold houseS
  rw [List.take_succ_eq_append_getElem hk, flowsL_append, sumI_append]
  by_cases c : l[k].a = a
  · simp [flowsL, c, sumI]
  · simp [flowsL, c, sumI]
theorem phase_snoc (l : List Ev) (x : Ev) : phaseL (l ++ [x]) = if x.k = 1 then x.n else phaseL l := by
  induction l with
  | nil => simp [phaseL]
  | cons y l ih =>
    simp only [List.cons_append, phaseL, List.any_append, List.any_cons, List.any_nil, Bool.or_false]
    by_cases c : x.k = 1
    · simp [c, ih]
    · have c' : (x.k == 1) = false := by simpa using c
      rw [c', Bool.or_false, ih, if_neg c, if_neg c]
theorem phase_succ {l : List Ev} {k : Nat} (hk : k < l.length) : phaseL (l.take (k + 1)) = if l[k].k = 1 then l[k].n else phaseL (l.take k) := by
  rw [List.take_succ_eq_append_getElem hk, phase_snoc]
theorem outs_succ {l : List Ev} {k : Nat} (hk : k < l.length) : outsL (l.take (k + 1)) = if l[k].k = 8 then putM l[k].m (.int .i64 1) (outsL (l.take k)) else outsL (l.take k) := by
  unfold outsL
  rw [List.take_succ_eq_append_getElem hk, List.foldl_append]
  rfl
theorem twice_succ {l : List Ev} {k : Nat} (hk : k < l.length) (m : Int) : twiceB (l.take (k + 1)) m = (twiceB (l.take k) m || (l[k].k == 8 && l[k].m == m)) := by
  unfold twiceB
  rw [List.take_succ_eq_append_getElem hk, List.any_append]
  simp
theorem outs_get {l : List Ev} (m : Int) : ∀ k, k ≤ l.length → getM m (outsL (l.take k)) = if twiceB (l.take k) m = true then some (.int .i64 1) else none
  | 0, _ => by simp [outsL, getM, twiceB]
  | k + 1, h => by
    have hk : k < l.length := by omega
    have ih := outs_get (l := l) m k (by omega)
    rw [outs_succ hk, twice_succ hk]
    by_cases c : l[k].k = 8
    · rw [if_pos c]
      by_cases e : l[k].m = m
      · rw [e, get_put_same]; simp [c]
      · rw [get_put_other e, ih]
        have e' : (l[k].m == m) = false := by simpa using e
        rw [e', Bool.and_false, Bool.or_false]
    · have c' : (l[k].k == 8) = false := by simpa using c
      rw [if_neg c, ih, c', Bool.false_and, Bool.or_false]

theorem right_asset {ms ss : Int} {x : Ev} (hss : 0 ≤ ss) (h : rightB ms ss x = true) : 0 ≤ x.a ∧ x.a ≤ ss := by
  unfold rightB partB assB at h
  simp only [Bool.and_eq_true] at h
  have := h.1.1.2
  split at this
  · simpa using this
  · simp at this; omega
theorem right_phase {ms ss : Int} {x : Ev} (h : rightB ms ss x = true) (hk : x.k = 1) : 0 ≤ x.n ∧ x.n ≤ 5 := by
  unfold rightB partB amtB at h
  simp only [Bool.and_eq_true] at h
  have := h.1.2
  rw [hk] at this
  simpa [hasN] using this
theorem right_out {ms ss : Int} {x : Ev} (h : rightB ms ss x = true) (hk : x.k = 8) : 1 ≤ x.m ∧ x.m ≤ ms := by
  unfold rightB partB memB at h
  simp only [Bool.and_eq_true] at h
  have := h.1.1.1.2
  rw [hk] at this
  simpa [hasM] using this

theorem fine_parts {ms ss : Int} {l : List Ev} {k : Nat} {x : Ev} (h : whyP ms ss l k x = 0) :
    rightB ms ss x = true ∧ (I64 (houseS l k x.a + flowI x) ∧ 0 ≤ houseS l k x.a + flowI x) ∧ (x.k = 1 → folB (phaseL (l.take k)) x.n = true) ∧ (x.k = 8 → twiceB (l.take k) x.m = false) := by
  unfold whyP at h
  by_cases h1 : rightB ms ss x = false
  · rw [if_pos h1] at h; omega
  rw [if_neg h1] at h
  by_cases h2 : ¬ (I64 (houseS l k x.a + flowI x) ∧ 0 ≤ houseS l k x.a + flowI x)
  · rw [if_pos h2] at h; omega
  rw [if_neg h2] at h
  by_cases h3 : x.k = 1 ∧ folB (phaseL (l.take k)) x.n = false
  · rw [if_pos h3] at h; omega
  rw [if_neg h3] at h
  by_cases h4 : x.k = 8 ∧ twiceB (l.take k) x.m = true
  · rw [if_pos h4] at h; omega
  refine ⟨by simpa using h1, Decidable.not_not.1 h2, fun e => ?_, fun e => ?_⟩
  · cases hf : folB (phaseL (l.take k)) x.n
    · exact absurd ⟨e, hf⟩ h3
    · rfl
  · cases hf : twiceB (l.take k) x.m
    · rfl
    · exact absurd ⟨e, hf⟩ h4
/-- All ahead of k are fine. -/
def FineTo (ms ss : Int) (l : List Ev) (k : Nat) : Prop := ∀ i (h : i < l.length), i < k → whyP ms ss l i l[i] = 0
theorem house_ok {ms ss : Int} {l : List Ev} (a : Int) : ∀ k, k ≤ l.length → FineTo ms ss l k → I64 (houseS l k a) ∧ 0 ≤ houseS l k a
  | 0, _, _ => by simp [houseS, flowsL, sumI, I64]
  | k + 1, h, hF => by
    have hk : k < l.length := by omega
    have ih := house_ok (ms := ms) (ss := ss) (l := l) a k (by omega) fun i h1 h2 => hF i h1 (by omega)
    have hp := (fine_parts (hF k hk (by omega))).2.1
    rw [house_succ hk]
    by_cases c : l[k].a = a
    · rw [if_pos c]; rw [c] at hp; exact hp
    · rw [if_neg c, Int.add_zero]; exact ih
theorem phase_ok {ms ss : Int} {l : List Ev} : ∀ k, k ≤ l.length → FineTo ms ss l k → 0 ≤ phaseL (l.take k) ∧ phaseL (l.take k) ≤ 5
  | 0, _, _ => by simp [phaseL]
  | k + 1, h, hF => by
    have hk : k < l.length := by omega
    have ih := phase_ok (ms := ms) (ss := ss) (l := l) k (by omega) fun i h1 h2 => hF i h1 (by omega)
    rw [phase_succ hk]
    by_cases c : l[k].k = 1
    · rw [if_pos c]; exact right_phase (fine_parts (hF k hk (by omega))).1 c
    · rw [if_neg c]; exact ih
theorem outs_ok {ms ss : Int} {l : List Ev} (hms : ms ≤ 9223372036854775807) : ∀ k, k ≤ l.length → FineTo ms ss l k → ∀ p ∈ outsL (l.take k), I64 p.1
  | 0, _, _ => by simp [outsL]
  | k + 1, h, hF => by
    have hk : k < l.length := by omega
    have ih := outs_ok (ss := ss) (l := l) hms k (by omega) fun i h1 h2 => hF i h1 (by omega)
    rw [outs_succ hk]
    by_cases c : l[k].k = 8
    · rw [if_pos c]
      intro p hp
      rcases putM_keys hp with rfl | hp
      · have := right_out (fine_parts (hF k hk (by omega))).1 c
        unfold I64; simp only; omega
      · exact ih p hp
    · rw [if_neg c]; exact ih
def houseL (l : List Ev) (ss k : Nat) : List Int := (List.range (ss + 1)).map fun (a : Nat) => houseS l k (a : Int)
theorem houseL_len (l : List Ev) (ss k : Nat) : (houseL l ss k).length = ss + 1 := by simp [houseL]
theorem houseL_at {l : List Ev} {ss k i : Nat} (h : i < (houseL l ss k).length) : (houseL l ss k)[i] = houseS l k i := by simp [houseL]
theorem houseL_set {l : List Ev} {ss k i : Nat} (hk : k < l.length) (hi : l[k].a = i) (h : i < (houseL l ss k).length) : (houseL l ss k).set i ((houseL l ss k)[i] + flowI l[k]) = houseL l ss (k + 1) := by
  apply List.ext_getElem
  · simp [houseL]
  · intro j h1 h2
    rw [List.getElem_set]
    split
    · rename_i c
      subst c
      rw [houseL_at h, houseL_at h2, house_succ hk, hi, if_pos rfl]
    · rename_i c
      rw [houseL_at, houseL_at h2, house_succ hk, hi, if_neg (by omega), Int.add_zero]
/-- The first event that is wrong. -/
structure First (ms ss : Int) (l : List Ev) (n : Nat) : Prop where
  le : n ≤ l.length
  fine : FineTo ms ss l n
  bad : ∀ h : n < l.length, whyP ms ss l n l[n] ≠ 0
theorem first_exists (ms ss : Int) (l : List Ev) : ∃ n, First ms ss l n := by
  have key : ∀ d k, k + d = l.length → FineTo ms ss l k → ∃ n, First ms ss l n := by
    intro d
    induction d with
    | zero => intro k h hF; exact ⟨k, by omega, hF, fun h' => by omega⟩
    | succ d ih =>
      intro k h hF
      have hk : k < l.length := by omega
      by_cases c : whyP ms ss l k l[k] = 0
      · refine ih (k + 1) (by omega) fun i h1 h2 => ?_
        by_cases e : i = k
        · subst e; exact c
        · exact hF i h1 (by omega)
      · exact ⟨k, by omega, hF, fun _ => c⟩
  exact key l.length 0 (by omega) fun i _ h => by omega

/-- What lies in memory behind k events. -/
structure InvW (l : List Ev) (ms : Int) (ss B : Nat) (w : World) (k : Nat) (W : World) : Prop where
  st : StAt W (B + 1 + 1) B (B + 1) (houseL l ss k) (phaseL (l.take k))
  mp : MapAt Tryd.prog 3 encI W (B + 1) (outsL (l.take k))
  fine : FineTo ms ss l k
  bel : Below B w W
theorem InvW.size {l : List Ev} {ms : Int} {ss B k : Nat} {w W : World} (h : InvW l ms ss B w k W) : B + 1 + 1 < W.heap.size := lt_of_blk h.st.s
theorem steps_of (l : List Ev) (ms : Int) (ss n : Nat) (w : World) (hms : ms ≤ 1000000) (hF : First ms ss l n) (hI : ∀ x ∈ l, I64 x.n) (hw : WordsAt w) (hw0 : 0 < w.heap.size) : Steps34 l ms ss w.heap.size n (whyN ms ss l) (InvW l ms ss w.heap.size w) := by
  refine ⟨?_, ?_, fun k hk => ?_, fun hn => ?_, hF.le⟩
  · intro k hk hkn W hV
    have hz := hV.size
    have hWW : WordsAt W := hw.below hw0 hV.bel
    have hW0 : 0 < W.heap.size := by omega
    have hwy : whyN ms ss l k = whyP ms ss l k l[k] := by unfold whyN; rw [dif_pos hk]
    rw [hwy]
    have hxI := hI _ (List.getElem_mem hk)
    cases hr : rightB ms ss l[k]
    · have e1 : whyP ms ss l k l[k] = 1 := by unfold whyP; rw [if_pos hr]
      rw [e1]
      refine (wrong_form ms ss l[k] _ W hr).mono ?_
      rintro e w' ⟨rfl, hb⟩
      exact ⟨rfl, hb.mono (by omega), fun h => by cases h⟩
    · obtain ⟨a0, a1⟩ := right_asset (by omega) hr
      obtain ⟨i, hi⟩ := Int.eq_ofNat_of_zero_le a0
      have hil : i < (houseL l ss k).length := by rw [houseL_len]; omega
      have hh : (houseL l ss k)[i] = houseS l k l[k].a := by rw [houseL_at, hi]
      have hok := house_ok (ms := ms) (ss := ss) (l := l) l[k].a k (by omega) hV.fine
      have hhI : I64 (houseL l ss k)[i] := by rw [hh]; exact hok.1
      have hr' : ¬ rightB ms ss l[k] = false := by rw [hr]; decide
      by_cases h2 : ¬ (I64 (houseS l k l[k].a + flowI l[k]) ∧ 0 ≤ houseS l k l[k].a + flowI l[k])
      · have e1 : whyP ms ss l k l[k] = 2 := by unfold whyP; rw [if_neg hr', if_pos h2]
        rw [e1]
        refine (wrong_house ms ss l[k] _ _ _ _ _ i W hV.st hr hi hil hxI hhI (by rw [hh]; exact h2)).mono ?_
        rintro e w' ⟨rfl, hb⟩
        exact ⟨rfl, hb.mono (by omega), fun h => by cases h⟩
      have h2' := Decidable.not_not.1 h2
      have h2h : I64 ((houseL l ss k)[i] + flowI l[k]) ∧ 0 ≤ (houseL l ss k)[i] + flowI l[k] := by rw [hh]; exact h2'
      have hnext : ∀ W', StAt W' (w.heap.size + 1 + 1) w.heap.size (w.heap.size + 1) ((houseL l ss k).set i ((houseL l ss k)[i] + flowI l[k])) (phaseL (l.take (k + 1))) → MapAt Tryd.prog 3 encI W' (w.heap.size + 1) (outsL (l.take (k + 1))) → Below w.heap.size W W' → whyP ms ss l k l[k] = 0 → InvW l ms ss w.heap.size w (k + 1) W' := fun W' hs hm hb h0 => by
        rw [houseL_set hk hi hil] at hs
        refine ⟨hs, hm, fun j h1 h2 => ?_, hV.bel.trans hb⟩
        by_cases e : j = k
        · subst e; exact h0
        · exact hV.fine j h1 (by omega)
      by_cases k1 : l[k].k = 1
      · obtain ⟨n0, n5⟩ := right_phase hr k1
        have hp := phase_ok (ms := ms) (ss := ss) (l := l) k (by omega) hV.fine
        have hpI : I64 (phaseL (l.take k)) := by unfold I64; omega
        have k8 : ¬ l[k].k = 8 := by omega
        cases hf : folB (phaseL (l.take k)) l[k].n
        · have e1 : whyP ms ss l k l[k] = 3 := by unfold whyP; rw [if_neg hr', if_neg h2, if_pos ⟨k1, hf⟩]
          rw [e1]
          refine (wrong_path ms ss l[k] _ _ _ _ _ i W hV.st hr hi hil hxI hhI h2h k1 fun W' hW' => ?_).mono ?_
          · have := follows_any (phaseL (l.take k)) l[k].n W' hpI (hWW.below hW0 hW') (by have := hW'.size; omega)
            rw [hf] at this
            exact this
          · rintro e w' ⟨rfl, hb⟩
            exact ⟨rfl, hb.mono (by omega), fun h => by cases h⟩
        · have e1 : whyP ms ss l k l[k] = 0 := by unfold whyP; rw [if_neg hr', if_neg h2, if_neg (by rw [hf]; simp), if_neg (by omega)]
          rw [e1]
          refine (wrong_phase ms ss l[k] _ _ _ _ _ i W hV.st hr hi hil hxI hhI h2h k1 n0 n5 hWW hW0 (by omega) (by omega) (fun W' hW' => ?_) (by omega)).mono ?_
          · have := follows_any (phaseL (l.take k)) l[k].n W' hpI (hWW.below hW0 hW') (by have := hW'.size; omega)
            rw [hf] at this
            exact this
          · rintro e w' ⟨rfl, h1, h3, h4⟩
            have hb := h3 w.heap.size (by omega) (Nat.le_refl _) (by omega)
            refine ⟨rfl, hb, fun _ => hnext w' ?_ ?_ hb e1⟩
            · rw [phase_succ hk, if_pos k1]; exact h1
            · rw [outs_succ hk, if_neg k8]; exact hV.mp.of_block (h4 _ (by omega) (by omega) (by omega))
      · by_cases k8 : l[k].k = 8
        · obtain ⟨m1, m2⟩ := right_out hr k8
          have hmI : I64 l[k].m := by unfold I64; omega
          have hD := outs_ok (ms := ms) (ss := ss) (l := l) (by omega) k (by omega) hV.fine
          have hg := outs_get (l := l) l[k].m k (by omega)
          cases ht : twiceB (l.take k) l[k].m
          · have e1 : whyP ms ss l k l[k] = 0 := by unfold whyP; rw [if_neg hr', if_neg h2, if_neg (by omega), if_neg (by rw [ht]; simp)]
            rw [e1]
            rw [ht] at hg
            refine (wrong_out ms ss l[k] _ _ _ _ _ i W hV.st hr hi hil hxI hhI h2h k8 _ hV.mp hD hmI hg (by omega) (by omega) (by omega)).mono ?_
            rintro e w' ⟨rfl, h1, h3, h4⟩
            have hb := h4 w.heap.size (by omega) (Nat.le_refl _) (by omega) (by omega)
            refine ⟨rfl, hb, fun _ => hnext w' ?_ ?_ hb e1⟩
            · rw [phase_succ hk, if_neg k1]; exact h1
            · rw [outs_succ hk, if_pos k8]; exact h3
          · have e1 : whyP ms ss l k l[k] = 4 := by unfold whyP; rw [if_neg hr', if_neg h2, if_neg (by omega), if_pos ⟨k8, ht⟩]
            rw [e1]
            rw [ht] at hg
            refine (wrong_twice ms ss l[k] _ _ _ _ _ i W hV.st hr hi hil hxI hhI h2h k8 _ hV.mp hD hmI hg (by omega)).mono ?_
            rintro e w' ⟨rfl, hb⟩
            exact ⟨rfl, hb.mono (by omega), fun h => by cases h⟩
        · have e1 : whyP ms ss l k l[k] = 0 := by unfold whyP; rw [if_neg hr', if_neg h2, if_neg (by omega), if_neg (by omega)]
          rw [e1]
          refine (wrong_plain ms ss l[k] _ _ _ _ _ i W hV.st hr hi hil hxI hhI h2h (by simpa using k1) (by simpa using k8) (by omega)).mono ?_
          rintro e w' ⟨rfl, h1, h3, h4⟩
          have hb := h3 w.heap.size (by omega) (Nat.le_refl _) (by omega)
          refine ⟨rfl, hb, fun _ => hnext w' ?_ ?_ hb e1⟩
          · rw [phase_succ hk, if_neg k1]; exact h1
          · rw [outs_succ hk, if_neg k8]; exact hV.mp.of_block (h4 _ (by omega) (by omega) (by omega))
  · intro k W o hV
    have hz := hV.size
    exact ⟨hV.st.below ((Below.refl _ _).alloc (Nat.le_refl _) o), hV.mp.alloc o, hV.fine, hV.bel.alloc (by omega) o⟩
  · have hk' : k < l.length := by have := hF.le; omega
    unfold whyN
    rw [dif_pos hk']
    exact hF.fine k hk' hk
  · unfold whyN
    rw [dif_pos hn]
    exact hF.bad hn
/-- audit.Wrong. -/
theorem wrong_any (l : List Ev) (ms : Int) (ss n : Nat) (hss : ss ≤ 8) (hms : ms ≤ 1000000) (A : Option Addr) (c : Nat) (w : World) (hF : First ms ss l n) (hI : ∀ x ∈ l, I64 x.n) (hs : Seg w w.heap.size A (evRows l)) (hn : l.length ≤ 4611686018427387904) (hw : WordsAt w) (hw0 : 0 < w.heap.size) :
    Calls Tryd.prog 12 #[.int .i64 ms, .int .i64 ss, .slice A l.length c] w fun e w' => e = .returned (.tuple #[.int .i64 n, .int .i64 (whyAt l n (whyN ms ss l))]) ∧ Below w.heap.size w w' := by
  refine wrong_list l ms ss hss A c w hs hn n _ _ (steps_of l ms ss n w hms hF hI hw hw0) fun W h1 h2 h3 => ?_
  refine ⟨?_, ⟨⟨#[], 0, h2, by simp [outsL]⟩, by simp [outsL, Apart]⟩, fun i _ h => by omega, h3⟩
  have e : houseL l ss 0 = List.replicate (ss + 1) 0 := by
    apply List.ext_getElem
    · simp [houseL]
    · intro i a b
      rw [houseL_at, List.getElem_replicate]
      simp [houseS, flowsL, sumI]
  rw [e]
  exact h1
end Go.Proofs.YtikcodnmlenpeaaDoor
