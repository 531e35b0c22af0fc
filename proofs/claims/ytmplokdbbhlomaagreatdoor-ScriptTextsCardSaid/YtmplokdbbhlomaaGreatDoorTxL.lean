/-
  The lines of a text, plain: what is read of a text, and of a script's lines.
-/
import Derived.Test.YtmplokdbbhlomaaGreatDoorScF
import Derived.Test.YtmplokdbbhlomaaGreatDoorSpl
import Derived.Lib.IndexMore
import Derived.Lib.IndexBytes
namespace Go.Proofs.YtmplokdbbhlomaaGreatDoor
open Go.RowKit

theorem bs_ne {t : List UInt8} (h : t ≠ []) : (bs t == (⟨#[]⟩ : ByteArray)) = false := by
  cases t with
  | nil => exact absurd rfl h
  | cons a l => rfl
def lnsT (l : List UInt8) : List (List UInt8) := (splitL 10 l).dropLast
/-- A text that is empty, or ends with a line's end. -/
def ended (l : List UInt8) : Bool := l.isEmpty || (l.getLast? == some 10)
theorem splitL_app {c : UInt8} {w : List UInt8} (l : List UInt8) (h : c ∉ w) : splitL c (w ++ c :: l) = w :: splitL c l := split_app l h
theorem lnsT_nil : lnsT [] = [] := rfl
theorem lnsT_of {t : List UInt8} {xs : List (List UInt8)} {r : List UInt8} (h : splitL 10 t = xs ++ splitL 10 r) : lnsT t = xs ++ lnsT r := by
  unfold lnsT
  rw [h, List.dropLast_append_of_ne_nil (splitL_ne 10 r)]
theorem lnsT_line {w : List UInt8} (r : List UInt8) (h : (10 : UInt8) ∉ w) : lnsT (w ++ 10 :: r) = w :: lnsT r := lnsT_of (xs := [w]) (splitL_app r h)
theorem split_length (c : UInt8) : ∀ l : List UInt8, (splitL c l).length = l.count c + 1
  | [] => rfl
  | b :: l => by
    have ih := split_length c l
    unfold splitL
    by_cases h : b = c
    · rw [if_pos h, List.length_cons, ih, h, List.count_cons_self]
    · rw [if_neg h, List.count_cons_of_ne h]
      obtain ⟨h1, t, hs⟩ := splitL_cons c l
      rw [hs] at ih ⊢
      exact ih
theorem lnsT_length (l : List UInt8) : (lnsT l).length = l.count 10 := by
  unfold lnsT
  rw [List.length_dropLast, split_length]
  omega
theorem first_ten : ∀ {l : List UInt8}, (10 : UInt8) ∈ l → ∃ w r, l = w ++ 10 :: r ∧ (10 : UInt8) ∉ w
  | b :: l, h => by
    by_cases hb : b = 10
    · exact ⟨[], l, by rw [hb]; rfl, by simp⟩
    · have h2 : (10 : UInt8) ∈ l := by
        rcases List.mem_cons.1 h with e | e
        · exact absurd e.symm hb
        · exact e
      obtain ⟨w, r, e, hw⟩ := first_ten h2
      refine ⟨b :: w, r, by rw [e]; rfl, ?_⟩
      intro hm
      rcases List.mem_cons.1 hm with e | e
      · exact hb e.symm
      · exact hw e
theorem ended_nil : ended [] = true := rfl
theorem ended_cut {l : List UInt8} (h : ended l = true) (hne : l ≠ []) : ∃ w r, l = w ++ 10 :: r ∧ (10 : UInt8) ∉ w ∧ ended r = true := by
  have hl : l.getLast? = some 10 := by
    unfold ended at h
    cases l with
    | nil => exact absurd rfl hne
    | cons b l => simpa using h
  obtain ⟨w, r, e, hw⟩ := first_ten (List.mem_of_getLast? hl)
  refine ⟨w, r, e, hw, ?_⟩
  cases r with
  | nil => rfl
  | cons b r =>
    unfold ended
    rw [e] at hl
    have : (b :: r).getLast? = some 10 := by
      rw [show w ++ 10 :: b :: r = (w ++ [10]) ++ (b :: r) by simp, List.getLast?_append] at hl
      have h2 : ∃ z, (b :: r).getLast? = some z := by
        rw [List.getLast?_eq_some_getLast (by simp)]
        exact ⟨_, rfl⟩
      obtain ⟨z, hz⟩ := h2
      rw [hz] at hl ⊢
      simpa using hl
    rw [this]
    simp
theorem cut_ten {w : List UInt8} (r : List UInt8) (h : (10 : UInt8) ∉ w) : Lib.cut (w ++ 10 :: r) [10] = (w, r, true) := by
  have hix : ∀ w : List UInt8, (10 : UInt8) ∉ w → Lib.index (w ++ 10 :: r) [10] = (w.length : Int) := by
    intro w
    induction w with
    | nil => intro _; rw [List.nil_append, Lib.index]; simp [List.isPrefixOf]
    | cons b w ih =>
      intro h
      have hb : b ≠ 10 := fun e => h (by rw [e]; exact List.mem_cons_self)
      have ih := ih (fun hm => h (List.mem_cons_of_mem _ hm))
      have hp : ([10] : List UInt8).isPrefixOf (b :: (w ++ 10 :: r)) = false := by simp [List.isPrefixOf, Ne.symm hb]
      rw [List.cons_append, Lib.index, hp, ih]
      have : ¬ ((w.length : Int) == -1) = true := by simp
      simp [this]
  have hi := hix w h
  unfold Lib.cut
  rw [hi, if_pos (by omega)]
  simp
theorem suffix_ended (l : List UInt8) (h : l ≠ []) : Lib.hasSuffix l [10] = ended l := by
  obtain ⟨a, z, rfl⟩ : ∃ a z, l = a ++ [z] := ⟨l.dropLast, l.getLast h, (List.dropLast_concat_getLast h).symm⟩
  unfold Lib.hasSuffix ended
  rw [List.getLast?_concat]
  have h1 : (a ++ [z]).isEmpty = false := by simp
  rw [h1, Bool.false_or]
  by_cases hz : z = 10
  · subst hz
    have : [10].isSuffixOf (a ++ [10]) = true := by rw [List.isSuffixOf_iff_suffix]; exact ⟨a, rfl⟩
    rw [this]
    simp
  · have : [10].isSuffixOf (a ++ [z]) = false := by
      apply Bool.eq_false_iff.2
      intro hh
      rw [List.isSuffixOf_iff_suffix] at hh
      obtain ⟨t, ht⟩ := hh
      have := congrArg List.getLast? ht
      rw [List.getLast?_concat, List.getLast?_concat] at this
      injection this with this
      exact hz this.symm
    rw [this]
    simp [hz]
/-- Is a line a step's? -/
def okL (t : List UInt8) : Bool := decide ((parseP t).2 = 0)
def stepL (t : List UInt8) : St := (parseP t).1
/-- What lines read as. -/
def readLs (ls : List (List UInt8)) : List St × Int × Int :=
  match ls.findIdx? fun t => !okL t with
  | some j => ([], (j : Int) + 1, 3)
  | none => (ls.map stepL, 0, 0)
/-- What a text reads as. -/
def readT (l : List UInt8) : List St × Int × Int :=
  if 1024 < l.count 10 then ([], 0, 6) else if ended l then readLs (lnsT l) else ([], 0, 3)
theorem readLs_ok {ls : List (List UInt8)} (h : ∀ t ∈ ls, okL t = true) : readLs ls = (ls.map stepL, 0, 0) := by
  have : ls.findIdx? (fun t => !okL t) = none := by
    rw [List.findIdx?_eq_none_iff]
    intro t ht
    rw [h t ht]; rfl
  unfold readLs
  rw [this]
theorem readLs_bad {xs : List (List UInt8)} {p : List UInt8} (more : List (List UInt8)) (h : ∀ t ∈ xs, okL t = true) (hp : okL p = false) : readLs (xs ++ p :: more) = ([], (xs.length : Int) + 1, 3) := by
  have : (xs ++ p :: more).findIdx? (fun t => !okL t) = some xs.length := by
    rw [List.findIdx?_append]
    have h1 : xs.findIdx? (fun t => !okL t) = none := by
      rw [List.findIdx?_eq_none_iff]
      intro t ht
      rw [h t ht]; rfl
    rw [h1]
    simp [List.findIdx?_cons, hp]
  unfold readLs
  rw [this]
theorem lineS_no (x : St) : (10 : UInt8) ∉ lineS x := by
  intro h
  rw [lineS_join] at h
  have hj : ∀ ws : List (List UInt8), (∀ t ∈ ws, (10 : UInt8) ∉ t) → (10 : UInt8) ∉ joinW ws := by
    intro ws
    induction ws with
    | nil => intro _; simp [joinW]
    | cons a ws ih =>
      intro hall
      cases ws with
      | nil => simpa [joinW] using hall a (by simp)
      | cons b ws =>
        have ih := ih (fun t ht => hall t (List.mem_cons_of_mem _ ht))
        have ha := hall a (by simp)
        unfold joinW
        intro hm
        rcases List.mem_append.1 hm with hm | hm
        · exact ha hm
        · rcases List.mem_cons.1 hm with e | hm
          · exact absurd e (by decide)
          · exact ih hm
  refine hj _ ?_ h
  intro t ht
  rcases List.mem_cons.1 ht with rfl | ht
  · exact wordS_no (by decide)
  · obtain ⟨n, _, rfl⟩ := List.mem_map.1 ht
    exact itoa_no (by decide)
theorem printL_cons (x : St) (l : List St) : printL (x :: l) = lineS x ++ 10 :: printL l := by
  unfold printL
  rw [List.flatMap_cons, List.append_assoc]
  rfl
theorem lns_print : ∀ l : List St, lnsT (printL l) = l.map lineS
  | [] => rfl
  | x :: l => by rw [printL_cons, lnsT_line _ (lineS_no x), lns_print l]; rfl
theorem ended_print : ∀ l : List St, ended (printL l) = true
  | [] => rfl
  | x :: l => by
    have ih := ended_print l
    rw [printL_cons]
    unfold ended at ih ⊢
    rw [show lineS x ++ 10 :: printL l = (lineS x ++ [10]) ++ printL l by simp, List.getLast?_append]
    cases hp : printL l with
    | nil => simp
    | cons b r =>
      rw [hp] at ih
      have h2 : ∃ z, (b :: r).getLast? = some z := by
        rw [List.getLast?_eq_some_getLast (by simp)]
        exact ⟨_, rfl⟩
      obtain ⟨z, hz⟩ := h2
      rw [hz] at ih ⊢
      simp at ih ⊢
      simpa using ih
/-- What is printed is read as it was. -/
theorem read_print {l : List St} (h : ∀ x ∈ l, StOk x ∧ rightS x = true) (hl : l.length ≤ 1024) : readT (printL l) = (l, 0, 0) := by
  unfold readT
  rw [← lnsT_length, lns_print, List.length_map, if_neg (by omega), ended_print, if_pos rfl]
  have hp : ∀ x ∈ l, parseP (lineS x) = (x, 0) := fun x hx => parseP_line (h x hx).1 (h x hx).2
  rw [readLs_ok (fun t ht => by
    obtain ⟨x, hx, rfl⟩ := List.mem_map.1 ht
    unfold okL
    rw [hp x hx]
    rfl)]
  have : (l.map lineS).map stepL = l := by
    rw [List.map_map]
    conv => rhs; rw [← List.map_id l]
    apply List.map_congr_left
    intro x hx
    show (parseP (lineS x)).1 = x
    rw [hp x hx]
  rw [this]
/-- Lines, numbered from a number on. -/
def numb : Nat → List (List UInt8) → List (Int × List UInt8)
  | _, [] => []
  | k, t :: ts => ((k : Int), t) :: numb (k + 1) ts
theorem numb_map : ∀ (k : Nat) (ls : List (List UInt8)), (numb k ls).map (·.2) = ls
  | _, [] => rfl
  | k, t :: ts => by rw [numb, List.map_cons, numb_map (k + 1) ts]
theorem numb_len (k : Nat) (ls : List (List UInt8)) : (numb k ls).length = ls.length := by
  have := congrArg List.length (numb_map k ls)
  rw [List.length_map] at this
  exact this
theorem numb_mem : ∀ {k : Nat} {ls : List (List UInt8)} {x : Int × List UInt8}, x ∈ numb k ls → x.2 ∈ ls ∧ (k : Int) ≤ x.1 ∧ x.1 < k + ls.length
  | _, [], _, h => by cases h
  | k, t :: ts, x, h => by
    rcases List.mem_cons.1 h with rfl | h
    · exact ⟨by simp, by simp, by simp; omega⟩
    · obtain ⟨h1, h2, h3⟩ := numb_mem h
      exact ⟨List.mem_cons_of_mem _ h1, by omega, by rw [List.length_cons]; omega⟩
theorem numb_app : ∀ (k : Nat) (a b : List (List UInt8)), numb k (a ++ b) = numb k a ++ numb (k + a.length) b
  | _, [], _ => rfl
  | k, t :: ts, b => by
    rw [List.cons_append, numb, numb, numb_app (k + 1) ts b, List.length_cons, List.cons_append, show k + 1 + ts.length = k + (ts.length + 1) by omega]
/-- The number of the one behind a beginning. -/
theorem numb_next {ls : List (List UInt8)} {pre : List (Int × List UInt8)} {x : Int × List UInt8} (h : (pre ++ [x]) <+: numb 1 ls) : x.1 = (pre.length : Int) + 1 ∧ ∃ more, ls = pre.map (·.2) ++ x.2 :: more := by
  obtain ⟨r, hr⟩ := h
  have hm := congrArg (List.map (·.2)) hr
  rw [numb_map, List.map_append, List.map_append, List.map_singleton, List.append_assoc] at hm
  refine ⟨?_, r.map (·.2), by rw [← hm]; rfl⟩
  have e : ls = pre.map (·.2) ++ (x.2 :: r.map (·.2)) := by rw [← hm]; rfl
  rw [e, numb_app, numb, List.append_assoc] at hr
  have h2 := List.append_inj hr (by rw [numb_len, List.length_map])
  have h3 := h2.2
  rw [List.singleton_append] at h3
  injection h3 with h4 _
  rw [h4, List.length_map]
  show ((1 + pre.length : Nat) : Int) = _
  omega
end Go.Proofs.YtmplokdbbhlomaaGreatDoor
