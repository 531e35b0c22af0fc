/-
  The plain law of FallPlans' room: what may be drawn, source by source, is the document's sum.
-/
import Derived.Test.YtglpnpjjjihghaaOrdLaw3
import Derived.Test.YtglpnpjjjihghaaFl15
namespace Go.Proofs.Ytglpnpjjjihghaa
open Go.RowKit

/-- What a function gives over the members of a list, the first k. -/
def pkS (f : Int → Int) (os : List Int) : Nat → Int
  | 0 => 0
  | k + 1 => pkS f os k + (if os.contains ((k : Int) + 1) then f ((k : Int) + 1) else 0)
theorem pkS_congr {f : Int → Int} {a b : List Int} : ∀ k : Nat, (∀ i : Nat, i < k → a.contains ((i : Int) + 1) = b.contains ((i : Int) + 1)) → pkS f a k = pkS f b k
  | 0, _ => rfl
  | k + 1, h => by
    unfold pkS
    rw [pkS_congr k (fun i hi => h i (by omega)), h k (by omega)]
theorem pkS_nil (f : Int → Int) : ∀ k, pkS f [] k = 0
  | 0 => rfl
  | k + 1 => by unfold pkS; rw [pkS_nil f k]; rfl
theorem pkS_eq (f : Int → Int) : ∀ (n : Nat) (os : List Int), os.Pairwise (· < ·) → (∀ m ∈ os, 1 ≤ m ∧ m ≤ (n : Int)) → (os.map f).sum = pkS f os n
  | 0, os, _, h => by
    cases os with
    | nil => rfl
    | cons a l => have := h a (List.mem_cons_self ..); omega
  | n + 1, os, hp, h => by
    rcases List.eq_nil_or_concat os with rfl | ⟨zs, z, rfl⟩
    · rw [pkS_nil]; rfl
    rw [List.concat_eq_append] at *
    have hz := h z (by simp)
    obtain ⟨p1, _, p3⟩ := List.pairwise_append.1 hp
    have hlt : ∀ m ∈ zs, m < z := fun m hm => p3 m hm z (by simp)
    by_cases hzn : z = (n : Int) + 1
    · have ih := pkS_eq f n zs p1 fun m hm => ⟨(h m (by simp [hm])).1, by have := hlt m hm; omega⟩
      have hc : pkS f (zs ++ [z]) n = pkS f zs n := pkS_congr n fun i hi => by
        rw [List.contains_append]
        have : [z].contains ((i : Int) + 1) = false := by simp; omega
        rw [this, Bool.or_false]
      unfold pkS
      rw [hc, ← ih, List.map_append, List.sum_append, if_pos (by rw [hzn]; simp)]
      simp [hzn]
    · have ih := pkS_eq f n (zs ++ [z]) hp fun m hm => ⟨(h m hm).1, by
        rcases List.mem_append.1 hm with hm | hm
        · have := hlt m hm; omega
        · simp at hm; omega⟩
      have hc : (zs ++ [z]).contains ((n : Int) + 1) = false := by
        cases hb : (zs ++ [z]).contains ((n : Int) + 1) with
        | false => rfl
        | true =>
          rcases List.mem_append.1 (List.contains_iff_mem.1 hb) with hm | hm
          · have := hlt _ hm; omega
          · simp at hm; omega
      unfold pkS
      rw [hc, ← ih]
      simp
theorem sumT_nonneg : ∀ ys : List (List Dw), 0 ≤ (ys.map totS).sum
  | [] => Int.le_refl 0
  | y :: ys => by
    have h1 := sumT_nonneg ys
    have h2 := totS_nonneg y
    rw [List.map_cons, List.sum_cons]
    omega
theorem rmF_tot : ∀ (ys : List (List Dw)) (n : Int), 0 ≤ n → n + (ys.map totS).sum ≤ 9223372036854775807 → ys.foldl (fun n y => IntKind.i64.wrap (n + totV y)) n = n + (ys.map totS).sum
  | [], n, _, _ => by simp
  | y :: ys, n, h0, h => by
    rw [List.map_cons, List.sum_cons] at h
    have h1 := sumT_nonneg ys
    have h2 := totS_nonneg y
    rw [List.foldl_cons, totV_all (by omega), IntWalk.i64_in _ (by omega), rmF_tot ys (n + totS y) (by omega) (by omega), List.map_cons, List.sum_cons]
    omega
theorem totS_one (k m n : Int) (h : 0 ≤ n) : totS [⟨k, m, n⟩] = n := by
  simp only [totS, List.map_cons, List.map_nil, List.sum_cons, List.sum_nil]
  omega
theorem oneS (k : Int) (f : Int → Int) : ∀ os : List Int, (∀ m ∈ os, 0 ≤ f m) → ((os.map fun m => [(⟨k, m, f m⟩ : Dw)]).map totS).sum = (os.map f).sum
  | [], _ => rfl
  | m :: os, h => by
    rw [List.map_cons, List.map_cons, List.sum_cons, oneS k f os fun m' hm => h m' (List.mem_cons_of_mem _ hm), totS_one _ _ _ (h m (List.mem_cons_self ..)), List.map_cons, List.sum_cons]
/-- The funds of the first k members. -/
def fuS (fu : List Int) : Nat → Int
  | 0 => 0
  | k + 1 => fuS fu k + atI fu ((k : Int) + 1)
theorem others_fuS {fu os : List Int} (h : ∀ x ∈ fu, 0 ≤ x) : ∀ k, k ≤ fu.length → totS (othersN fu os k) + pkS (atI fu) os k = fuS fu k
  | 0, _ => rfl
  | k + 1, hk => by
    have ih := others_fuS (os := os) h k (by omega)
    have hx := h _ (List.getElem_mem (show k < fu.length by omega))
    unfold pkS fuS
    rw [othersN_succ (show k < fu.length by omega) _ rfl, totS_append, atI_at (show k < fu.length by omega)]
    cases os.contains ((k : Int) + 1) with
    | true =>
      rw [if_pos rfl, if_pos rfl]
      have : totS [] = 0 := rfl
      omega
    | false =>
      rw [if_neg (by simp), if_neg (by simp), totS_one _ _ _ hx]
      omega
theorem rrN_eq (p : Pol) (os : List Int) : ∀ k, rrN p os k = p.line + p.cap + fuS p.fu k + pkS (atI p.co) os k
  | 0 => by unfold rrN fuS pkS; omega
  | k + 1 => by unfold rrN fuS pkS; rw [rrN_eq p os k]; omega
/-- What may be drawn, source by source, is the document's sum. -/
theorem room_law {p : Pol} {os : List Int} (h : mayE p os = 0) : roomV p os = rrN p os p.co.length := by
  have F := mayF_of h
  have hup := os_up h
  have hln := F.all p.line (by simp [polL])
  have hcp := F.all p.cap (by simp [polL])
  have hco : ∀ x ∈ p.co, 0 ≤ x := fun x hx => (F.all x (by simp [polL, hx])).1
  have hfu : ∀ x ∈ p.fu, 0 ≤ x := fun x hx => (F.all x (by simp [polL, hx])).1
  have e1 := oneS 8 (atI p.co) os fun m hm => hco _ (atI_mem (F.os1 m hm).1 (F.os1 m hm).2)
  have e2 := oneS 9 (atI p.fu) os fun m hm => hfu _ (atI_mem (F.os1 m hm).1 (by have := (F.os1 m hm).2; have := F.len; omega))
  have e3 := pkS_eq (atI p.co) p.co.length os hup F.os1
  have e4 := pkS_eq (atI p.fu) p.co.length os hup F.os1
  have e5 := others_fuS (os := os) hfu p.co.length (by have := F.len; omega)
  have e6 := rrN_eq p os p.co.length
  have hb := rrN_bd F p.co.length (Nat.le_refl _)
  have hbig := F.big
  have hs : ((srcs p os).map totS).sum = rrN p os p.co.length := by
    unfold srcs othersL
    rw [List.map_append, List.map_append, List.sum_append, List.sum_append, e1, e2, F.len]
    simp only [List.map_cons, List.map_nil, List.sum_cons, List.sum_nil]
    rw [totS_one _ _ _ hln.1, totS_one _ _ _ hcp.1]
    omega
  unfold roomV
  rw [if_pos h]
  unfold rmF
  rw [rmF_tot _ 0 (Int.le_refl _) (by rw [hs]; omega), hs]
  omega
end Go.Proofs.Ytglpnpjjjihghaa
