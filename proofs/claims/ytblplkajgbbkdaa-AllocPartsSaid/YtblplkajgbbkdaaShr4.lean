/-
  How share.apportion's places are sorted: a contract for callers.
-/
import Derived.Test.YtblplkajgbbkdaaShr3
namespace Go.Proofs.Ytblplkajgbbkdaa
open Go.RowKit Go.Lib Go.Sort Go.Shelf Go.Proofs.Ytblplkajgbbkdaa.StableLaw Go.Proofs.Ytblplkajgbbkdaa.ShareLaw

/-- The places, in the order of their rests. -/
def Ordered (r : Nat → Int) (n : Nat) (who : Nat → Nat) : Prop := ∀ t, t < n → who t < n ∧ rk r n (who t) = t
def WhoPost (r : Nat → Int) (n bw : Nat) (w : World) : Ending → World → Prop := fun e w' => e = .returned (.tuple #[]) ∧ ∃ who : Nat → Nat, Ordered r n who ∧ (∀ t, t < n → w'.cell? ⟨bw, t, none⟩ = some (.int .i64 (who t : Int))) ∧ w.grownBy w' (some bw)
theorem L_ah {r : Nat → Int} {x y : Nat} (h : L (fun z => -(r z.toNat)) (x : Int) (y : Int)) : ah r x y = true := by
  unfold L at h
  simp only [Int.toNat_natCast] at h
  rw [ah_iff]
  omega
theorem ordered_of {r : Nat → Int} {n : Nat} {g : Nat → Int} (hm : Moved (fun p => (p : Int)) g 0 n) (hs : Srt (fun z => -(r z.toNat)) g 0 n) : ∃ who : Nat → Nat, Ordered r n who ∧ ∀ t, t < n → g t = (who t : Int) := by
  have hex : ∀ t, ∃ m : Nat, t < n → m < n ∧ g t = (m : Int) := by
    intro t
    by_cases ht : t < n
    · obtain ⟨j, _, hj, e⟩ := hm.to t (Nat.zero_le _) ht
      exact ⟨j, fun _ => ⟨hj, e⟩⟩
    · exact ⟨0, fun h => absurd h ht⟩
  obtain ⟨who, hw⟩ := Classical.skolem.1 hex
  refine ⟨who, ?_, fun t ht => (hw t ht).2⟩
  have key := grows_id (n := n) (f := fun t => rk r n (who t)) (fun t ht => rk_lt (hw t ht).1) (fun i j hij hj => by
    have h1 := hs i j (Nat.zero_le _) hij hj
    rw [(hw i (by omega)).2, (hw j hj).2] at h1
    exact rk_lt_of (hw i (by omega)).1 (L_ah h1))
  exact fun t ht => ⟨(hw t ht).1, key t ht⟩
theorem fn_rowF (n : Nat) (f : Nat → Int) {p : Nat} (hp : p < n) : fn (rowF n f).toArray p = f p := by
  unfold fn
  rw [getElem!_pos _ p (by simpa [rowF_len] using hp)]
  simp [rowF]
theorem moved_id {n : Nat} {f g : Nat → Int} (h : Moved f g 0 n) (hf : ∀ p, p < n → f p = p) : ∃ g', Moved (fun p => (p : Int)) g' 0 n ∧ ∀ t, t < n → g' t = g t := by
  refine ⟨fun p => if p < n then g p else p, ⟨fun i _ hi => ?_, fun j _ hj => ?_, fun i hi => ?_⟩, fun t ht => by simp [ht]⟩
  · obtain ⟨j, _, hj, e⟩ := h.to i (Nat.zero_le _) hi
    exact ⟨j, Nat.zero_le _, hj, by simp only [hi, if_true]; rw [e, hf j hj]⟩
  · obtain ⟨i, _, hi, e⟩ := h.of j (Nat.zero_le _) hj
    exact ⟨i, Nat.zero_le _, hi, by simp only [hi, if_true]; rw [← e, hf j hj]⟩
  · have : ¬ i < n := by omega
    simp [this]
set_option maxHeartbeats 1600000 in
theorem sortWho_any (bc br bw n : Nat) (r : Nat → Int) (w : World) (hn : n ≤ 1000000) (hc : w.heap[bc]? = some (.cells #[.slice (some ⟨br, 0, none⟩) n n] 22 (0, 0))) (hr : Rowb w br 2 (rowF n r)) (hw : Rowb w bw 3 (rowF n fun i => (i : Int))) (h1 : bc ≠ bw) (h2 : br ≠ bw) (h3 : bc < w.heap.size) (h4 : br < w.heap.size) (h5 : bw < w.heap.size) :
    Calls Try.prog 73 #[.slice (some ⟨bw, 0, none⟩) n n, .func (.func 74) #[] #[.pointer (some ⟨bc, 0, none⟩)]] w (WhoPost r n bw w) := by
  have hlen : (rowF n fun i => (i : Int)).toArray.size = n := by simp [rowF_len]
  have hH : Holds (Value.int .i64) w bw 0 (rowF n fun i => (i : Int)).toArray := by
    intro j hj
    rw [hlen] at hj
    refine ⟨?_, hw.free _⟩
    have hl : 0 + j < (rowF n fun i => (i : Int)).length := by rw [rowF_len]; omega
    rw [hw.cell hl]
    have e := fn_rowF n (fun i => (i : Int)) hj
    unfold fn at e
    rw [e, rowF_at]
    simp
  have R : Row1 (Value.int .i64) w bw 0 (rowF n fun i => (i : Int)).toArray := ⟨enc_one, hH, h5⟩
  have T : Sett w bw 0 n 74 #[.pointer (some ⟨bc, 0, none⟩)] (fun x y => cmpI (r y.toNat) (r x.toNat)) (fun z => -(r z.toNat)) (fun x => ∃ m : Nat, x = m ∧ m < n) (rowF n fun i => (i : Int)).toArray := by
    refine ⟨R, hlen, by omega, enters_of Try.func74 (by kernel_rfl) rfl, ?_, ?_⟩
    · rintro m os dk hdk x y ⟨xn, rfl, hx⟩ ⟨yn, rfl, hy⟩
      have hg : w.grownBy (sortWorld (Value.int .i64) w bw 0 m dk os) (some bw) := grownBy_sortedI dk
      have e1 : (sortWorld (Value.int .i64) w bw 0 m dk os).heap[bc]? = _ := (hg.block bc h3 (fun e => h1 (by injection e))).trans hc
      have e2 : Rowb (sortWorld (Value.int .i64) w bw 0 m dk os) br 2 (rowF n r) := hr.of_block (hg.block br h4 (fun e => h2 (by injection e)))
      refine (ord_any bc br n r xn yn hx hy _ ?_ ?_).mono ?_
      · rw [cell_of_row _ bc 0 _ 22 (0, 0) e1]; rfl
      · intro i hi
        rw [e2.cell (by rw [rowF_len]; exact hi), rowF_at]
      · rintro e w' ⟨rfl, q, rfl⟩
        refine ⟨by simp only [Int.toNat_natCast], q, #[], ?_⟩
        rw [grow_empty]
    · rintro x y ⟨xn, rfl, hx⟩ ⟨yn, rfl, hy⟩
      simp only [Int.toNat_natCast]
      rw [cmpI_neg]
      omega
  have RW : Rw w bw 0 n (fun x => ∃ m : Nat, x = m ∧ m < n) (rowF n fun i => (i : Int)).toArray w := ⟨hlen, SW.start hH, fun p hp => ⟨p, fn_rowF n _ hp, hp⟩⟩
  refine (sortStable_any T n _ w RW hn (fun p hp => fn_rowF n _ hp)).mono ?_
  rintro e w' ⟨rfl, d', mv, hs, hR⟩
  obtain ⟨g', mg, hg'⟩ := moved_id mv (fun p hp => fn_rowF n _ hp)
  have sg : Srt (fun z => -(r z.toNat)) g' 0 n := fun i j a b c => by rw [hg' i (by omega), hg' j c]; exact hs i j a b c
  obtain ⟨who, ho, hwho⟩ := ordered_of mg sg
  refine ⟨rfl, who, ho, fun t ht => ?_, ?_⟩
  · have := hR.c T t ht
    rw [Nat.zero_add] at this
    rw [this, ← hwho t ht, hg' t ht]
  · obtain ⟨m, os, e⟩ := hR.sw
    rw [e]
    exact grownBy_sortedI d'
end Go.Proofs.Ytblplkajgbbkdaa
