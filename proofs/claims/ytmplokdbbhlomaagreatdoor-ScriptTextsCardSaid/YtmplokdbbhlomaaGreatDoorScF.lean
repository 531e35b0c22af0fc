/-
  Several texts in one: ScP, ScPD.
-/
import Derived.Lib.ParseIntB
import Derived.Test.YtmplokdbbhlomaaGreatDoorScT
/-
  Lines parsed, in plain Lean: the step of a line is read as it was, by the program's way and by the document's.
-/
namespace Go.Proofs.YtmplokdbbhlomaaGreatDoor

/-- A text cut at a byte. -/
def splitL (c : UInt8) : List UInt8 → List (List UInt8)
  | [] => [[]]
  | b :: l => if b = c then [] :: splitL c l else match splitL c l with
    | [] => [[b]]
    | h :: t => (b :: h) :: t
theorem splitL_ne (c : UInt8) : ∀ l, splitL c l ≠ []
  | [] => by simp [splitL]
  | b :: l => by
    unfold splitL
    split
    · simp
    · split <;> simp
theorem splitL_cons (c : UInt8) (l : List UInt8) : ∃ h t, splitL c l = h :: t := by
  match hs : splitL c l with
  | [] => exact absurd hs (splitL_ne c l)
  | h :: t => exact ⟨h, t, rfl⟩
def joinW : List (List UInt8) → List UInt8
  | [] => []
  | w :: ws => w ++ ws.flatMap fun t => 32 :: t
theorem join_split : ∀ l, joinW (splitL 32 l) = l
  | [] => rfl
  | b :: l => by
    have ih := join_split l
    obtain ⟨h, t, hs⟩ := splitL_cons 32 l
    rw [hs] at ih
    unfold splitL
    rw [hs]
    by_cases hb : b = 32
    · rw [if_pos hb]
      subst hb
      show [] ++ (32 :: h) ++ t.flatMap _ = _
      simp only [joinW] at ih
      rw [List.nil_append, List.cons_append, ih]
    · rw [if_neg hb]
      show (b :: h) ++ t.flatMap _ = _
      simp only [joinW] at ih
      rw [List.cons_append, ih]
theorem split_none {c : UInt8} : ∀ {w : List UInt8}, c ∉ w → splitL c w = [w]
  | [], _ => rfl
  | b :: w, h => by
    have hb : b ≠ c := fun e => h (by rw [e]; exact List.mem_cons_self ..)
    unfold splitL
    rw [if_neg hb, split_none fun hw => h (List.mem_cons_of_mem _ hw)]
theorem split_app {c : UInt8} : ∀ {w : List UInt8} (l : List UInt8), c ∉ w → splitL c (w ++ c :: l) = w :: splitL c l
  | [], l, _ => by
    show splitL c (c :: l) = _
    rw [splitL, if_pos rfl]
  | b :: w, l, h => by
    have hb : b ≠ c := fun e => h (by rw [e]; exact List.mem_cons_self ..)
    rw [List.cons_append, splitL, if_neg hb, split_app l fun hw => h (List.mem_cons_of_mem _ hw)]
theorem split_join : ∀ (ws : List (List UInt8)) (w : List UInt8), (32 : UInt8) ∉ w → (∀ t ∈ ws, (32 : UInt8) ∉ t) → splitL 32 (joinW (w :: ws)) = w :: ws
  | [], w, h, _ => by
    show splitL 32 (w ++ []) = _
    rw [List.append_nil, split_none h]
  | t :: ws, w, h, hs => by
    show splitL 32 (w ++ ((32 :: t) ++ ws.flatMap _)) = _
    rw [List.cons_append, split_app _ h]
    congr 1
    exact split_join ws t (hs t (List.mem_cons_self ..)) fun u hu => hs u (List.mem_cons_of_mem _ hu)
theorem digit_nat {d : Nat} (h : d < 10) : (UInt8.ofNat (48 + d)).toNat = 48 + d := by
  rw [UInt8.toNat_ofNat']
  omega
theorem digits_in : ∀ (u : Nat), ∀ b ∈ Lib.decDigits u, 48 ≤ b.toNat ∧ b.toNat ≤ 57 := by
  intro u
  induction u using Nat.strongRecOn with
  | _ u ih =>
    intro b hb
    unfold Lib.decDigits at hb
    split at hb
    · rename_i h
      rw [List.mem_singleton.1 hb, digit_nat h]
      omega
    · rename_i h
      rcases List.mem_append.1 hb with hb | hb
      · exact ih (u / 10) (by omega) b hb
      · rw [List.mem_singleton.1 hb, digit_nat (by omega)]
        omega
theorem itoa_in (n : Int) : ∀ b ∈ Lib.itoa n, b.toNat = 45 ∨ 48 ≤ b.toNat ∧ b.toNat ≤ 57 := by
  intro b hb
  unfold Lib.itoa at hb
  split at hb
  · rcases List.mem_cons.1 hb with rfl | hb
    · exact .inl rfl
    · exact .inr (digits_in _ b hb)
  · exact .inr (digits_in _ b hb)
theorem itoa_no {n : Int} {c : UInt8} (h : c.toNat < 45) : c ∉ Lib.itoa n := fun hc => by
  have := itoa_in n c hc
  omega
theorem parseM_app (M : Nat) : ∀ (l1 l2 : List UInt8) (acc a : Nat), Lib.parseUintM M acc l1 = .ok a → Lib.parseUintM M acc (l1 ++ l2) = Lib.parseUintM M a l2
  | [], l2, acc, a, h => by
    unfold Lib.parseUintM at h
    injection h with h
    rw [h]
    rfl
  | c :: l1, l2, acc, a, h => by
    unfold Lib.parseUintM at h
    rw [List.cons_append, Lib.parseUintM]
    split at h
    · rename_i h1
      rw [if_pos h1]
      split at h
      · cases h
      · rename_i h2
        rw [if_neg h2]
        split at h
        · cases h
        · rename_i h3
          rw [if_neg h3]
          exact parseM_app M l1 l2 _ a h
    · cases h
theorem parseM_digits : ∀ (u : Nat), u ≤ 18446744073709551615 → Lib.parseUintM 18446744073709551615 0 (Lib.decDigits u) = .ok u := by
  intro u
  induction u using Nat.strongRecOn with
  | _ u ih =>
    intro hu
    unfold Lib.decDigits
    split
    · rename_i h
      unfold Lib.parseUintM
      rw [digit_nat h, if_pos (by omega), if_neg (by omega), if_neg (by omega)]
      unfold Lib.parseUintM
      congr 1
      omega
    · rename_i h
      rw [parseM_app _ _ _ 0 (u / 10) (ih (u / 10) (by omega) (by omega))]
      unfold Lib.parseUintM
      rw [digit_nat (by omega), if_pos (by omega), if_neg (by omega), if_neg (by omega)]
      unfold Lib.parseUintM
      congr 1
      omega
theorem digits_cons (u : Nat) : ∃ b l, Lib.decDigits u = b :: l ∧ 48 ≤ b.toNat := by
  match h : Lib.decDigits u with
  | [] =>
    exfalso
    unfold Lib.decDigits at h
    split at h <;> simp at h
  | b :: l => exact ⟨b, l, rfl, (digits_in u b (by rw [h]; exact List.mem_cons_self ..)).1⟩
theorem parse_itoa {n : Int} (h : I64 n) : Lib.parseIntB 64 (Lib.itoa n) = .ok n := by
  unfold I64 at h
  have e64 : (2 : Nat) ^ 64 - 1 = 18446744073709551615 := by decide
  have e63 : (2 : Nat) ^ (64 - 1) = 9223372036854775808 := by decide
  unfold Lib.itoa
  split
  · rename_i hn
    obtain ⟨b, l, hb, _⟩ := digits_cons n.natAbs
    have hp := parseM_digits n.natAbs (by omega)
    have h45 : (45 : UInt8).toNat = 45 := rfl
    unfold Lib.parseIntB
    simp only [h45]
    rw [if_pos (.inr trivial)]
    unfold Lib.parseUintB
    rw [if_neg (by rw [hb]; simp), e64, hp]
    simp only [e63]
    rw [if_neg (by simp), if_neg (by simp; omega), if_pos trivial]
    congr 1
    omega
  · rename_i hn
    obtain ⟨b, l, hb, h48⟩ := digits_cons n.toNat
    have hp := parseM_digits n.toNat (by omega)
    rw [hb] at hp ⊢
    unfold Lib.parseIntB
    have h57 := (digits_in n.toNat b (by rw [hb]; exact List.mem_cons_self ..)).2
    simp only
    rw [if_neg (show ¬ (b.toNat = 43 ∨ b.toNat = 45) by omega)]
    unfold Lib.parseUintB
    rw [if_neg (by simp), e64, hp]
    simp only [e63]
    rw [if_neg (by omega), if_neg (by omega), if_neg (by omega)]
    congr 1
    omega
theorem parse_in {s : List UInt8} {v : Int} (h : Lib.parseIntB 64 s = .ok v) : I64 v := by
  have e63 : (2 : Nat) ^ (64 - 1) = 9223372036854775808 := by decide
  unfold I64
  unfold Lib.parseIntB at h
  match s, h with
  | c :: r, h =>
    simp only [e63] at h
    split at h
    · cases h
    · cases h
    · rename_i u hu
      split at h
      · cases h
      · rename_i h1
        split at h
        · cases h
        · rename_i h2
          injection h with h
          split at h <;> omega
/-- What strconv.ParseInt hands back: the number, and whether there is no error. -/
def pI (s : List UInt8) : Int × Bool := match Lib.parseIntB 64 s with
  | .ok v => (v, true)
  | .syntax => (0, false)
  | .range => (Lib.intSat 64 s, false)
theorem pI_itoa {n : Int} (h : I64 n) : pI (Lib.itoa n) = (n, true) := by unfold pI; rw [parse_itoa h]
theorem sat_in (s : List UInt8) : I64 (Lib.intSat 64 s) := by
  have e63 : (2 : Nat) ^ (64 - 1) = 9223372036854775808 := by decide
  unfold Lib.intSat I64
  rw [e63]
  split <;> omega
theorem pI_in (s : List UInt8) : I64 (pI s).1 := by
  unfold pI
  split
  · exact parse_in (by assumption)
  · unfold I64; omega
  · exact sat_in s
/-- The kind of a word. -/
def kindW (w : List UInt8) : Nat :=
  if w = wordL 1 then 1 else if w = wordL 2 then 2 else if w = wordL 3 then 3 else if w = wordL 4 then 4 else if w = wordL 5 then 5 else if w = wordL 6 then 6 else if w = wordL 7 then 7 else if w = wordL 8 then 8 else if w = wordL 9 then 9 else if w = wordL 10 then 10 else 0
theorem kind_le (w : List UInt8) : kindW w ≤ 10 := by
  unfold kindW
  repeat' split
  all_goals omega
theorem kind_word {k : Nat} (h1 : 1 ≤ k) (h2 : k ≤ 10) : kindW (wordL k) = k := by
  have : k = 1 ∨ k = 2 ∨ k = 3 ∨ k = 4 ∨ k = 5 ∨ k = 6 ∨ k = 7 ∨ k = 8 ∨ k = 9 ∨ k = 10 := by omega
  rcases this with rfl | rfl | rfl | rfl | rfl | rfl | rfl | rfl | rfl | rfl <;> decide
theorem word_kind {w : List UInt8} (h : kindW w ≠ 0) : w = wordL (kindW w) := by
  unfold kindW at h ⊢
  repeat' split
  all_goals first | assumption | skip
  rename_i a b c d e f g i j k
  rw [if_neg a, if_neg b, if_neg c, if_neg d, if_neg e, if_neg f, if_neg g, if_neg i, if_neg j, if_neg k] at h
  exact absurd rfl h
theorem kind_fuse : kindW fuseW = 0 := by decide
theorem kind_crash : kindW crashW = 0 := by decide
theorem word_no {k : Nat} {c : UInt8} (h : c.toNat < 97) : c ∉ wordL k := by
  have hall : ∀ b ∈ wordL k, 97 ≤ b.toNat := by
    unfold wordL
    repeat' split
    all_goals decide
  exact fun hc => by have := hall c hc; omega
/-- The step that words tell, and the error, ahead of the last look. -/
def midP (w0 : List UInt8) (ns : List (Int × Bool)) : St × Int :=
  if ns.all (·.2) then
    (if kindW w0 ≠ 0 then (⟨1, (getC (putN (kindW w0 : Int) ++ (ns.map (·.1)).flatMap putN)).1, 0⟩, (getC (putN (kindW w0 : Int) ++ (ns.map (·.1)).flatMap putN)).2)
    else if ns.length = 1 ∧ w0 = fuseW then (⟨2, zeroC, (ns.map (·.1)).headD 0⟩, 0)
    else if ns.length = 1 ∧ w0 = crashW then (⟨3, zeroC, (ns.map (·.1)).headD 0⟩, 0)
    else (⟨1, zeroC, 0⟩, 3))
  else (⟨1, zeroC, 0⟩, 3)
def mid (line : List UInt8) : St × Int := midP ((splitL 32 line).headD []) ((splitL 32 line).tail.map pI)
/-- The step of a line, by the program. -/
def parseP (line : List UInt8) : St × Int := if (mid line).2 = 0 ∧ rightS (mid line).1 = true ∧ lineS (mid line).1 = line then ((mid line).1, 0) else (zeroS, 3)
theorem zeroS_ok : StOk ⟨1, zeroC, 0⟩ := ⟨by unfold I64; simp, zeroC_ok, by unfold I64; simp⟩
theorem getC_ok (s : List UInt8) : CmOk (getC s).1 := by
  by_cases h : (getC s).2 = 0
  · exact (getC_got h).2.2
  · unfold getC at h ⊢
    repeat' split
    · rename_i h1 h2
      rw [if_pos h1, if_pos h2] at h
      exact absurd rfl h
    · exact zeroC_ok
    · exact zeroC_ok
theorem mid_ok (line : List UInt8) : StOk (mid line).1 := by
  have hin : ∀ n ∈ ((splitL 32 line).tail.map pI).map (·.1), I64 n := by
    intro n hn
    obtain ⟨y, hy, rfl⟩ := List.mem_map.1 hn
    obtain ⟨s, _, rfl⟩ := List.mem_map.1 hy
    exact pI_in s
  unfold mid midP
  generalize (splitL 32 line).tail.map pI = ns at *
  have hh : I64 ((ns.map (·.1)).headD 0) := by
    generalize ns.map (·.1) = ms at hin ⊢
    cases ms with
    | nil => show I64 0; unfold I64; omega
    | cons n l => exact hin n (List.mem_cons_self ..)
  repeat' split
  · exact ⟨by show I64 1; unfold I64; omega, getC_ok _, by show I64 0; unfold I64; omega⟩
  · exact ⟨by show I64 2; unfold I64; omega, zeroC_ok, hh⟩
  · exact ⟨by show I64 3; unfold I64; omega, zeroC_ok, hh⟩
  · exact zeroS_ok
  · exact zeroS_ok
theorem parseP_got {line : List UInt8} (h : (parseP line).2 = 0) : StOk (parseP line).1 ∧ rightS (parseP line).1 = true ∧ lineS (parseP line).1 = line := by
  unfold parseP at h ⊢
  split at h
  · rename_i h1
    rw [if_pos h1]
    exact ⟨mid_ok line, h1.2.1, h1.2.2⟩
  · cases h
theorem parseP_bad {line : List UInt8} (h : (parseP line).2 ≠ 0) : parseP line = (zeroS, 3) := by
  unfold parseP at h ⊢
  split at h
  · exact absurd rfl h
  · rename_i h1
    rw [if_neg h1]
theorem putJ_nums (c : Cm) (js : List Nat) : putJ c js = (js.map c.get).flatMap putN := by
  unfold putJ
  rw [List.flatMap_map]
theorem lineS_join (x : St) : lineS x = joinW (wordS x :: (numsS x).map Lib.itoa) := by
  show wordS x ++ (numsS x).flatMap numL = wordS x ++ ((numsS x).map Lib.itoa).flatMap fun t => 32 :: t
  rw [List.flatMap_map]
  rfl
theorem wordS_no {x : St} {c : UInt8} (hc : c.toNat < 97) : c ∉ wordS x := by
  unfold wordS
  repeat' split
  · unfold fuseW; intro hm; have : ∀ b ∈ ([102, 117, 115, 101] : List UInt8), 97 ≤ b.toNat := by decide
    have := this c hm; omega
  · unfold crashW; intro hm; have : ∀ b ∈ ([99, 114, 97, 115, 104] : List UInt8), 97 ≤ b.toNat := by decide
    have := this c hm; omega
  · exact word_no hc
theorem split_line (x : St) : splitL 32 (lineS x) = wordS x :: (numsS x).map Lib.itoa := by
  rw [lineS_join]
  refine split_join _ _ (wordS_no (by decide)) fun t ht => ?_
  obtain ⟨n, _, rfl⟩ := List.mem_map.1 ht
  exact itoa_no (by decide)
theorem right_one {x : St} (h : rightS x = true) (hk : x.k = 1) : x = ⟨1, x.c, 0⟩ ∧ rightC x.c = true := by
  obtain ⟨k, c, n⟩ := x
  simp only at hk
  subst hk
  unfold rightS at h
  simp at h
  exact ⟨by rw [h.1], h.2⟩
theorem right_two {x : St} (h : rightS x = true) (hk : x.k ≠ 1) : x.c = zeroC := by
  unfold rightS at h
  rw [if_neg hk] at h
  simp at h
  exact h.1
theorem rightC_isK {c : Cm} (h : rightC c = true) : isK c.k = true := by
  unfold rightC at h
  simp at h
  exact h.1
theorem mid_line {x : St} (hx : StOk x) (h : rightS x = true) : mid (lineS x) = (x, 0) := by
  have hns : ((numsS x).map Lib.itoa).map pI = (numsS x).map fun n => (n, true) := by
    rw [List.map_map]
    exact List.map_congr_left fun n hn => pI_itoa (numsS_in hx n hn)
  unfold mid
  rw [split_line]
  show midP (wordS x) (((numsS x).map Lib.itoa).map pI) = _
  rw [hns]
  have hall : ((numsS x).map fun n => (n, true)).all (·.2) = true := by
    rw [List.all_eq_true]
    intro y hy
    obtain ⟨n, _, rfl⟩ := List.mem_map.1 hy
    rfl
  have hfst : ((numsS x).map fun n => ((n, true) : Int × Bool)).map (·.1) = numsS x := by
    rw [List.map_map]
    exact List.map_id _
  unfold midP
  rw [if_pos hall, hfst, List.length_map]
  rcases right_kind h with hk | hk | hk
  · obtain ⟨e, hc⟩ := right_one h hk
    have hck := rightC_isK hc
    have hw : wordS x = wordL x.c.k.toNat := by unfold wordS; rw [if_neg (by omega), if_neg (by omega)]
    have hn : numsS x = (jsOf x.c.k).map x.c.get := by unfold numsS; rw [if_neg (by omega), if_neg (by omega)]
    have hkb : 1 ≤ x.c.k ∧ x.c.k ≤ 10 := by simp [isK] at hck; exact hck
    have hkw : kindW (wordS x) = x.c.k.toNat := by rw [hw]; exact kind_word (by omega) (by omega)
    have hnn : ((x.c.k.toNat : Nat) : Int) = x.c.k := by omega
    rw [hkw, if_pos (by omega), hn, ← putJ_nums, hnn, putJ_all, getC_put hx.2.1 hc]
    rw [← e]
  · have hc := right_two h (by omega)
    have hw : wordS x = fuseW := by unfold wordS; rw [if_pos hk]
    have hn : numsS x = [x.n] := by unfold numsS; rw [if_pos hk]
    rw [hw, hn, if_neg (by rw [kind_fuse]; simp), if_pos ⟨rfl, rfl⟩]
    obtain ⟨k, c, n⟩ := x
    simp only at hk hc
    rw [hk, hc]
    rfl
  · have hc := right_two h (by omega)
    have hw : wordS x = crashW := by unfold wordS; rw [if_neg (by omega), if_pos hk]
    have hn : numsS x = [x.n] := by unfold numsS; rw [if_neg (by omega), if_pos hk]
    rw [hw, hn, if_neg (by rw [kind_crash]; simp), if_neg (by rintro ⟨_, h2⟩; revert h2; decide), if_pos ⟨rfl, rfl⟩]
    obtain ⟨k, c, n⟩ := x
    simp only at hk hc
    rw [hk, hc]
    rfl
theorem parseP_line {x : St} (hx : StOk x) (h : rightS x = true) : parseP (lineS x) = (x, 0) := by
  unfold parseP
  rw [mid_line hx h, if_pos ⟨rfl, h, rfl⟩]
end Go.Proofs.YtmplokdbbhlomaaGreatDoor

/-
  Lines parsed the document's way, in plain Lean; both ways are one.
-/
namespace Go.Proofs.YtmplokdbbhlomaaGreatDoor

/-- Digits gathered below 0. -/
def numF : List UInt8 → Int → Option Int
  | [], n => some n
  | b :: s, n => if (b.toNat : Int) - 48 < 0 ∨ 9 < (b.toNat : Int) - 48 ∨ n < -922337203685477580 ∨ n = -922337203685477580 ∧ 8 < (b.toNat : Int) - 48 then none else numF s (n * 10 - ((b.toNat : Int) - 48))
def belowB (s : List UInt8) : Bool := s.head? == some 45
/-- The document's number. -/
def numD (s : List UInt8) : Int × Bool :=
  match numF (if belowB s then s.drop 1 else s) 0 with
  | none => (0, false)
  | some n => if belowB s = false ∧ n = -9223372036854775808 then (0, false) else ((if belowB s then n else -n), Lib.itoa (if belowB s then n else -n) == s)
theorem numF_in : ∀ (s : List UInt8) (n m : Int), -9223372036854775808 ≤ n → n ≤ 0 → numF s n = some m → -9223372036854775808 ≤ m ∧ m ≤ 0
  | [], n, m, h0, h1, h => by
    unfold numF at h
    injection h with h
    omega
  | b :: s, n, m, h0, h1, h => by
    unfold numF at h
    split at h
    · cases h
    · rename_i hn
      exact numF_in s _ m (by omega) (by omega) h
theorem numD_got {s : List UInt8} (h : (numD s).2 = true) : Lib.itoa (numD s).1 = s ∧ I64 (numD s).1 := by
  unfold numD at h ⊢
  split at h
  · cases h
  · rename_i n hn
    split at h
    · cases h
    · rename_i h1
      rw [if_neg h1]
      have hin := numF_in _ 0 n (by omega) (by omega) hn
      refine ⟨eq_of_beq h, ?_⟩
      unfold I64
      cases hb : belowB s with
      | true => simp; omega
      | false =>
        have : n ≠ -9223372036854775808 := fun e => h1 ⟨hb, e⟩
        simp
        omega
theorem numF_app : ∀ (l1 l2 : List UInt8) (n a : Int), numF l1 n = some a → numF (l1 ++ l2) n = numF l2 a
  | [], l2, n, a, h => by
    unfold numF at h
    injection h with h
    rw [h]
    rfl
  | b :: l1, l2, n, a, h => by
    unfold numF at h
    rw [List.cons_append, numF]
    split at h
    · cases h
    · rename_i h1
      rw [if_neg h1]
      exact numF_app l1 l2 _ a h
theorem numF_digits : ∀ (u : Nat), u ≤ 9223372036854775808 → numF (Lib.decDigits u) 0 = some (-(u : Int)) := by
  intro u
  induction u using Nat.strongRecOn with
  | _ u ih =>
    intro hu
    unfold Lib.decDigits
    split
    · rename_i h
      unfold numF
      rw [digit_nat h, if_neg (by omega)]
      unfold numF
      congr 1
      omega
    · rename_i h
      rw [numF_app _ _ 0 (-((u / 10 : Nat) : Int)) (ih (u / 10) (by omega) (by omega))]
      unfold numF
      rw [digit_nat (by omega), if_neg (by omega)]
      unfold numF
      congr 1
      omega
theorem numD_itoa {n : Int} (h : I64 n) : numD (Lib.itoa n) = (n, true) := by
  unfold I64 at h
  by_cases hn : n < 0
  · have e : Lib.itoa n = 45 :: Lib.decDigits n.natAbs := by unfold Lib.itoa; rw [if_pos hn]
    have hb : belowB (45 :: Lib.decDigits n.natAbs) = true := rfl
    have hd := numF_digits n.natAbs (by omega)
    have en : -((n.natAbs : Nat) : Int) = n := by omega
    rw [en] at hd
    unfold numD
    rw [e, hb, if_pos rfl]
    show (match numF (Lib.decDigits n.natAbs) 0 with | none => _ | some m => _) = _
    rw [hd]
    simp only
    rw [if_neg (by simp)]
    simp [e]
  · have e : Lib.itoa n = Lib.decDigits n.toNat := by unfold Lib.itoa; rw [if_neg hn]
    obtain ⟨b, l, hbl, h48⟩ := digits_cons n.toNat
    have hb : belowB (Lib.decDigits n.toNat) = false := by
      rw [hbl]
      show (some b == some 45) = false
      have : b ≠ 45 := fun e => by rw [e] at h48; revert h48; decide
      simpa using this
    have hd := numF_digits n.toNat (by omega)
    have en : ((n.toNat : Nat) : Int) = n := by omega
    rw [en] at hd
    unfold numD
    rw [e, hb, if_neg (by simp), hd]
    simp only
    rw [if_neg (by omega), if_neg (by simp), Int.neg_neg, e]
    simp
theorem flat_inj : ∀ (l1 l2 : List Int), (∀ n ∈ l1, I64 n) → (∀ n ∈ l2, I64 n) → l1.flatMap putN = l2.flatMap putN → l1 = l2
  | [], [], _, _, _ => rfl
  | [], b :: l2, _, _, h => by
    exfalso
    have h2 := congrArg List.length h
    rw [List.flatMap_cons, List.length_append] at h2
    have := putN_pos b
    simp only [List.flatMap_nil, List.length_nil] at h2
    omega
  | a :: l1, [], _, _, h => by
    exfalso
    have h2 := congrArg List.length h
    rw [List.flatMap_cons, List.length_append] at h2
    have := putN_pos a
    simp only [List.flatMap_nil, List.length_nil] at h2
    omega
  | a :: l1, b :: l2, ha, hb, h => by
    rw [List.flatMap_cons, List.flatMap_cons] at h
    have h1 := get_put (ha a (List.mem_cons_self ..)) (l1.flatMap putN)
    have h2 := get_put (hb b (List.mem_cons_self ..)) (l2.flatMap putN)
    rw [h, h2] at h1
    injection h1 with e1 e2
    injection e2 with e2 _
    rw [e1, flat_inj l1 l2 (fun n hn => ha n (List.mem_cons_of_mem _ hn)) (fun n hn => hb n (List.mem_cons_of_mem _ hn)) e2.symm]
/-- The step that words tell, by the document. -/
def midD (w0 : List UInt8) (ns : List (Int × Bool)) : St × Bool :=
  if ns.all (·.2) then
    (if (w0 = fuseW ∨ w0 = crashW) ∧ ns.length = 1 then
      (if rightS ⟨if w0 = crashW then 3 else 2, zeroC, (ns.map (·.1)).headD 0⟩ then (⟨if w0 = crashW then 3 else 2, zeroC, (ns.map (·.1)).headD 0⟩, true) else (zeroS, false))
    else if kindW w0 ≠ 0 ∧ (jsOf (kindW w0 : Int)).length = ns.length then
      (⟨1, (getC (putN (kindW w0 : Int) ++ (ns.map (·.1)).flatMap putN)).1, 0⟩, (getC (putN (kindW w0 : Int) ++ (ns.map (·.1)).flatMap putN)).2 == 0)
    else (zeroS, false))
  else (zeroS, false)
/-- The step of a line, by the document. -/
def parseD (line : List UInt8) : St × Bool := midD ((splitL 32 line).headD []) ((splitL 32 line).tail.map numD)
theorem parseD_line {x : St} (hx : StOk x) (h : rightS x = true) : parseD (lineS x) = (x, true) := by
  have hns : ((numsS x).map Lib.itoa).map numD = (numsS x).map fun n => (n, true) := by
    rw [List.map_map]
    exact List.map_congr_left fun n hn => numD_itoa (numsS_in hx n hn)
  unfold parseD
  rw [split_line]
  show midD (wordS x) (((numsS x).map Lib.itoa).map numD) = _
  rw [hns]
  have hall : ((numsS x).map fun n => (n, true)).all (·.2) = true := by
    rw [List.all_eq_true]
    intro y hy
    obtain ⟨n, _, rfl⟩ := List.mem_map.1 hy
    rfl
  have hfst : ((numsS x).map fun n => ((n, true) : Int × Bool)).map (·.1) = numsS x := by
    rw [List.map_map]
    exact List.map_id _
  unfold midD
  rw [if_pos hall, hfst, List.length_map]
  rcases right_kind h with hk | hk | hk
  · obtain ⟨e, hc⟩ := right_one h hk
    have hck := rightC_isK hc
    have hw : wordS x = wordL x.c.k.toNat := by unfold wordS; rw [if_neg (by omega), if_neg (by omega)]
    have hn : numsS x = (jsOf x.c.k).map x.c.get := by unfold numsS; rw [if_neg (by omega), if_neg (by omega)]
    have hkb : 1 ≤ x.c.k ∧ x.c.k ≤ 10 := by simp [isK] at hck; exact hck
    have hkw : kindW (wordS x) = x.c.k.toNat := by rw [hw]; exact kind_word (by omega) (by omega)
    have hnn : ((x.c.k.toNat : Nat) : Int) = x.c.k := by omega
    have hnf : wordS x ≠ fuseW := fun e2 => by rw [e2, kind_fuse] at hkw; omega
    have hnc : wordS x ≠ crashW := fun e2 => by rw [e2, kind_crash] at hkw; omega
    rw [if_neg (by rintro ⟨h1 | h1, _⟩; exact hnf h1; exact hnc h1), hkw, hnn, hn, List.length_map, if_pos ⟨by omega, rfl⟩, ← putJ_nums, putJ_all, getC_put hx.2.1 hc]
    rw [← e]
    rfl
  · have hc := right_two h (by omega)
    have hw : wordS x = fuseW := by unfold wordS; rw [if_pos hk]
    have hn : numsS x = [x.n] := by unfold numsS; rw [if_pos hk]
    have hx2 : (⟨2, zeroC, x.n⟩ : St) = x := by
      obtain ⟨k, c, n⟩ := x
      simp only at hk hc
      rw [hk, hc]
    rw [hw, hn, if_pos ⟨.inl rfl, rfl⟩, if_neg (show ¬ fuseW = crashW by decide)]
    show (if rightS ⟨2, zeroC, x.n⟩ = true then _ else _) = _
    rw [hx2, if_pos h]
    show ((⟨2, zeroC, x.n⟩ : St), true) = _
    rw [hx2]
  · have hc := right_two h (by omega)
    have hw : wordS x = crashW := by unfold wordS; rw [if_neg (by omega), if_pos hk]
    have hn : numsS x = [x.n] := by unfold numsS; rw [if_neg (by omega), if_pos hk]
    have hx2 : (⟨3, zeroC, x.n⟩ : St) = x := by
      obtain ⟨k, c, n⟩ := x
      simp only at hk hc
      rw [hk, hc]
    rw [hw, hn, if_pos ⟨.inr rfl, rfl⟩, if_pos rfl]
    show (if rightS ⟨3, zeroC, x.n⟩ = true then _ else _) = _
    rw [hx2, if_pos h]
    show ((⟨3, zeroC, x.n⟩ : St), true) = _
    rw [hx2]
theorem all_fst {ss : List (List UInt8)} (h : (ss.map numD).all (·.2) = true) : ((ss.map numD).map (·.1)).map Lib.itoa = ss ∧ ∀ n ∈ (ss.map numD).map (·.1), I64 n := by
  rw [List.all_eq_true] at h
  have h1 : ∀ s ∈ ss, Lib.itoa (numD s).1 = s ∧ I64 (numD s).1 := fun s hs => numD_got (h _ (List.mem_map.2 ⟨s, hs, rfl⟩))
  constructor
  · rw [List.map_map, List.map_map]
    have : ss.map ((Lib.itoa ∘ fun x => x.1) ∘ numD) = ss.map id := List.map_congr_left fun s hs => (h1 s hs).1
    rw [this, List.map_id]
  · intro n hn
    obtain ⟨y, hy, rfl⟩ := List.mem_map.1 hn
    obtain ⟨s, hs, rfl⟩ := List.mem_map.1 hy
    exact (h1 s hs).2
theorem parseD_got {line : List UInt8} (h : (parseD line).2 = true) : StOk (parseD line).1 ∧ rightS (parseD line).1 = true ∧ lineS (parseD line).1 = line := by
  have hj := join_split line
  obtain ⟨w0, ss, hs⟩ := splitL_cons 32 line
  rw [hs] at hj
  have hP : parseD line = midD w0 (ss.map numD) := by unfold parseD; rw [hs]; rfl
  rw [hP] at h ⊢
  clear hP hs
  unfold midD at h
  by_cases hall : (ss.map numD).all (·.2) = true
  case neg =>
    rw [if_neg hall] at h
    cases h
  obtain ⟨hit, hin⟩ := all_fst hall
  unfold midD
  rw [if_pos hall] at h ⊢
  have hlen : (ss.map numD).length = ((ss.map numD).map (·.1)).length := by simp
  rw [hlen] at h ⊢
  generalize (ss.map numD).map (·.1) = ns at *
  clear hall hlen
  by_cases hfc : (w0 = fuseW ∨ w0 = crashW) ∧ ns.length = 1
  · rw [if_pos hfc] at h ⊢
    obtain ⟨hw, hl⟩ := hfc
    obtain ⟨n, rfl⟩ := List.length_eq_one_iff.1 hl
    have hn : I64 n := hin n (List.mem_cons_self ..)
    by_cases hr : rightS ⟨if w0 = crashW then 3 else 2, zeroC, [n].headD 0⟩ = true
    · rw [if_pos hr]
      refine ⟨⟨?_, zeroC_ok, hn⟩, hr, ?_⟩
      · show I64 (if w0 = crashW then 3 else 2)
        split <;> (unfold I64; omega)
      · rw [lineS_join, ← hj, ← hit]
        by_cases hc : w0 = crashW
        · rw [if_pos hc, hc]
          rfl
        · rcases hw with hw | hw
          · rw [if_neg hc, hw]
            rfl
          · exact absurd hw hc
    · rw [if_neg hr] at h
      cases h
  · rw [if_neg hfc] at h ⊢
    by_cases hk : kindW w0 ≠ 0 ∧ (jsOf (kindW w0 : Int)).length = ns.length
    · rw [if_pos hk] at h ⊢
      obtain ⟨hk0, hkl⟩ := hk
      have h0 := eq_of_beq h
      obtain ⟨g1, g2, g3⟩ := getC_got h0
      have hle := kind_le w0
      have hwk := word_kind hk0
      generalize getC (putN (kindW w0 : Int) ++ ns.flatMap putN) = G at *
      obtain ⟨c, e⟩ := G
      simp only at g1 g2 g3 h0 ⊢
      have hik : I64 (kindW w0 : Int) := by unfold I64; omega
      rw [← putJ_all] at g1
      have d1 := get_put hik (ns.flatMap putN)
      have d2 := get_put g3.1 (putJ c (jsOf c.k))
      rw [g1, d2] at d1
      injection d1 with e1 e2
      injection e2 with e2 _
      rw [putJ_nums] at e2
      have hns := flat_inj _ _ (fun n hn => by obtain ⟨j, _, rfl⟩ := List.mem_map.1 hn; exact get_ok g3 j) hin e2
      refine ⟨⟨by show I64 1; unfold I64; omega, g3, by show I64 0; unfold I64; omega⟩, by unfold rightS; simp [g2], ?_⟩
      rw [lineS_join, ← hj, ← hit]
      have hw : wordS ⟨1, c, 0⟩ = w0 := by
        show wordL c.k.toNat = w0
        rw [e1]
        exact hwk.symm
      have hn : numsS ⟨1, c, 0⟩ = ns := hns
      rw [hw, hn]
    · rw [if_neg hk] at h
      cases h
/-- Both ways are one. -/
theorem parse_same (line : List UInt8) : parseP line = if (parseD line).2 then ((parseD line).1, 0) else (zeroS, 3) := by
  by_cases h : (parseD line).2 = true
  · obtain ⟨h1, h2, h3⟩ := parseD_got h
    rw [if_pos h]
    have := parseP_line h1 h2
    rw [h3] at this
    exact this
  · rw [if_neg h]
    by_cases h2 : (parseP line).2 = 0
    · exfalso
      obtain ⟨g1, g2, g3⟩ := parseP_got h2
      have := parseD_line g1 g2
      rw [g3] at this
      rw [this] at h
      exact h rfl
    · exact parseP_bad h2
end Go.Proofs.YtmplokdbbhlomaaGreatDoor
