/-
  What math/bits.Div64 comes to, over this seat's translation: a contract for callers.
-/
import Derived.Test.YtblplkajgbbkdaaMoneyDef
import Derived.Test.YtblplkajgbbkdaaShelf
import Derived.Test.YtblplkajgbbkdaaDivLaw2
import Derived.Shelf.Bits.Mul64
import Derived.Deep.LoopGhost
import Derived.Deep.QuietTactic
import Derived.BigQuiet
namespace Go.Proofs.Ytblplkajgbbkdaa
open Go.RowKit Go.Lib Go.Proofs.Ytblplkajgbbkdaa.DivLaw

theorem first_of {U u1 v v1 v0 : Nat} (h : U < v) (hv : v < 18446744073709551616) (hU : U < v1 * 4294967296 + v0) (h0v : v0 < 4294967296) (h1v : 2147483648 ≤ v1) (h2v : v1 < 4294967296) (hu1 : u1 < 4294967296) :
    ∃ qa ra : Nat, Hid (Inv U u1 v1 v0 qa ra) ∧ IntKind.u64.wrap ((U : Int) / (v1 : Int)) = (qa : Int) ∧ IntKind.u64.wrap ((U : Int) - IntKind.u64.wrap ((qa : Int) * (v1 : Int))) = (ra : Int) := by
  have I0 := Inv.first hU h0v h1v h2v hu1
  have hle := I0.le
  refine ⟨U / v1, U % v1, I0, ?_, ?_⟩
  · rw [← Int.natCast_ediv]; exact Mul64.wrapN _ (by omega)
  · have h9 := Nat.div_add_mod U v1
    have h8 := Nat.mod_lt U (show 0 < v1 by omega)
    rw [Mul64.mulN, Nat.mul_comm]
    generalize v1 * (U / v1) = m at *
    rw [Mul64.wrapN _ (by omega), IntKind.wrap_u64]
    omega
set_option maxHeartbeats 3200000 in
set_option maxRecDepth 1000000 in
theorem div_big (hi lo y s P Q v v1 v0 U N u1 u0 D M : Nat) (w : World) (hD : (hi * 18446744073709551616 + lo) / y = D) (hM : (hi * 18446744073709551616 + lo) % y = M) (h1 : 0 < hi) (h2 : hi < y) (S : Shf y s P Q) (hn : Nums hi lo y P Q v v1 v0 U N u1 u0)
    (hL : Calls Try.prog 98 #[.int .u64 y] w fun e w' => e = .returned (.int .i64 s) ∧ w' = w)
    (e1 : IntKind.u64.wrap ((y : Int) * (P : Int)) = (v : Int)) (e2 : (v : Int) / 4294967296 = (v1 : Int)) (e3 : bits .and .u64 (v : Int) 4294967295 = (v0 : Int))
    (e4 : bits .or .u64 (IntKind.u64.wrap ((hi : Int) * (P : Int))) ((lo : Int) / 2 ^ (64 - s)) = (U : Int)) (e5 : IntKind.u64.wrap ((lo : Int) * (P : Int)) = (N : Int)) (e6 : (N : Int) / 4294967296 = (u1 : Int)) (e7 : bits .and .u64 (N : Int) 4294967295 = (u0 : Int)) :
    Calls Try.prog 91 #[.int .u64 hi, .int .u64 lo, .int .u64 y] w fun e w' => e = .returned (.tuple #[.int .u64 (D : Int), .int .u64 (M : Int)]) ∧ w' = w := by
  have hs := S.lt
  have hP : (2 : Int) ^ s = (P : Int) := by rw [S.eP]; exact (Int.natCast_pow 2 s).symm
  have HL := Lib.hid hL
  have HN := Lib.hid hn
  have HVV := Lib.hid hn.vv
  have h1v := hn.v1lo
  have h2v := hn.v1hi
  have h0v := hn.v0hi
  have hu1 := hn.eu1_
  have HU : Hid (U < v1 * 4294967296 + v0) := by
    have := hn.eU_
    rw [← hn.vv] at this
    exact this
  have HS := Lib.hid S
  have HD := Lib.hid hD
  have HM9 := Lib.hid hM
  have f0 : ¬ v1 = 0 := by omega
  obtain ⟨qa, ra, I0, f1, f2⟩ := first_of hn.eU_ hn.vhi HU.out h0v h1v h2v hu1
  have hfl := I0.out.le
  clear hL hn S hD hM
  have z1 : ((y : Int) == 0) = false := by rw [beq_eq_false_iff_ne]; omega
  have z2 : ((hi : Int) == 0) = false := by rw [beq_eq_false_iff_ne]; omega
  have z3 : ¬ (y : Int) ≤ (hi : Int) := by omega
  go_enter Try.func91, Try.ntmps91
  go_wp2_with fail
  refine HL.out.mono ?_
  rintro e w' ⟨rfl, hw'⟩
  subst w'
  clear HL
  have g0 := True.intro
  have g1 := True.intro
  have g2 := True.intro
  go_wp2_with fail
  go_loopg [15, 16] 4294967298 (fun kx s9 t9 wr => ∃ q r : Nat, s9 = .int .u64 q ∧ t9 = .int .u64 r ∧ q ≤ kx ∧ Hid (Inv U u1 v1 v0 q r) ∧ wr = w)
  case atStart => exact ⟨_, _, rfl, rfl, by omega, I0, rfl⟩
  case round =>
    clear I0 f0 f1 f2 g0 g1 g2
    obtain ⟨q, r, rfl, rfl, hkx, HI, rfl⟩ := hrel
    have hq := HI.out.le
    have hr := HI.out.lt
    obtain ⟨m, hm⟩ : ∃ m, m = q * v0 := ⟨_, rfl⟩
    have hmle : m ≤ 4294967297 * 4294967295 := by rw [hm]; exact Nat.mul_le_mul hq (by omega)
    have kw : IntKind.u64.wrap ((q : Int) * (v0 : Int)) = (m : Int) := by rw [Mul64.mulN, ← hm]; exact Mul64.wrapN _ (by omega)
    have HM := Lib.hid hm
    clear hm
    by_cases c1 : 4294967296 ≤ q
    · have c1z : (4294967296 : Int) ≤ (q : Int) := by omega
      have HT : Hid (4294967296 ≤ q ∨ 4294967296 * r + u1 < q * v0) := .inl c1
      have hq1 : 1 ≤ q := (HI.out.more HU.out h1v hu1 HT.out).1
      have kz : (q : Int) - 1 = ((q - 1 : Nat) : Int) := by omega
      by_cases hb : r + v1 < 4294967296
      · have hbz : ¬ (4294967296 : Int) ≤ (r : Int) + (v1 : Int) := by omega
        have I2 : Hid (Inv U u1 v1 v0 (q - 1) (r + v1)) := HI.out.next HU.out h1v hu1 HT.out hb
        clear HI HT
        go_wp2_with fail
        go_roundg (q - 1)
        case measure => omega
        case rel => exact ⟨q - 1, r + v1, by first | rfl | (congr 1; omega), by first | rfl | go_num, Nat.le_refl _, I2, rfl⟩
      · have hbz : (4294967296 : Int) ≤ (r : Int) + (v1 : Int) := by omega
        have HQ : Hid (q - 1 = (U * 4294967296 + u1) / v) := by
          have h9 := HI.out.broke HU.out h0v h1v hu1 HT.out (by omega)
          rw [HVV.out] at h9
          exact h9
        clear HI HT hkx hb
        obtain ⟨qq, hqq⟩ : ∃ z, z = q - 1 := ⟨_, rfl⟩
        rw [← hqq] at HQ
        have kz2 : (q : Int) - 1 = (qq : Int) := by omega
        have kz3 : ((q - 1 : Nat) : Int) = (qq : Int) := by omega
        clear hqq kz
        obtain ⟨qA, rfl⟩ : ∃ z, z = qq := ⟨_, rfl⟩
        obtain ⟨wo, rfl⟩ : ∃ wo : World, wo = wr := ⟨_, rfl⟩
        have hvp : 0 < v := by have := HN.out.vlo; omega
        have hvh := HN.out.vhi
        have hqA : qA < 4294967296 := by rw [HQ.out]; exact quo_lt HN.out.eU_ hu1
        have t1 := left_wrap U u1 qA v HQ.out hvp hvh
        obtain ⟨R, hR⟩ : ∃ z, z = (U * 4294967296 + u1) % v := ⟨_, rfl⟩
        rw [← hR] at t1
        have HRv : Hid (R < v) := by
          show R < v
          rw [hR]; exact Nat.mod_lt _ hvp
        have HU2 : Hid (R < v1 * 4294967296 + v0) := by
          have := HRv.out
          rw [← HVV.out] at this
          exact this
        have HRe := Lib.hid hR
        have HQA := Lib.hid HQ.out
        have hu1a := hu1
        clear hR HQ hu1 HU
        have HU := HU2
        have hu1 := HN.out.eu0_
        have f0 : ¬ v1 = 0 := by omega
        obtain ⟨qb, rb, I0, f1, f2⟩ := first_of HRv.out hvh HU.out h0v h1v h2v hu1
        have hfl2 := I0.out.le
        have HVH : Hid (0 < v ∧ v < 18446744073709551616) := ⟨hvp, hvh⟩
        clear hvp hvh
        have g0 := True.intro
        have g1 := True.intro
        have g2 := True.intro
        go_wp2_with fail
        go_loopg [18, 16] 4294967298 (fun kx s9 t9 wr => ∃ q r : Nat, s9 = .int .u64 q ∧ t9 = .int .u64 r ∧ q ≤ kx ∧ Hid (Inv R u0 v1 v0 q r) ∧ wr = wo)
        case atStart => exact ⟨_, _, rfl, rfl, by omega, I0, rfl⟩
        case round =>
          clear I0 f0 f1 f2 g0 g1 g2 t1
          obtain ⟨q, r, rfl, rfl, hkx, HI, rfl⟩ := hrel
          have hq := HI.out.le
          have hr := HI.out.lt
          obtain ⟨m, hm⟩ : ∃ m, m = q * v0 := ⟨_, rfl⟩
          have hmle : m ≤ 4294967297 * 4294967295 := by rw [hm]; exact Nat.mul_le_mul hq (by omega)
          have kw : IntKind.u64.wrap ((q : Int) * (v0 : Int)) = (m : Int) := by rw [Mul64.mulN, ← hm]; exact Mul64.wrapN _ (by omega)
          have HM := Lib.hid hm
          clear hm
          by_cases c1 : 4294967296 ≤ q
          · have c1z : (4294967296 : Int) ≤ (q : Int) := by omega
            have HT : Hid (4294967296 ≤ q ∨ 4294967296 * r + u0 < q * v0) := .inl c1
            have hq1 : 1 ≤ q := (HI.out.more HU.out h1v hu1 HT.out).1
            have kz : (q : Int) - 1 = ((q - 1 : Nat) : Int) := by omega
            by_cases hb : r + v1 < 4294967296
            · have hbz : ¬ (4294967296 : Int) ≤ (r : Int) + (v1 : Int) := by omega
              have I2 : Hid (Inv R u0 v1 v0 (q - 1) (r + v1)) := HI.out.next HU.out h1v hu1 HT.out hb
              clear HI HT
              go_wp2_with fail
              go_roundg (q - 1)
              case measure => omega
              case rel => exact ⟨q - 1, r + v1, by first | rfl | (congr 1; omega), by first | rfl | go_num, Nat.le_refl _, I2, rfl⟩
            · have hbz : (4294967296 : Int) ≤ (r : Int) + (v1 : Int) := by omega
              have HQ : Hid (q - 1 = (R * 4294967296 + u0) / v) := by
                have h9 := HI.out.broke HU.out h0v h1v hu1 HT.out (by omega)
                rw [HVV.out] at h9
                exact h9
              clear HI HT hkx hb
              obtain ⟨qq, hqq⟩ : ∃ z, z = q - 1 := ⟨_, rfl⟩
              rw [← hqq] at HQ
              have kz2 : (q : Int) - 1 = (qq : Int) := by omega
              have kz3 : ((q - 1 : Nat) : Int) = (qq : Int) := by omega
              clear hqq kz
              obtain ⟨qB, rfl⟩ : ∃ z, z = qq := ⟨_, rfl⟩
              have hqB : qB < 4294967296 := by rw [HQ.out]; exact quo_lt HRv.out hu1
              have t3 := left_wrap R u0 qB v HQ.out HVH.out.1 HVH.out.2
              have HE := Lib.hid (HN.out.ends HS.out.pos)
              rw [← HQA.out, ← HRe.out, ← HQ.out, HD.out, HM9.out] at HE
              obtain ⟨C, hC⟩ : ∃ z, z = (R * 4294967296 + u0) % v := ⟨_, rfl⟩
              rw [← hC] at t3 HE
              clear hC HQ
              go_wp2_with fail
              go_ret2
              exact ⟨ret2_int (by have := HE.out.1; omega) (by rw [← HE.out.2]; exact (Int.natCast_ediv C P).symm), rfl⟩
          · have c1z : ¬ (4294967296 : Int) ≤ (q : Int) := by omega
            by_cases c2 : 4294967296 * r + u0 < m
            · have c2z : 4294967296 * (r : Int) + (u0 : Int) < (m : Int) := by omega
              have HT : Hid (4294967296 ≤ q ∨ 4294967296 * r + u0 < q * v0) := .inr (HM.out ▸ c2)
              have hq1 : 1 ≤ q := (HI.out.more HU.out h1v hu1 HT.out).1
              have kz : (q : Int) - 1 = ((q - 1 : Nat) : Int) := by omega
              by_cases hb : r + v1 < 4294967296
              · have hbz : ¬ (4294967296 : Int) ≤ (r : Int) + (v1 : Int) := by omega
                have I2 : Hid (Inv R u0 v1 v0 (q - 1) (r + v1)) := HI.out.next HU.out h1v hu1 HT.out hb
                clear HI HT
                go_wp2_with fail
                go_roundg (q - 1)
                case measure => omega
                case rel => exact ⟨q - 1, r + v1, by first | rfl | (congr 1; omega), by first | rfl | go_num, Nat.le_refl _, I2, rfl⟩
              · have hbz : (4294967296 : Int) ≤ (r : Int) + (v1 : Int) := by omega
                have HQ : Hid (q - 1 = (R * 4294967296 + u0) / v) := by
                  have h9 := HI.out.broke HU.out h0v h1v hu1 HT.out (by omega)
                  rw [HVV.out] at h9
                  exact h9
                clear HI HT hkx hb
                obtain ⟨qq, hqq⟩ : ∃ z, z = q - 1 := ⟨_, rfl⟩
                rw [← hqq] at HQ
                have kz2 : (q : Int) - 1 = (qq : Int) := by omega
                have kz3 : ((q - 1 : Nat) : Int) = (qq : Int) := by omega
                clear hqq kz
                obtain ⟨qB, rfl⟩ : ∃ z, z = qq := ⟨_, rfl⟩
                have hqB : qB < 4294967296 := by rw [HQ.out]; exact quo_lt HRv.out hu1
                have t3 := left_wrap R u0 qB v HQ.out HVH.out.1 HVH.out.2
                have HE := Lib.hid (HN.out.ends HS.out.pos)
                rw [← HQA.out, ← HRe.out, ← HQ.out, HD.out, HM9.out] at HE
                obtain ⟨C, hC⟩ : ∃ z, z = (R * 4294967296 + u0) % v := ⟨_, rfl⟩
                rw [← hC] at t3 HE
                clear hC HQ
                go_wp2_with fail
                go_ret2
                exact ⟨ret2_int (by have := HE.out.1; omega) (by rw [← HE.out.2]; exact (Int.natCast_ediv C P).symm), rfl⟩
            · have c2z : ¬ 4294967296 * (r : Int) + (u0 : Int) < (m : Int) := by omega
              have HQ : Hid (q = (R * 4294967296 + u0) / v) := by
                have h9 := HI.out.found (by omega) (by rw [← HM.out]; omega)
                rw [HVV.out] at h9
                exact h9
              clear HI hkx
              obtain ⟨qB, rfl⟩ : ∃ z, z = q := ⟨_, rfl⟩
              have hqB : qB < 4294967296 := by rw [HQ.out]; exact quo_lt HRv.out hu1
              have t3 := left_wrap R u0 qB v HQ.out HVH.out.1 HVH.out.2
              have HE := Lib.hid (HN.out.ends HS.out.pos)
              rw [← HQA.out, ← HRe.out, ← HQ.out, HD.out, HM9.out] at HE
              obtain ⟨C, hC⟩ : ∃ z, z = (R * 4294967296 + u0) % v := ⟨_, rfl⟩
              rw [← hC] at t3 HE
              clear hC HQ
              go_wp2_with fail
              go_ret2
              exact ⟨ret2_int (by have := HE.out.1; omega) (by rw [← HE.out.2]; exact (Int.natCast_ediv C P).symm), rfl⟩
    · have c1z : ¬ (4294967296 : Int) ≤ (q : Int) := by omega
      by_cases c2 : 4294967296 * r + u1 < m
      · have c2z : 4294967296 * (r : Int) + (u1 : Int) < (m : Int) := by omega
        have HT : Hid (4294967296 ≤ q ∨ 4294967296 * r + u1 < q * v0) := .inr (HM.out ▸ c2)
        have hq1 : 1 ≤ q := (HI.out.more HU.out h1v hu1 HT.out).1
        have kz : (q : Int) - 1 = ((q - 1 : Nat) : Int) := by omega
        by_cases hb : r + v1 < 4294967296
        · have hbz : ¬ (4294967296 : Int) ≤ (r : Int) + (v1 : Int) := by omega
          have I2 : Hid (Inv U u1 v1 v0 (q - 1) (r + v1)) := HI.out.next HU.out h1v hu1 HT.out hb
          clear HI HT
          go_wp2_with fail
          go_roundg (q - 1)
          case measure => omega
          case rel => exact ⟨q - 1, r + v1, by first | rfl | (congr 1; omega), by first | rfl | go_num, Nat.le_refl _, I2, rfl⟩
        · have hbz : (4294967296 : Int) ≤ (r : Int) + (v1 : Int) := by omega
          have HQ : Hid (q - 1 = (U * 4294967296 + u1) / v) := by
            have h9 := HI.out.broke HU.out h0v h1v hu1 HT.out (by omega)
            rw [HVV.out] at h9
            exact h9
          clear HI HT hkx hb
          obtain ⟨qq, hqq⟩ : ∃ z, z = q - 1 := ⟨_, rfl⟩
          rw [← hqq] at HQ
          have kz2 : (q : Int) - 1 = (qq : Int) := by omega
          have kz3 : ((q - 1 : Nat) : Int) = (qq : Int) := by omega
          clear hqq kz
          obtain ⟨qA, rfl⟩ : ∃ z, z = qq := ⟨_, rfl⟩
          obtain ⟨wo, rfl⟩ : ∃ wo : World, wo = wr := ⟨_, rfl⟩
          have hvp : 0 < v := by have := HN.out.vlo; omega
          have hvh := HN.out.vhi
          have hqA : qA < 4294967296 := by rw [HQ.out]; exact quo_lt HN.out.eU_ hu1
          have t1 := left_wrap U u1 qA v HQ.out hvp hvh
          obtain ⟨R, hR⟩ : ∃ z, z = (U * 4294967296 + u1) % v := ⟨_, rfl⟩
          rw [← hR] at t1
          have HRv : Hid (R < v) := by
            show R < v
            rw [hR]; exact Nat.mod_lt _ hvp
          have HU2 : Hid (R < v1 * 4294967296 + v0) := by
            have := HRv.out
            rw [← HVV.out] at this
            exact this
          have HRe := Lib.hid hR
          have HQA := Lib.hid HQ.out
          have hu1a := hu1
          clear hR HQ hu1 HU
          have HU := HU2
          have hu1 := HN.out.eu0_
          have f0 : ¬ v1 = 0 := by omega
          obtain ⟨qb, rb, I0, f1, f2⟩ := first_of HRv.out hvh HU.out h0v h1v h2v hu1
          have hfl2 := I0.out.le
          have HVH : Hid (0 < v ∧ v < 18446744073709551616) := ⟨hvp, hvh⟩
          clear hvp hvh
          have g0 := True.intro
          have g1 := True.intro
          have g2 := True.intro
          go_wp2_with fail
          go_loopg [18, 16] 4294967298 (fun kx s9 t9 wr => ∃ q r : Nat, s9 = .int .u64 q ∧ t9 = .int .u64 r ∧ q ≤ kx ∧ Hid (Inv R u0 v1 v0 q r) ∧ wr = wo)
          case atStart => exact ⟨_, _, rfl, rfl, by omega, I0, rfl⟩
          case round =>
            clear I0 f0 f1 f2 g0 g1 g2 t1
            obtain ⟨q, r, rfl, rfl, hkx, HI, rfl⟩ := hrel
            have hq := HI.out.le
            have hr := HI.out.lt
            obtain ⟨m, hm⟩ : ∃ m, m = q * v0 := ⟨_, rfl⟩
            have hmle : m ≤ 4294967297 * 4294967295 := by rw [hm]; exact Nat.mul_le_mul hq (by omega)
            have kw : IntKind.u64.wrap ((q : Int) * (v0 : Int)) = (m : Int) := by rw [Mul64.mulN, ← hm]; exact Mul64.wrapN _ (by omega)
            have HM := Lib.hid hm
            clear hm
            by_cases c1 : 4294967296 ≤ q
            · have c1z : (4294967296 : Int) ≤ (q : Int) := by omega
              have HT : Hid (4294967296 ≤ q ∨ 4294967296 * r + u0 < q * v0) := .inl c1
              have hq1 : 1 ≤ q := (HI.out.more HU.out h1v hu1 HT.out).1
              have kz : (q : Int) - 1 = ((q - 1 : Nat) : Int) := by omega
              by_cases hb : r + v1 < 4294967296
              · have hbz : ¬ (4294967296 : Int) ≤ (r : Int) + (v1 : Int) := by omega
                have I2 : Hid (Inv R u0 v1 v0 (q - 1) (r + v1)) := HI.out.next HU.out h1v hu1 HT.out hb
                clear HI HT
                go_wp2_with fail
                go_roundg (q - 1)
                case measure => omega
                case rel => exact ⟨q - 1, r + v1, by first | rfl | (congr 1; omega), by first | rfl | go_num, Nat.le_refl _, I2, rfl⟩
              · have hbz : (4294967296 : Int) ≤ (r : Int) + (v1 : Int) := by omega
                have HQ : Hid (q - 1 = (R * 4294967296 + u0) / v) := by
                  have h9 := HI.out.broke HU.out h0v h1v hu1 HT.out (by omega)
                  rw [HVV.out] at h9
                  exact h9
                clear HI HT hkx hb
                obtain ⟨qq, hqq⟩ : ∃ z, z = q - 1 := ⟨_, rfl⟩
                rw [← hqq] at HQ
                have kz2 : (q : Int) - 1 = (qq : Int) := by omega
                have kz3 : ((q - 1 : Nat) : Int) = (qq : Int) := by omega
                clear hqq kz
                obtain ⟨qB, rfl⟩ : ∃ z, z = qq := ⟨_, rfl⟩
                have hqB : qB < 4294967296 := by rw [HQ.out]; exact quo_lt HRv.out hu1
                have t3 := left_wrap R u0 qB v HQ.out HVH.out.1 HVH.out.2
                have HE := Lib.hid (HN.out.ends HS.out.pos)
                rw [← HQA.out, ← HRe.out, ← HQ.out, HD.out, HM9.out] at HE
                obtain ⟨C, hC⟩ : ∃ z, z = (R * 4294967296 + u0) % v := ⟨_, rfl⟩
                rw [← hC] at t3 HE
                clear hC HQ
                go_wp2_with fail
                go_ret2
                exact ⟨ret2_int (by have := HE.out.1; omega) (by rw [← HE.out.2]; exact (Int.natCast_ediv C P).symm), rfl⟩
            · have c1z : ¬ (4294967296 : Int) ≤ (q : Int) := by omega
              by_cases c2 : 4294967296 * r + u0 < m
              · have c2z : 4294967296 * (r : Int) + (u0 : Int) < (m : Int) := by omega
                have HT : Hid (4294967296 ≤ q ∨ 4294967296 * r + u0 < q * v0) := .inr (HM.out ▸ c2)
                have hq1 : 1 ≤ q := (HI.out.more HU.out h1v hu1 HT.out).1
                have kz : (q : Int) - 1 = ((q - 1 : Nat) : Int) := by omega
                by_cases hb : r + v1 < 4294967296
                · have hbz : ¬ (4294967296 : Int) ≤ (r : Int) + (v1 : Int) := by omega
                  have I2 : Hid (Inv R u0 v1 v0 (q - 1) (r + v1)) := HI.out.next HU.out h1v hu1 HT.out hb
                  clear HI HT
                  go_wp2_with fail
                  go_roundg (q - 1)
                  case measure => omega
                  case rel => exact ⟨q - 1, r + v1, by first | rfl | (congr 1; omega), by first | rfl | go_num, Nat.le_refl _, I2, rfl⟩
                · have hbz : (4294967296 : Int) ≤ (r : Int) + (v1 : Int) := by omega
                  have HQ : Hid (q - 1 = (R * 4294967296 + u0) / v) := by
                    have h9 := HI.out.broke HU.out h0v h1v hu1 HT.out (by omega)
                    rw [HVV.out] at h9
                    exact h9
                  clear HI HT hkx hb
                  obtain ⟨qq, hqq⟩ : ∃ z, z = q - 1 := ⟨_, rfl⟩
                  rw [← hqq] at HQ
                  have kz2 : (q : Int) - 1 = (qq : Int) := by omega
                  have kz3 : ((q - 1 : Nat) : Int) = (qq : Int) := by omega
                  clear hqq kz
                  obtain ⟨qB, rfl⟩ : ∃ z, z = qq := ⟨_, rfl⟩
                  have hqB : qB < 4294967296 := by rw [HQ.out]; exact quo_lt HRv.out hu1
                  have t3 := left_wrap R u0 qB v HQ.out HVH.out.1 HVH.out.2
                  have HE := Lib.hid (HN.out.ends HS.out.pos)
                  rw [← HQA.out, ← HRe.out, ← HQ.out, HD.out, HM9.out] at HE
                  obtain ⟨C, hC⟩ : ∃ z, z = (R * 4294967296 + u0) % v := ⟨_, rfl⟩
                  rw [← hC] at t3 HE
                  clear hC HQ
                  go_wp2_with fail
                  go_ret2
                  exact ⟨ret2_int (by have := HE.out.1; omega) (by rw [← HE.out.2]; exact (Int.natCast_ediv C P).symm), rfl⟩
              · have c2z : ¬ 4294967296 * (r : Int) + (u0 : Int) < (m : Int) := by omega
                have HQ : Hid (q = (R * 4294967296 + u0) / v) := by
                  have h9 := HI.out.found (by omega) (by rw [← HM.out]; omega)
                  rw [HVV.out] at h9
                  exact h9
                clear HI hkx
                obtain ⟨qB, rfl⟩ : ∃ z, z = q := ⟨_, rfl⟩
                have hqB : qB < 4294967296 := by rw [HQ.out]; exact quo_lt HRv.out hu1
                have t3 := left_wrap R u0 qB v HQ.out HVH.out.1 HVH.out.2
                have HE := Lib.hid (HN.out.ends HS.out.pos)
                rw [← HQA.out, ← HRe.out, ← HQ.out, HD.out, HM9.out] at HE
                obtain ⟨C, hC⟩ : ∃ z, z = (R * 4294967296 + u0) % v := ⟨_, rfl⟩
                rw [← hC] at t3 HE
                clear hC HQ
                go_wp2_with fail
                go_ret2
                exact ⟨ret2_int (by have := HE.out.1; omega) (by rw [← HE.out.2]; exact (Int.natCast_ediv C P).symm), rfl⟩
      · have c2z : ¬ 4294967296 * (r : Int) + (u1 : Int) < (m : Int) := by omega
        have HQ : Hid (q = (U * 4294967296 + u1) / v) := by
          have h9 := HI.out.found (by omega) (by rw [← HM.out]; omega)
          rw [HVV.out] at h9
          exact h9
        clear HI hkx
        obtain ⟨qA, rfl⟩ : ∃ z, z = q := ⟨_, rfl⟩
        obtain ⟨wo, rfl⟩ : ∃ wo : World, wo = wr := ⟨_, rfl⟩
        have hvp : 0 < v := by have := HN.out.vlo; omega
        have hvh := HN.out.vhi
        have hqA : qA < 4294967296 := by rw [HQ.out]; exact quo_lt HN.out.eU_ hu1
        have t1 := left_wrap U u1 qA v HQ.out hvp hvh
        obtain ⟨R, hR⟩ : ∃ z, z = (U * 4294967296 + u1) % v := ⟨_, rfl⟩
        rw [← hR] at t1
        have HRv : Hid (R < v) := by
          show R < v
          rw [hR]; exact Nat.mod_lt _ hvp
        have HU2 : Hid (R < v1 * 4294967296 + v0) := by
          have := HRv.out
          rw [← HVV.out] at this
          exact this
        have HRe := Lib.hid hR
        have HQA := Lib.hid HQ.out
        have hu1a := hu1
        clear hR HQ hu1 HU
        have HU := HU2
        have hu1 := HN.out.eu0_
        have f0 : ¬ v1 = 0 := by omega
        obtain ⟨qb, rb, I0, f1, f2⟩ := first_of HRv.out hvh HU.out h0v h1v h2v hu1
        have hfl2 := I0.out.le
        have HVH : Hid (0 < v ∧ v < 18446744073709551616) := ⟨hvp, hvh⟩
        clear hvp hvh
        have g0 := True.intro
        have g1 := True.intro
        have g2 := True.intro
        go_wp2_with fail
        go_loopg [18, 16] 4294967298 (fun kx s9 t9 wr => ∃ q r : Nat, s9 = .int .u64 q ∧ t9 = .int .u64 r ∧ q ≤ kx ∧ Hid (Inv R u0 v1 v0 q r) ∧ wr = wo)
        case atStart => exact ⟨_, _, rfl, rfl, by omega, I0, rfl⟩
        case round =>
          clear I0 f0 f1 f2 g0 g1 g2 t1
          obtain ⟨q, r, rfl, rfl, hkx, HI, rfl⟩ := hrel
          have hq := HI.out.le
          have hr := HI.out.lt
          obtain ⟨m, hm⟩ : ∃ m, m = q * v0 := ⟨_, rfl⟩
          have hmle : m ≤ 4294967297 * 4294967295 := by rw [hm]; exact Nat.mul_le_mul hq (by omega)
          have kw : IntKind.u64.wrap ((q : Int) * (v0 : Int)) = (m : Int) := by rw [Mul64.mulN, ← hm]; exact Mul64.wrapN _ (by omega)
          have HM := Lib.hid hm
          clear hm
          by_cases c1 : 4294967296 ≤ q
          · have c1z : (4294967296 : Int) ≤ (q : Int) := by omega
            have HT : Hid (4294967296 ≤ q ∨ 4294967296 * r + u0 < q * v0) := .inl c1
            have hq1 : 1 ≤ q := (HI.out.more HU.out h1v hu1 HT.out).1
            have kz : (q : Int) - 1 = ((q - 1 : Nat) : Int) := by omega
            by_cases hb : r + v1 < 4294967296
            · have hbz : ¬ (4294967296 : Int) ≤ (r : Int) + (v1 : Int) := by omega
              have I2 : Hid (Inv R u0 v1 v0 (q - 1) (r + v1)) := HI.out.next HU.out h1v hu1 HT.out hb
              clear HI HT
              go_wp2_with fail
              go_roundg (q - 1)
              case measure => omega
              case rel => exact ⟨q - 1, r + v1, by first | rfl | (congr 1; omega), by first | rfl | go_num, Nat.le_refl _, I2, rfl⟩
            · have hbz : (4294967296 : Int) ≤ (r : Int) + (v1 : Int) := by omega
              have HQ : Hid (q - 1 = (R * 4294967296 + u0) / v) := by
                have h9 := HI.out.broke HU.out h0v h1v hu1 HT.out (by omega)
                rw [HVV.out] at h9
                exact h9
              clear HI HT hkx hb
              obtain ⟨qq, hqq⟩ : ∃ z, z = q - 1 := ⟨_, rfl⟩
              rw [← hqq] at HQ
              have kz2 : (q : Int) - 1 = (qq : Int) := by omega
              have kz3 : ((q - 1 : Nat) : Int) = (qq : Int) := by omega
              clear hqq kz
              obtain ⟨qB, rfl⟩ : ∃ z, z = qq := ⟨_, rfl⟩
              have hqB : qB < 4294967296 := by rw [HQ.out]; exact quo_lt HRv.out hu1
              have t3 := left_wrap R u0 qB v HQ.out HVH.out.1 HVH.out.2
              have HE := Lib.hid (HN.out.ends HS.out.pos)
              rw [← HQA.out, ← HRe.out, ← HQ.out, HD.out, HM9.out] at HE
              obtain ⟨C, hC⟩ : ∃ z, z = (R * 4294967296 + u0) % v := ⟨_, rfl⟩
              rw [← hC] at t3 HE
              clear hC HQ
              go_wp2_with fail
              go_ret2
              exact ⟨ret2_int (by have := HE.out.1; omega) (by rw [← HE.out.2]; exact (Int.natCast_ediv C P).symm), rfl⟩
          · have c1z : ¬ (4294967296 : Int) ≤ (q : Int) := by omega
            by_cases c2 : 4294967296 * r + u0 < m
            · have c2z : 4294967296 * (r : Int) + (u0 : Int) < (m : Int) := by omega
              have HT : Hid (4294967296 ≤ q ∨ 4294967296 * r + u0 < q * v0) := .inr (HM.out ▸ c2)
              have hq1 : 1 ≤ q := (HI.out.more HU.out h1v hu1 HT.out).1
              have kz : (q : Int) - 1 = ((q - 1 : Nat) : Int) := by omega
              by_cases hb : r + v1 < 4294967296
              · have hbz : ¬ (4294967296 : Int) ≤ (r : Int) + (v1 : Int) := by omega
                have I2 : Hid (Inv R u0 v1 v0 (q - 1) (r + v1)) := HI.out.next HU.out h1v hu1 HT.out hb
                clear HI HT
                go_wp2_with fail
                go_roundg (q - 1)
                case measure => omega
                case rel => exact ⟨q - 1, r + v1, by first | rfl | (congr 1; omega), by first | rfl | go_num, Nat.le_refl _, I2, rfl⟩
              · have hbz : (4294967296 : Int) ≤ (r : Int) + (v1 : Int) := by omega
                have HQ : Hid (q - 1 = (R * 4294967296 + u0) / v) := by
                  have h9 := HI.out.broke HU.out h0v h1v hu1 HT.out (by omega)
                  rw [HVV.out] at h9
                  exact h9
                clear HI HT hkx hb
                obtain ⟨qq, hqq⟩ : ∃ z, z = q - 1 := ⟨_, rfl⟩
                rw [← hqq] at HQ
                have kz2 : (q : Int) - 1 = (qq : Int) := by omega
                have kz3 : ((q - 1 : Nat) : Int) = (qq : Int) := by omega
                clear hqq kz
                obtain ⟨qB, rfl⟩ : ∃ z, z = qq := ⟨_, rfl⟩
                have hqB : qB < 4294967296 := by rw [HQ.out]; exact quo_lt HRv.out hu1
                have t3 := left_wrap R u0 qB v HQ.out HVH.out.1 HVH.out.2
                have HE := Lib.hid (HN.out.ends HS.out.pos)
                rw [← HQA.out, ← HRe.out, ← HQ.out, HD.out, HM9.out] at HE
                obtain ⟨C, hC⟩ : ∃ z, z = (R * 4294967296 + u0) % v := ⟨_, rfl⟩
                rw [← hC] at t3 HE
                clear hC HQ
                go_wp2_with fail
                go_ret2
                exact ⟨ret2_int (by have := HE.out.1; omega) (by rw [← HE.out.2]; exact (Int.natCast_ediv C P).symm), rfl⟩
            · have c2z : ¬ 4294967296 * (r : Int) + (u0 : Int) < (m : Int) := by omega
              have HQ : Hid (q = (R * 4294967296 + u0) / v) := by
                have h9 := HI.out.found (by omega) (by rw [← HM.out]; omega)
                rw [HVV.out] at h9
                exact h9
              clear HI hkx
              obtain ⟨qB, rfl⟩ : ∃ z, z = q := ⟨_, rfl⟩
              have hqB : qB < 4294967296 := by rw [HQ.out]; exact quo_lt HRv.out hu1
              have t3 := left_wrap R u0 qB v HQ.out HVH.out.1 HVH.out.2
              have HE := Lib.hid (HN.out.ends HS.out.pos)
              rw [← HQA.out, ← HRe.out, ← HQ.out, HD.out, HM9.out] at HE
              obtain ⟨C, hC⟩ : ∃ z, z = (R * 4294967296 + u0) % v := ⟨_, rfl⟩
              rw [← hC] at t3 HE
              clear hC HQ
              go_wp2_with fail
              go_ret2
              exact ⟨ret2_int (by have := HE.out.1; omega) (by rw [← HE.out.2]; exact (Int.natCast_ediv C P).symm), rfl⟩
end Go.Proofs.Ytblplkajgbbkdaa
