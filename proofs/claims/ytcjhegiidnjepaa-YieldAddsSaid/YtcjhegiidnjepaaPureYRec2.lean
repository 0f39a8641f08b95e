/- A product of 128 bits divided, and the digits of a quotient. Plain Lean, with no program in sight. -/
import Derived.Test.YtcjhegiidnjepaaPureYRec
namespace Go.Proofs.Ytcjhegiidnjepaa.Ev.Plain
set_option linter.unusedVariables false
set_option linter.unusedSimpArgs false
set_option maxRecDepth 100000
theorem div_of {N y q : Int} (hy : 0 < y) (h1 : q * y ≤ N) (h2 : N < (q + 1) * y) : N / y = q := by
  have h3 := Int.le_ediv_of_mul_le hy h1
  have h4 := Int.ediv_lt_of_lt_mul hy h2
  omega
def tailF (n : Nat) (v6 v5 v7 v8 v12 v14 v15 : Int) : Option (Int × Int) :=
  chk (!decide (v7 = 0)) <|
  let v16 : Int := IntKind.u64.wrap (v12.tdiv v7)
  let v17 : Int := IntKind.u64.wrap (v16 * v7)
  let v18 : Int := IntKind.u64.wrap (v12 - v17)
  f47L17 n v6 v5 v7 v8 v12 v14 v15 (n + 8) v16 v18 (fun v36 =>
      let v37 : Int := IntKind.u64.wrap (v12 * 4294967296)
      let v38 : Int := IntKind.u64.wrap (v37 + v14)
      let v39 : Int := IntKind.u64.wrap (v36 * v6)
      let v40 : Int := IntKind.u64.wrap (v38 - v39)
      chk (!decide (v7 = 0)) <|
      let v41 : Int := IntKind.u64.wrap (v40.tdiv v7)
      let v42 : Int := IntKind.u64.wrap (v41 * v7)
      let v43 : Int := IntKind.u64.wrap (v40 - v42)
      f47L24 n v6 v5 v7 v8 v15 v36 v40 (n + 8) v43 v41 (fun v61 =>
          let v62 : Int := IntKind.u64.wrap (v36 * 4294967296)
          let v63 : Int := IntKind.u64.wrap (v62 + v61)
          let v64 : Int := IntKind.u64.wrap (v40 * 4294967296)
          let v65 : Int := IntKind.u64.wrap (v64 + v15)
          let v66 : Int := IntKind.u64.wrap (v61 * v6)
          let v67 : Int := IntKind.u64.wrap (v65 - v66)
          chk (decide ((0 : Int) ≤ v5)) <|
          let v68 : Int := v67.fdiv (2 ^ min (Int.toNat v5) 64)
          some (v63, v68)))
theorem l17_succ (n : Nat) (v6 v5 v7 v8 v12 v14 v15 : Int) (m : Nat) (v26 v27 : Int) (k0 : Int → Option (Int × Int)) : f47L17 n v6 v5 v7 v8 v12 v14 v15 (m + 1) v26 v27 k0 = f47L17G n v6 v5 v7 v8 v12 v14 v15 v26 v27 (fun v26 v27 => f47L17 n v6 v5 v7 v8 v12 v14 v15 m v26 v27 k0) k0 := rfl
theorem l24_succ (n : Nat) (v6 v5 v7 v8 v15 v36 v40 : Int) (m : Nat) (v51 v52 : Int) (k2 : Int → Option (Int × Int)) : f47L24 n v6 v5 v7 v8 v15 v36 v40 (m + 1) v51 v52 k2 = f47L24G n v6 v5 v7 v8 v15 v36 v40 v51 v52 (fun v51 v52 => f47L24 n v6 v5 v7 v8 v15 v36 v40 m v51 v52 k2) k2 := rfl
theorem w0 : IntKind.u64.wrap 0 = 0 := by decide
theorem l17_eq (n : Nat) (y s Z Y0 U u1 u0 : Int) (m : Nat) (k0 : Int → Option (Int × Int)) (hU0 : 0 ≤ U) (hU1 : U < 1001) (hu10 : 0 ≤ u1) (hu11 : u1 < 4294967296) : f47L17 n y s Z Y0 U u1 u0 (m + 1) 0 U k0 = k0 0 := by
  rw [l17_succ]
  unfold f47L17G
  rw [decide_eq_false (show ¬ (0 : Int) ≥ 4294967296 by decide)]
  simp only [cond_false]
  rw [Int.zero_mul, w0, u64_id (n := 4294967296 * U) (by omega) (by omega), u64_id (n := 4294967296 * U + u1) (by omega) (by omega)]
  rw [decide_eq_false (show ¬ (0 : Int) > 4294967296 * U + u1 by omega)]
  rfl
theorem l24_eq (n : Nat) (y s Z Y0 u0 v36 v40 V q : Int) (m : Nat) (k2 : Int → Option (Int × Int)) (hyZ : y = Z * 4294967296 + Y0) (hZ0 : 2147483648 ≤ Z) (hZ1 : Z < 4294967296) (hY0 : 0 ≤ Y0) (hY1 : Y0 < 4294967296) (hu00 : 0 ≤ u0) (hu01 : u0 < 4294967296) (hV0 : 0 ≤ V) (hV1 : V < 1001 * Z)
    (hq1 : q < 1001) (hq0 : 0 ≤ q) (hA0 : q * Z ≤ V) (hA1 : V < (q + 1) * Z) : f47L24 n y s Z Y0 u0 v36 v40 (m + 2) (V - q * Z) q k2 = k2 ((V * 4294967296 + u0) / y) := by
  have hAp : 0 ≤ q * Z := Int.mul_nonneg hq0 (by omega)
  have hB0 : 0 ≤ q * Y0 := Int.mul_nonneg hq0 hY0
  have hB1 : q * Y0 ≤ 1000 * 4294967296 := Int.mul_le_mul (by omega) (by omega) hY0 (by omega)
  have hB2 : q = 0 → q * Y0 = 0 := by rintro rfl; exact Int.zero_mul _
  have hqy : q * y = q * Z * 4294967296 + q * Y0 := by rw [hyZ, Int.mul_add, Int.mul_assoc]
  have hA1' : V < q * Z + Z := by rw [Int.add_mul, Int.one_mul] at hA1; exact hA1
  have hpq : (q - 1) * Y0 = q * Y0 - Y0 := by rw [Int.sub_mul, Int.one_mul]
  rw [l24_succ]
  unfold f47L24G
  rw [decide_eq_false (show ¬ q ≥ 4294967296 by omega)]
  simp only [cond_false]
  rw [u64_id hB0 (by omega), u64_id (n := 4294967296 * (V - q * Z)) (by omega) (by omega), u64_id (n := 4294967296 * (V - q * Z) + u0) (by omega) (by omega)]
  by_cases hgt : q * Y0 > 4294967296 * (V - q * Z) + u0
  · rw [decide_eq_true hgt]
    have hqp : 1 ≤ q := by
      rcases Int.lt_or_le 0 q with h | h
      · omega
      · have := hB2 (by omega)
        omega
    have hB3 : 1 * Y0 ≤ q * Y0 := Int.mul_le_mul_of_nonneg_right hqp hY0
    rw [Int.one_mul] at hB3
    have hres : (V * 4294967296 + u0) / y = q - 1 := by
      refine div_of (by omega) ?_ ?_
      · rw [Int.sub_mul, Int.one_mul]; omega
      · rw [Int.sub_add_cancel]; omega
    simp only [cond_true]
    rw [u64_id (n := q - 1) (by omega) (by omega), u64_id (n := V - q * Z + Z) (by omega) (by omega), hres]
    by_cases hge : V - q * Z + Z ≥ 4294967296
    · rw [decide_eq_true hge]
      rfl
    · rw [decide_eq_false hge]
      simp only [cond_false]
      rw [l24_succ]
      unfold f47L24G
      rw [hpq, decide_eq_false (show ¬ q - 1 ≥ 4294967296 by omega)]
      simp only [cond_false]
      rw [u64_id (n := q * Y0 - Y0) (by omega) (by omega), u64_id (n := 4294967296 * (V - q * Z + Z)) (by omega) (by omega), u64_id (n := 4294967296 * (V - q * Z + Z) + u0) (by omega) (by omega)]
      rw [decide_eq_false (show ¬ q * Y0 - Y0 > 4294967296 * (V - q * Z + Z) + u0 by omega)]
      rfl
  · rw [decide_eq_false hgt]
    have hres : (V * 4294967296 + u0) / y = q := by
      refine div_of (by omega) ?_ ?_
      · omega
      · rw [Int.add_mul, Int.one_mul]; omega
    rw [hres]
    rfl
theorem tail_eq (n : Nat) (s y N : Int) (hs : 0 ≤ s) (hy0 : 9223372036854775808 ≤ y) (hy1 : y < 18446744073709551616) (hN0 : 0 ≤ N) (hN1 : N ≤ 1000 * y) : ∃ r, tailF n y s (y / 4294967296) (y % 4294967296) (N / 18446744073709551616) (N % 18446744073709551616 / 4294967296) (N % 18446744073709551616 % 4294967296) = some (N / y, r) := by
  obtain ⟨Z, hZ⟩ : ∃ Z, Z = y / 4294967296 := ⟨_, rfl⟩
  obtain ⟨Y0, hY⟩ : ∃ Y0, Y0 = y % 4294967296 := ⟨_, rfl⟩
  obtain ⟨U, hU⟩ : ∃ U, U = N / 18446744073709551616 := ⟨_, rfl⟩
  obtain ⟨u1, hu1⟩ : ∃ u1, u1 = N % 18446744073709551616 / 4294967296 := ⟨_, rfl⟩
  obtain ⟨u0, hu0⟩ : ∃ u0, u0 = N % 18446744073709551616 % 4294967296 := ⟨_, rfl⟩
  rw [← hZ, ← hY, ← hU, ← hu1, ← hu0]
  have hyZ : y = Z * 4294967296 + Y0 := by omega
  have hNV : N = (U * 4294967296 + u1) * 4294967296 + u0 := by omega
  obtain ⟨V, hV⟩ : ∃ V, V = U * 4294967296 + u1 := ⟨_, rfl⟩
  rw [← hV] at hNV
  have hZ0 : 2147483648 ≤ Z := by omega
  have hZ1 : Z < 4294967296 := by omega
  have hY0 : 0 ≤ Y0 := by omega
  have hY1 : Y0 < 4294967296 := by omega
  have hU0 : 0 ≤ U := by omega
  have hU1 : U < 1001 := by omega
  have hu10 : 0 ≤ u1 := by omega
  have hu11 : u1 < 4294967296 := by omega
  have hu00 : 0 ≤ u0 := by omega
  have hu01 : u0 < 4294967296 := by omega
  clear hZ hY hU hu1 hu0
  have hV0 : 0 ≤ V := by omega
  have hV1 : V < 1001 * Z := by omega
  unfold tailF
  rw [decide_eq_false (show ¬ Z = 0 by omega)]
  simp only [Bool.not_false, chk_true]
  have eU : U.tdiv Z = 0 := by
    rw [Int.tdiv_eq_ediv_of_nonneg hU0]
    exact Int.ediv_eq_zero_of_lt hU0 (by omega)
  rw [eU, w0, Int.zero_mul, w0, Int.sub_zero, u64_id (n := U) (by omega) (by omega), l17_eq n y s Z Y0 U u1 u0 _ _ hU0 hU1 hu10 hu11]
  rw [u64_id (n := U * 4294967296) (by omega) (by omega), ← hV, u64_id hV0 (by omega), Int.zero_mul, w0, Int.sub_zero, u64_id hV0 (by omega)]
  rw [Int.tdiv_eq_ediv_of_nonneg hV0]
  have hq1 : V / Z < 1001 := Int.ediv_lt_of_lt_mul (by omega) hV1
  have hq0 : 0 ≤ V / Z := Int.ediv_nonneg hV0 (by omega)
  have hA0 : V / Z * Z ≤ V := Int.ediv_mul_le V (by omega)
  have hA1 : V < (V / Z + 1) * Z := Int.lt_ediv_add_one_mul_self V (by omega)
  have hAp : 0 ≤ V / Z * Z := Int.mul_nonneg hq0 (by omega)
  have hA1' : V < V / Z * Z + Z := by rw [Int.add_mul, Int.one_mul] at hA1; exact hA1
  rw [u64_id hq0 (by omega), u64_id hAp (by omega), u64_id (n := V - V / Z * Z) (by omega) (by omega)]
  rw [l24_eq n y s Z Y0 u0 0 V V (V / Z) _ _ hyZ hZ0 hZ1 hY0 hY1 hu00 hu01 hV0 hV1 hq1 hq0 hA0 hA1, ← hNV]
  have hr1 : N / y ≤ 1000 := by
    have := Int.ediv_lt_of_lt_mul (a := N) (b := 1001) (c := y) (by omega) (by omega)
    omega
  have hr0 : 0 ≤ N / y := Int.ediv_nonneg hN0 (by omega)
  rw [decide_eq_true hs, chk_true, Int.zero_mul, w0, Int.zero_add, u64_id hr0 (by omega)]
  exact ⟨_, rfl⟩
theorem div_eq (n : Nat) (b c : Int) (hb : 0 ≤ b) (hbc : b ≤ c) (hc0 : 0 < c) (hc : c ≤ 2305843009213693952) : ∃ r, f47 n (1000 * b / 18446744073709551616) (1000 * b % 18446744073709551616) c = some (1000 * b / c, r) := by
  unfold f47 f47G
  have z1 : (c == 0) = false := by simpa using (show c ≠ 0 by omega)
  rw [z1, decide_eq_false (show ¬ c ≤ 1000 * b / 18446744073709551616 by omega)]
  simp only [cond_false]
  by_cases hz : 1000 * b / 18446744073709551616 = 0
  · rw [hz]
    simp only [beq_self_eq_true, cond_true]
    rw [decide_eq_false (show ¬ c = 0 by omega)]
    simp only [Bool.not_false, chk_true]
    have e : 1000 * b % 18446744073709551616 = 1000 * b := by omega
    rw [e, Int.tdiv_eq_ediv_of_nonneg (by omega)]
    have h1 : 1000 * b / c ≤ 1000 := by
      have := Int.ediv_lt_of_lt_mul hc0 (show 1000 * b < 1001 * c by omega)
      omega
    have h0 : 0 ≤ 1000 * b / c := Int.ediv_nonneg (by omega) (by omega)
    rw [u64_id h0 (by omega)]
    exact ⟨_, rfl⟩
  · have z2 : (1000 * b / 18446744073709551616 == 0) = false := by simpa using hz
    rw [z2]
    simp only [cond_false]
    obtain ⟨s, s1, s9, hf, hy0, hy1⟩ := zeros_eq (c := c) (by omega) (by omega)
    have hts : Int.toNat (s : Int) = s := Int.toNat_natCast s
    have hms : min s 64 = s := by omega
    have hws : IntKind.u64.wrap (s : Int) = s := u64_id (by omega) (by omega)
    have hw2 : IntKind.u64.wrap (64 - (s : Int)) = ((64 - s : Nat) : Int) := by rw [u64_id (by omega) (by omega)]; omega
    have hms2 : min (64 - s) 64 = 64 - s := by omega
    rw [hf]
    simp only [Option.isSome_some, chk_true, Option.getD_some, hws, hw2, hts, hms, Int.toNat_natCast, hms2]
    rw [decide_eq_true (show (0 : Int) ≤ (s : Int) by omega), decide_eq_true (show (0 : Int) ≤ ((64 - s : Nat) : Int) by omega)]
    simp only [chk_true]
    rw [u64_id (n := c * 2 ^ s) (by omega) hy1, shr32, mask32 _ (by omega) hy1]
    obtain ⟨P, hP⟩ : ∃ P, P = 1000 * b := ⟨_, rfl⟩
    have hPc : P ≤ 1000 * c := by omega
    rw [← hP]
    obtain ⟨y, hy⟩ : ∃ y, y = c * 2 ^ s := ⟨_, rfl⟩
    have hdiv : P * 2 ^ s / y = P / c := by
      rw [hy]
      exact Int.mul_ediv_mul_of_pos_left P c (by exact_mod_cast Nat.two_pow_pos s)
    have key : IntKind.u64.wrap (P / 18446744073709551616 * 2 ^ s) = P / 18446744073709551616 * 2 ^ s ∧ IntKind.u64.wrap ((BitVec.ofInt 64 (P / 18446744073709551616 * 2 ^ s) ||| BitVec.ofInt 64 ((P % 18446744073709551616).fdiv (2 ^ (64 - s)))).toNat : Int) = P * 2 ^ s / 18446744073709551616 ∧ IntKind.u64.wrap (P % 18446744073709551616 * 2 ^ s) = P * 2 ^ s % 18446744073709551616 ∧ 0 ≤ P * 2 ^ s ∧ P * 2 ^ s ≤ 1000 * y := by
      have h9 : s = 1 ∨ s = 2 ∨ s = 3 ∨ s = 4 ∨ s = 5 ∨ s = 6 ∨ s = 7 ∨ s = 8 ∨ s = 9 := by omega
      rcases h9 with rfl | rfl | rfl | rfl | rfl | rfl | rfl | rfl | rfl <;> simp only [Nat.reduceSub, Int.reducePow] at hy ⊢ <;> (refine ⟨u64_id (by omega) (by omega), ?_, by rw [u64_eq]; omega, by omega, by omega⟩) <;> rw [Int.fdiv_eq_ediv_of_nonneg _ (by decide)]
      · exact (join_u64 1 _ _ (by omega) (by simp only [Int.reducePow]; omega) (by simp only [Int.reducePow]; omega) (by omega) (by simp only [Int.reducePow]; omega) (by simp only [Int.reducePow]; omega)).trans (by omega)
      · exact (join_u64 2 _ _ (by omega) (by simp only [Int.reducePow]; omega) (by simp only [Int.reducePow]; omega) (by omega) (by simp only [Int.reducePow]; omega) (by simp only [Int.reducePow]; omega)).trans (by omega)
      · exact (join_u64 3 _ _ (by omega) (by simp only [Int.reducePow]; omega) (by simp only [Int.reducePow]; omega) (by omega) (by simp only [Int.reducePow]; omega) (by simp only [Int.reducePow]; omega)).trans (by omega)
      · exact (join_u64 4 _ _ (by omega) (by simp only [Int.reducePow]; omega) (by simp only [Int.reducePow]; omega) (by omega) (by simp only [Int.reducePow]; omega) (by simp only [Int.reducePow]; omega)).trans (by omega)
      · exact (join_u64 5 _ _ (by omega) (by simp only [Int.reducePow]; omega) (by simp only [Int.reducePow]; omega) (by omega) (by simp only [Int.reducePow]; omega) (by simp only [Int.reducePow]; omega)).trans (by omega)
      · exact (join_u64 6 _ _ (by omega) (by simp only [Int.reducePow]; omega) (by simp only [Int.reducePow]; omega) (by omega) (by simp only [Int.reducePow]; omega) (by simp only [Int.reducePow]; omega)).trans (by omega)
      · exact (join_u64 7 _ _ (by omega) (by simp only [Int.reducePow]; omega) (by simp only [Int.reducePow]; omega) (by omega) (by simp only [Int.reducePow]; omega) (by simp only [Int.reducePow]; omega)).trans (by omega)
      · exact (join_u64 8 _ _ (by omega) (by simp only [Int.reducePow]; omega) (by simp only [Int.reducePow]; omega) (by omega) (by simp only [Int.reducePow]; omega) (by simp only [Int.reducePow]; omega)).trans (by omega)
      · exact (join_u64 9 _ _ (by omega) (by simp only [Int.reducePow]; omega) (by simp only [Int.reducePow]; omega) (by omega) (by simp only [Int.reducePow]; omega) (by simp only [Int.reducePow]; omega)).trans (by omega)
    obtain ⟨k1, k2, k3, k4, k5⟩ := key
    rw [k1, k2, k3, shr32, mask32 _ (by omega) (by omega), ← hy]
    obtain ⟨r, hr⟩ := tail_eq n s y (P * 2 ^ s) (by omega) (by omega) (by omega) k4 k5
    refine ⟨r, ?_⟩
    rw [← hdiv]
    unfold tailF at hr
    simp only [hts, hms] at hr
    exact hr
theorem muldiv_eq (n : Nat) (b c : Int) (hb : 0 ≤ b) (hbc : b ≤ c) (hc0 : 0 < c) (hc : c ≤ 2305843009213693952) : f30 n 1000 b c = some (1000 * b / c, 0) := by
  obtain ⟨r, hr⟩ := div_eq n b c hb hbc hc0 hc
  unfold f30 f30G
  rw [decide_eq_false (show ¬ c ≤ 0 by omega)]
  simp only [cond_false]
  have e1 : f46 1000 = 1000 := mag_eq 1000 (by decide) (by decide)
  rw [e1, mag_eq b hb (by omega), mul64_eq b hb (by omega), u64_id (n := c) (by omega) (by omega)]
  simp only
  rw [decide_eq_false (show ¬ 1000 * b / 18446744073709551616 ≥ c by omega), hr]
  simp only [cond_false, Option.isSome_some, chk_true, Option.getD_some]
  have h1 : 1000 * b / c ≤ 1000 := by
    have := Int.ediv_lt_of_lt_mul hc0 (show 1000 * b < 1001 * c by omega)
    omega
  have h0 : 0 ≤ 1000 * b / c := Int.ediv_nonneg (by omega) (by omega)
  rw [decide_eq_false (show ¬ 1000 * b / c > 9223372036854775808 by omega), decide_eq_false (show ¬ (1000 : Int) < 0 by decide), decide_eq_false (show ¬ b < 0 by omega), decide_eq_false (show ¬ 1000 * b / c > 9223372036854775807 by omega)]
  simp only [cond_false, beq_self_eq_true, cond_true]
  rw [wrap_of (by omega) (by omega)]
/-! ### Digit by digit -/
theorem inner_eq (n : Nat) (a : Yl) (v24 v26 rest : Int) (k2 : Int → Int → Option Int) (hL : a.1 ≤ 2305843009213693952) (h0 : 0 ≤ rest) (h1 : rest < a.1) : ∀ (j m : Nat) (digit sum k : Int), k + j = 10 → j < m → 0 ≤ sum → sum < a.1 → 0 ≤ digit → digit ≤ k →
    ∃ D S, f21L10 n v24 rest v26 a m digit sum k k2 = k2 D S ∧ D * a.1 + S = digit * a.1 + sum + j * rest ∧ 0 ≤ S ∧ S < a.1 ∧ 0 ≤ D ∧ D ≤ 10 := by
  intro j
  induction j with
  | zero =>
    intro m digit sum k hk hm s0 s1 d0 d1
    obtain ⟨m, rfl⟩ : ∃ q, m = q + 1 := ⟨m - 1, by omega⟩
    refine ⟨digit, sum, ?_, by simp, s0, s1, d0, by omega⟩
    simp only [f21L10, f21L10G]
    rw [decide_eq_false (by omega)]
    rfl
  | succ j ih =>
    intro m digit sum k hk hm s0 s1 d0 d1
    obtain ⟨m, rfl⟩ : ∃ q, m = q + 1 := ⟨m - 1, by omega⟩
    simp only [f21L10, f21L10G]
    rw [decide_eq_true (show k < 10 by omega)]
    simp only [cond_true]
    rw [wrap_of (n := a.1 - rest) (by omega) (by omega), wrap_of (n := k + 1) (by omega) (by omega)]
    have hj : ((j + 1 : Nat) : Int) * rest = j * rest + rest := by rw [Int.natCast_add, Int.add_mul]; simp
    rw [hj]
    by_cases hs : sum ≥ a.1 - rest
    · rw [decide_eq_true hs, wrap_of (n := sum - (a.1 - rest)) (by omega) (by omega), wrap_of (n := digit + 1) (by omega) (by omega)]
      obtain ⟨D, S, e1, e2, e3⟩ := ih m (digit + 1) (sum - (a.1 - rest)) (k + 1) (by omega) (by omega) (by omega) (by omega) (by omega) (by omega)
      refine ⟨D, S, e1, ?_, e3⟩
      rw [e2, Int.add_mul, Int.one_mul]
      omega
    · rw [decide_eq_false hs, wrap_of (n := sum + rest) (by omega) (by omega)]
      obtain ⟨D, S, e1, e2, e3⟩ := ih m digit (sum + rest) (k + 1) (by omega) (by omega) (by omega) (by omega) (by omega) (by omega)
      refine ⟨D, S, e1, ?_, e3⟩
      rw [e2]
      omega
theorem outer_eq (n : Nat) (hn : 4 ≤ n) (a : Yl) (k0 : Int → Option Int) (hL : a.1 ≤ 2305843009213693952) (hL0 : 0 < a.1) : ∀ (j m : Nat) (v24 rest i : Int), 0 ≤ i → i + j = 3 → j < m → 0 ≤ rest → rest < a.1 → 0 ≤ v24 → (v24 ≤ 2 ∨ (1 ≤ i ∧ v24 ≤ 30) ∨ (2 ≤ i ∧ v24 ≤ 310) ∨ (3 ≤ i ∧ v24 ≤ 3110)) →
    ∃ V R, f21L5 n a m v24 rest i k0 = k0 V ∧ V * a.1 + R = (v24 * a.1 + rest) * 10 ^ j ∧ 0 ≤ R ∧ R < a.1 := by
  intro j
  induction j with
  | zero =>
    intro m v24 rest i hi0 hi hm r0 r1 v0 v1
    obtain ⟨m, rfl⟩ : ∃ q, m = q + 1 := ⟨m - 1, by omega⟩
    refine ⟨v24, rest, ?_, by simp, r0, r1⟩
    simp only [f21L5, f21L5G]
    rw [decide_eq_false (by omega)]
    rfl
  | succ j ih =>
    intro m v24 rest i hi0 hi hm r0 r1 v0 v1
    obtain ⟨m, rfl⟩ : ∃ q, m = q + 1 := ⟨m - 1, by omega⟩
    simp only [f21L5, f21L5G]
    rw [decide_eq_true (show i < 3 by omega)]
    simp only [cond_true]
    obtain ⟨D, S, e1, e2, e3, e4, e5, e6⟩ := inner_eq n a v24 i rest (fun v43 v44 => f21L5 n a m (IntKind.i64.wrap (IntKind.i64.wrap (10 * v24) + v43)) v44 (IntKind.i64.wrap (i + 1)) k0) hL r0 r1 10 (n + 8) 0 0 0 (by decide) (by omega) (by decide) hL0 (by decide) (by decide)
    rw [e1, wrap_of (n := 10 * v24) (by omega) (by omega), wrap_of (n := 10 * v24 + D) (by omega) (by omega), wrap_of (n := i + 1) (by omega) (by omega)]
    obtain ⟨V, R, f1, f2, f3⟩ := ih m (10 * v24 + D) S (i + 1) (by omega) (by omega) (by omega) e3 e4 (by omega) (by omega)
    refine ⟨V, R, f1, ?_, f3⟩
    rw [f2]
    have e2' : D * a.1 + S = 10 * rest := by omega
    have h10 : (10 : Int) ^ (j + 1) = 10 ^ j * 10 := Int.pow_succ ..
    have e7 : (10 * v24 + D) * a.1 + S = (v24 * a.1 + rest) * 10 := by
      rw [Int.add_mul, Int.add_mul, Int.mul_assoc]
      omega
    rw [e7, h10, Int.mul_assoc, Int.mul_comm 10]
/-! ### The law -/
theorem fits_eq (n : Int) : f33 n = decide (Fits n) := by
  unfold f33
  by_cases h : n ≥ 0
  · rw [decide_eq_true h]
    simp only [cond_true]
    by_cases h2 : n ≤ 2305843009213693952
    · rw [decide_eq_true h2, decide_eq_true (p := Fits n) ⟨h, h2⟩]
    · rw [decide_eq_false h2, decide_eq_false (p := Fits n) (fun q => h2 q.2)]
  · rw [decide_eq_false h, decide_eq_false (p := Fits n) (fun q => h q.1)]
    rfl
theorem valid_eq (a : Yl) : f32 a = decide (Wi a) := by
  unfold f32
  simp only [fits_eq]
  by_cases h1 : Fits a.1
  · by_cases h2 : Fits a.2.1
    · by_cases h3 : Fits a.2.2.1
      · by_cases h4 : Fits a.2.2.2.1
        · by_cases h5 : a.2.2.2.2 ≥ -2305843009213693952
          · by_cases h6 : a.2.2.2.2 ≤ 2305843009213693952
            · simp only [decide_eq_true h1, decide_eq_true h2, decide_eq_true h3, decide_eq_true h4, decide_eq_true h5, decide_eq_true h6, cond_true]
              exact (decide_eq_true ⟨h1, h2, h3, h4, h5, h6⟩).symm
            · simp only [decide_eq_true h1, decide_eq_true h2, decide_eq_true h3, decide_eq_true h4, decide_eq_true h5, decide_eq_false h6, cond_true]
              exact (decide_eq_false fun q => h6 q.2.2.2.2.2).symm
          · simp only [decide_eq_true h1, decide_eq_true h2, decide_eq_true h3, decide_eq_true h4, decide_eq_false h5, cond_true, cond_false]
            exact (decide_eq_false fun q => h5 q.2.2.2.2.1).symm
        · simp only [decide_eq_true h1, decide_eq_true h2, decide_eq_true h3, decide_eq_false h4, cond_true, cond_false]
          exact (decide_eq_false fun q => h4 q.2.2.2.1).symm
      · simp only [decide_eq_true h1, decide_eq_true h2, decide_eq_false h3, cond_true, cond_false]
        exact (decide_eq_false fun q => h3 q.2.2.1).symm
    · simp only [decide_eq_true h1, decide_eq_false h2, cond_true, cond_false]
      exact (decide_eq_false fun q => h2 q.2.1).symm
  · simp only [decide_eq_false h1, cond_false]
    exact (decide_eq_false fun q => h1 q.1).symm
theorem addR_eq (a b : Yl) : f19 a b = if Wi a ∧ Wi b then (Sum a b, 0) else ((0, 0, 0, 0, 0), 9) := by
  unfold f19
  rw [valid_eq, valid_eq]
  by_cases ha : Wi a
  · by_cases hb : Wi b
    · rw [if_pos ⟨ha, hb⟩, decide_eq_true ha, decide_eq_true hb]
      simp only [Bool.not_true, cond_false]
      unfold Wi Fits at ha hb
      rw [wrap_of (n := a.1 + b.1) (by omega) (by omega), wrap_of (n := a.2.1 + b.2.1) (by omega) (by omega), wrap_of (n := a.2.2.1 + b.2.2.1) (by omega) (by omega), wrap_of (n := a.2.2.2.1 + b.2.2.2.1) (by omega) (by omega), wrap_of (n := a.2.2.2.2 + b.2.2.2.2) (by omega) (by omega)]
      rfl
    · rw [if_neg (fun h => hb h.2), decide_eq_true ha, decide_eq_false hb]; rfl
  · rw [if_neg (fun h => ha h.1), decide_eq_false ha]; rfl
theorem balR_eq (a : Yl) : f20 a = decide (Bal a) := by
  unfold f20
  simp only [fits_eq]
  by_cases h1 : Fits a.1
  · by_cases h2 : Fits a.2.1
    · by_cases h3 : Fits a.2.2.1
      · by_cases h4 : Fits a.2.2.2.1
        · simp only [decide_eq_true h1, decide_eq_true h2, decide_eq_true h3, decide_eq_true h4, cond_true]
          unfold Fits at h1 h2 h3 h4
          rw [wrap_of (n := a.1 - a.2.1) (by omega) (by omega), wrap_of (by omega) (by omega)]
          by_cases he : a.1 - a.2.1 - a.2.2.1 = a.2.2.2.1
          · rw [he, decide_eq_true (by unfold Bal Fits; omega)]; simp
          · rw [decide_eq_false (by unfold Bal; exact fun h => he h.2.2.2.2)]; simpa using he
        · simp only [decide_eq_true h1, decide_eq_true h2, decide_eq_true h3, decide_eq_false h4, cond_true, cond_false]
          exact (decide_eq_false fun q => h4 q.2.2.2.1).symm
      · simp only [decide_eq_true h1, decide_eq_true h2, decide_eq_false h3, cond_true, cond_false]
        exact (decide_eq_false fun q => h3 q.2.2.1).symm
    · simp only [decide_eq_true h1, decide_eq_false h2, cond_true, cond_false]
      exact (decide_eq_false fun q => h2 q.2.1).symm
  · simp only [decide_eq_false h1, cond_false]
    exact (decide_eq_false fun q => h1 q.1).symm
def Rec (a : Yl) : Int := if Bal a ∧ a.1 ≠ 0 then 1000 * a.2.1 / a.1 else 0
theorem recovery_eq (n : Nat) (a : Yl) : f14 n a = some (Rec a) := by
  unfold f14 f14G Rec
  rw [balanced_eq]
  simp only [Option.isSome_some, chk_true, Option.getD_some]
  by_cases h : Bal a
  · rw [decide_eq_true h]
    simp only [Bool.not_true, cond_false]
    by_cases h0 : a.1 = 0
    · have z : (a.1 == 0) = true := by simpa using h0
      rw [z, if_neg (fun q => q.2 h0)]; rfl
    · have z : (a.1 == 0) = false := by simpa using h0
      rw [z, if_pos ⟨h, h0⟩]
      unfold Bal Fits at h
      rw [muldiv_eq n a.2.1 a.1 (by omega) (by omega) (by omega) (by omega)]
      rfl
  · rw [decide_eq_false h, if_neg (fun q => h q.1)]; rfl
theorem digits_eq (n : Nat) (hn : 4 ≤ n) (a : Yl) (m : Nat) (hm : 3 < m) (hL0 : 0 < a.1) (hL : a.1 ≤ 2305843009213693952) (hb0 : 0 ≤ a.2.1) (hb : a.2.1 ≤ a.1) : f21L5 n a m (a.2.1 / a.1) (a.2.1 % a.1) 0 (fun v => some v) = some (1000 * a.2.1 / a.1) := by
  have h1 : a.2.1 / a.1 < 2 := Int.ediv_lt_of_lt_mul hL0 (by omega)
  have h0 : 0 ≤ a.2.1 / a.1 := Int.ediv_nonneg (by omega) (by omega)
  obtain ⟨V, R, e1, e2, e3, e4⟩ := outer_eq n hn a (fun v => some v) hL hL0 3 m (a.2.1 / a.1) (a.2.1 % a.1) 0 (Int.le_refl 0) (by omega) hm (Int.emod_nonneg _ (by omega)) (Int.emod_lt_of_pos _ hL0) h0 (by omega)
  rw [e1]
  have hd : a.2.1 / a.1 * a.1 + a.2.1 % a.1 = a.2.1 := by rw [Int.mul_comm]; exact Int.mul_ediv_add_emod a.2.1 a.1
  rw [hd] at e2
  have e5 : (10 : Int) ^ 3 = 1000 := by decide
  rw [e5] at e2
  rw [div_of (q := V) hL0 (by omega) (by rw [Int.add_mul, Int.one_mul]; omega)]
end Go.Proofs.Ytcjhegiidnjepaa.Ev.Plain
