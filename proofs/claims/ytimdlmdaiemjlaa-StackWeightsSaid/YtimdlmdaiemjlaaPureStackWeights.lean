/- Weight answers as the reference for any arguments: the plain law of StackWeights. -/
import Derived.Test.YtimdlmdaiemjlaaPStackWeightsx5
namespace Go.Proofs.Ytimdlmdaiemjlaa.Pure
open Go.RowKit Go.Proofs.Ytimdlmdaiemjlaa.PStackWeights Go.Proofs.YtimdlmdaiemjlaaW.PrintWords Go.Proofs.YtimdlmdaiemjlaaW.PrintLast
set_option linter.unusedVariables false
set_option linter.unusedSimpArgs false

theorem wrap_id {n : Int} (h0 : -9223372036854775808 ≤ n) (h1 : n ≤ 9223372036854775807) : wrap64 n = n := by unfold wrap64; omega
theorem mul_small {a b : Int} (h0 : 1 ≤ a) (h1 : a ≤ 8) (h2 : 1 ≤ b) (h3 : b ≤ 8) : 1 ≤ a * b ∧ a * b ≤ 64 := by
  have h : a = 1 ∨ a = 2 ∨ a = 3 ∨ a = 4 ∨ a = 5 ∨ a = 6 ∨ a = 7 ∨ a = 8 := by omega
  rcases h with h | h | h | h | h | h | h | h <;> subst h <;> omega
def Shaped (a b c : Int) : Prop := 1 ≤ a ∧ a ≤ 8 ∧ 1 ≤ b ∧ b ≤ 8 ∧ 0 ≤ c ∧ c ≤ 50
instance (a b c : Int) : Decidable (Shaped a b c) := by unfold Shaped; exact inferInstance
theorem between_eq (n l h : Int) : stack_between.f n l h = some (decide (l ≤ n ∧ n ≤ h)) := by
  unfold stack_between.f
  by_cases h1 : n ≥ l
  · rw [if_pos h1]; simp [h1]
  · rw [if_neg h1]; simp; omega
theorem check_eq (a b c : Int) : stack_Check.f a b c = some (if Shaped a b c then 0 else 9) := by
  unfold stack_Check.f
  simp only [between_eq, Option.bind_some, decide_eq_true_eq]
  by_cases hs : Shaped a b c
  · rw [if_pos hs]
    unfold Shaped at hs
    rw [if_pos (by omega), if_pos (by omega), if_pos (by omega)]
  · rw [if_neg hs]
    unfold Shaped at hs
    repeat' split
    all_goals first | rfl | (exfalso; omega)
theorem full_eq (a b c : Int) (h : Shaped a b c) : stack_full.f a b c = some (a * b) := by
  unfold stack_full.f
  unfold Shaped at h
  have := mul_small h.1 h.2.1 h.2.2.1 h.2.2.2.1
  rw [wrap_id (by omega) (by omega)]

theorem u64_eq (n : Int) : IntKind.u64.wrap n = n % 18446744073709551616 := by simp [IntKind.wrap, IntKind.bits, IntKind.signed]
theorem u64_id {n : Int} (h0 : 0 ≤ n) (h1 : n < 18446744073709551616) : IntKind.u64.wrap n = n := by rw [u64_eq]; omega
theorem wraps_u64 (n : Int) (h0 : 0 ≤ n) (h1 : n < 2 ^ 64) : IntKind.u64.wrap n = n := u64_id h0 (by simpa using h1)
theorem mask32 (x : Int) (h0 : 0 ≤ x) (h1 : x < 18446744073709551616) : Go.bits .and .u64 x 4294967295 = x % 4294967296 := by
  have := bits_mask .u64 64 (by decide) wraps_u64 32 (by decide) x h0 (by simpa using h1)
  simpa using this
theorem mul64_eq (x y : Int) (h0 : 0 ≤ x) (h1 : x < 18446744073709551616) (h2 : 0 ≤ y) (h3 : y < 4294967296) : bits_Mul64.f x y = some (x * y / 18446744073709551616, x * y % 18446744073709551616) := by
  unfold bits_Mul64.f
  rw [mask32 x h0 h1, mask32 y h2 (by omega), show y / 4294967296 = 0 by omega, show y % 4294967296 = y by omega]
  have hA0 : 0 ≤ x / 4294967296 * y := Int.mul_nonneg (by omega) h2
  have hB0 : 0 ≤ x % 4294967296 * y := Int.mul_nonneg (by omega) h2
  have hA1 : x / 4294967296 * y ≤ 4294967295 * 4294967295 := Int.mul_le_mul (by omega) (by omega) h2 (by omega)
  have hB1 : x % 4294967296 * y ≤ 4294967295 * 4294967295 := Int.mul_le_mul (by omega) (by omega) h2 (by omega)
  have hx : x * y = x / 4294967296 * y * 4294967296 + x % 4294967296 * y := by
    have e : x = x / 4294967296 * 4294967296 + x % 4294967296 := by omega
    have e2 : x * y = (x / 4294967296 * 4294967296 + x % 4294967296) * y := congrArg (· * y) e
    rw [e2, Int.add_mul, Int.mul_right_comm]
  rw [hx]
  generalize x / 4294967296 * y = A at *
  generalize x % 4294967296 * y = B at *
  rw [Int.mul_zero, Int.mul_zero]
  have e0 : IntKind.u64.wrap 0 = 0 := by decide
  rw [e0, u64_id hA0 (by omega), u64_id hB0 (by omega), u64_id (show 0 ≤ A + B / 4294967296 by omega) (by omega), mask32 _ (by omega) (by omega), Int.add_zero, u64_id (show 0 ≤ (A + B / 4294967296) % 4294967296 by omega) (by omega), u64_id (show 0 ≤ 0 + (A + B / 4294967296) / 4294967296 by omega) (by omega), u64_id (by omega) (by omega), u64_eq]
  congr 2
  omega
theorem zeros_ten : bits_LeadingZeros64.f 5 10000000000 = some 30 := by decide +kernel
theorem zeros_more (k : Nat) (hk : 5 ≤ k) : bits_LeadingZeros64.f k 10000000000 = some 30 := at_rounds (g := fun k => bits_LeadingZeros64.f k 10000000000) (bits_LeadingZeros64.mono _) hk zeros_ten
theorem div64_eq (hi lo : Int) (k : Nat) (hk : 10 ≤ k) (h0 : 0 ≤ hi) (h1 : hi < 10000000000) (h2 : 0 ≤ lo) (h3 : lo < 18446744073709551616) : ∃ r, bits_Div64.f k hi lo 10000000000 = some ((hi * 18446744073709551616 + lo) / 10000000000, r) := by
  unfold bits_Div64.f
  rw [if_neg (by decide), if_neg (by omega)]
  by_cases hz : hi = 0
  · subst hz
    rw [if_pos rfl, Int.tdiv_eq_ediv_of_nonneg h2, u64_id (by omega) (by omega)]
    exact ⟨_, by rw [Int.zero_mul, Int.zero_add]⟩
  · rw [if_neg hz, zeros_more k (by omega)]
    simp only [Option.bind_some]
    have e30 : IntKind.u64.wrap 30 = 30 := by decide
    have e34 : IntKind.u64.wrap (64 - 30) = 34 := by decide
    have ey : shl .u64 10000000000 30 = 10737418240000000000 := by decide
    have ehi : shl .u64 hi 30 = hi * 1073741824 := by
      unfold shl
      rw [show min (Int.toNat 30) IntKind.u64.bits = 30 from rfl]
      exact u64_id (by omega) (by omega)
    have elo : shr .u64 lo 34 = lo / 17179869184 := by
      unfold shr
      rw [show min (Int.toNat 34) IntKind.u64.bits = 34 from rfl]
      rfl
    have elo' : shl .u64 lo 30 = lo * 1073741824 % 18446744073709551616 := by
      unfold shl
      rw [show min (Int.toNat 30) IntKind.u64.bits = 30 from rfl]
      exact u64_eq _
    rw [e30, e34, ey, ehi, elo, elo']
    have eor : Go.bits .or .u64 (hi * 1073741824) (lo / 17179869184) = hi * 1073741824 + lo / 17179869184 := by
      refine bits_join .u64 64 (by decide) wraps_u64 30 _ _ (by omega) ?_ ?_ (by omega) ?_ ?_
      · rw [show (2 : Int) ^ 30 = 1073741824 from rfl]; omega
      · rw [show (2 : Int) ^ 64 = 18446744073709551616 from rfl]; omega
      · rw [show (2 : Int) ^ 30 = 1073741824 from rfl]; omega
      · rw [show (2 : Int) ^ 64 = 18446744073709551616 from rfl]; omega
    rw [eor]
    have hU : ∃ U, U = hi * 1073741824 + lo / 17179869184 := ⟨_, rfl⟩
    obtain ⟨U, hU⟩ := hU
    have hL : ∃ L, L = lo * 1073741824 % 18446744073709551616 := ⟨_, rfl⟩
    obtain ⟨L, hL⟩ := hL
    rw [← hU, ← hL]
    rw [show (10737418240000000000 : Int) / 4294967296 = 2500000000 by decide, mask32 10737418240000000000 (by decide) (by decide), show (10737418240000000000 : Int) % 4294967296 = 0 by decide, mask32 L (by omega) (by omega)]
    rw [if_pos (by decide), if_pos (by decide), if_neg (by decide), Int.tdiv_eq_ediv_of_nonneg (show 0 ≤ U by omega), u64_id (show 0 ≤ U / 2500000000 by omega) (by omega), u64_id (show 0 ≤ U / 2500000000 * 2500000000 by omega) (by omega), u64_id (show 0 ≤ U - U / 2500000000 * 2500000000 by omega) (by omega)]
    obtain ⟨k, rfl⟩ : ∃ m, k = m + 5 := ⟨k - 5, by omega⟩
    simp only [bits_Div64.l0]
    rw [if_neg (by omega), Int.mul_zero, show IntKind.u64.wrap 0 = 0 by decide]
    have hw : ∀ n, ¬ (0 > IntKind.u64.wrap n) := fun n => by rw [u64_eq]; omega
    rw [decide_eq_false (hw _)]
    simp only [bits_Div64.j1]
    rw [if_neg (by decide)]
    simp only [bits_Div64.j2]
    rw [if_neg (by decide)]
    have e21 : IntKind.u64.wrap (IntKind.u64.wrap (IntKind.u64.wrap (U * 4294967296) + L / 4294967296) - IntKind.u64.wrap (U / 2500000000 * 10737418240000000000)) = (U % 2500000000) * 4294967296 + L / 4294967296 := by
      rw [u64_eq, u64_eq, u64_eq, u64_eq]
      omega
    rw [e21]
    obtain ⟨V, hV⟩ : ∃ V, V = (U % 2500000000) * 4294967296 + L / 4294967296 := ⟨_, rfl⟩
    rw [← hV, Int.tdiv_eq_ediv_of_nonneg (show 0 ≤ V by omega), u64_id (show 0 ≤ V / 2500000000 by omega) (by omega)]
    simp only [bits_Div64.l1]
    rw [if_neg (by omega), Int.mul_zero, show IntKind.u64.wrap 0 = 0 by decide, decide_eq_false (hw _)]
    simp only [bits_Div64.j4]
    rw [if_neg (by decide), if_pos (by decide)]
    refine ⟨_, by
      congr 2
      rw [u64_eq, u64_eq]
      omega⟩
theorem prod_bound {v d m : Int} (h0 : 0 ≤ v) (h1 : v ≤ 1000000000000) (h2 : 0 ≤ d) (h3 : d ≤ 2000) (h4 : 0 ≤ m) (h5 : m ≤ 20000) : 0 ≤ v * d ∧ v * d ≤ 2000000000000000 ∧ 0 ≤ v * d * (10000 + m) ∧ v * d * (10000 + m) ≤ 60000000000000000000 := by
  have a := Int.mul_nonneg h0 h2
  have b : v * d ≤ 1000000000000 * 2000 := Int.mul_le_mul h1 h3 h2 (by omega)
  have c : 0 ≤ v * d * (10000 + m) := Int.mul_nonneg a (by omega)
  have e : v * d * (10000 + m) ≤ 2000000000000000 * 30000 := Int.mul_le_mul (by omega) (by omega) (by omega) (by omega)
  exact ⟨a, by omega, c, by omega⟩
def Weighed (v d m : Int) : Prop := 0 ≤ v ∧ v ≤ 1000000000000 ∧ 0 ≤ d ∧ d ≤ 2000 ∧ 0 ≤ m ∧ m ≤ 20000
theorem weight_eq (v d m : Int) (k : Nat) (hk : 20 ≤ k) (h : Weighed v d m) : stack_Weight.f k v d m = some (v * d * (10000 + m) / 10000000000) := by
  obtain ⟨h0, h1, h2, h3, h4, h5⟩ := h
  have hp := prod_bound h0 h1 h2 h3 h4 h5
  obtain ⟨k, rfl⟩ : ∃ m, k = m + 1 := ⟨k - 1, by omega⟩
  unfold stack_Weight.f
  simp only [between_eq, Option.bind_some, decide_eq_true_eq]
  rw [if_pos ⟨h0, h1⟩, if_pos ⟨h2, h3⟩, decide_eq_true (show 0 ≤ m ∧ m ≤ 20000 from ⟨h4, h5⟩)]
  simp only [Bool.not_true, stack_Weight.j0]
  rw [if_neg (by decide), u64_id h0 (by omega), u64_id h2 (by omega), u64_id hp.1 (by omega), wrap_id (show -9223372036854775808 ≤ 10000 + m by omega) (by omega), u64_id (show 0 ≤ 10000 + m by omega) (by omega), mul64_eq _ _ hp.1 (by omega) (by omega) (by omega)]
  simp only [Option.bind_some]
  generalize v * d * (10000 + m) = Z at *
  obtain ⟨r, hr⟩ := div64_eq (Z / 18446744073709551616) (Z % 18446744073709551616) k (by omega) (by omega) (by omega) (by omega) (by omega)
  rw [hr]
  simp only [Option.bind_some]
  rw [wrap_id (by omega) (by omega)]
  congr 1
  omega
theorem weight_none (v d m : Int) (k : Nat) (hk : 20 ≤ k) (h : ¬ Weighed v d m) : stack_Weight.f k v d m = some 0 := by
  obtain ⟨k, rfl⟩ : ∃ m, k = m + 1 := ⟨k - 1, by omega⟩
  unfold stack_Weight.f
  simp only [between_eq, Option.bind_some, decide_eq_true_eq, stack_Weight.j0, if_true]
  unfold Weighed at h
  by_cases h1 : 0 ≤ v ∧ v ≤ 1000000000000
  · rw [if_pos h1]
    by_cases h2 : 0 ≤ d ∧ d ≤ 2000
    · rw [if_pos h2, decide_eq_false (show ¬ (0 ≤ m ∧ m ≤ 20000) by omega)]
      rfl
    · rw [if_neg h2]
  · rw [if_neg h1]

theorem awake_true : sawmilllaw32_awake.f 30 = some true := by decide +kernel
theorem awake_more (k : Nat) (hk : 30 ≤ k) : sawmilllaw32_awake.f k = some true := at_rounds (g := fun k => sawmilllaw32_awake.f k) sawmilllaw32_awake.mono hk awake_true
theorem scaled_eq (a b : Int) (ha : 0 ≤ a) (ha1 : a ≤ 1000000000000) (hb : 0 ≤ b) (hb1 : b ≤ 60000000) : ∀ (d k : Nat) (q r : Int), d ≤ 64 → 2 * d + 1 ≤ k → 0 ≤ q → 0 ≤ r → r < 10000000000 → q * 10000000000 + r = a * (b / 2 ^ d) →
    sawmillref01_scaled.l0 k a b 10000000000 q r ((d : Int) - 1) = some (a * b / 10000000000, a * b % 10000000000, true) := by
  intro d
  have hM : ∀ e : Nat, a * (b / 2 ^ e) ≤ 60000000000000000000 := fun e => by
    have h1 : b / 2 ^ e ≤ b := Int.ediv_le_self _ hb
    have h2 : 0 ≤ b / 2 ^ e := Int.ediv_nonneg hb (Int.le_of_lt (Int.pow_pos (by decide)))
    have : a * (b / 2 ^ e) ≤ 1000000000000 * 60000000 := Int.mul_le_mul ha1 (by omega) h2 (by omega)
    omega
  induction d with
  | zero =>
    intro k q r hd hk h0 h1 h2 he
    obtain ⟨k, rfl⟩ : ∃ m, k = m + 1 := ⟨k - 1, by omega⟩
    simp only [sawmillref01_scaled.l0]
    rw [if_neg (by omega)]
    simp only [Int.pow_zero, Int.ediv_one] at he
    rw [← he]
    congr 2
    · omega
    · congr 1
      omega
  | succ d ih =>
    intro k q r hd hk h0 h1 h2 he
    obtain ⟨k, rfl⟩ : ∃ m, k = m + 2 := ⟨k - 2, by omega⟩
    have hq := hM (d + 1)
    rw [← he] at hq
    have e2 : b / 2 ^ d = 2 * (b / 2 ^ (d + 1)) + (b / 2 ^ d) % 2 := by
      rw [Int.pow_succ, ← Int.ediv_ediv_of_nonneg (Int.le_of_lt (Int.pow_pos (by decide)))]
      omega
    have hbit : (b / 2 ^ d) % 2 = 0 ∨ (b / 2 ^ d) % 2 = 1 := by omega
    have hq2 := hM d
    have hn : 0 ≤ b / 2 ^ d := Int.ediv_nonneg hb (Int.le_of_lt (Int.pow_pos (by decide)))
    have es : shr .u64 b (IntKind.u64.wrap (((d + 1 : Nat) : Int) - 1)) = b / 2 ^ d := by
      rw [u64_id (by omega) (by omega)]
      unfold shr
      have : min (Int.toNat (((d + 1 : Nat) : Int) - 1)) IntKind.u64.bits = d := by
        rw [show (((d + 1 : Nat) : Int) - 1) = (d : Int) by omega]
        show min d 64 = d
        omega
      rw [this]
    have e5 : wrap64 (((d + 1 : Nat) : Int) - 1 - 1) = (d : Int) - 1 := by rw [wrap_id (by omega) (by omega)]; omega
    have step : ∀ Q R : Int, 0 ≤ Q → 0 ≤ R → R < 10000000000 → Q * 10000000000 + R = 2 * (a * (b / 2 ^ (d + 1))) → sawmillref01_scaled.j1 (k + 1) a b 10000000000 Q R (((d + 1 : Nat) : Int) - 1) = some (a * b / 10000000000, a * b % 10000000000, true) := by
      intro Q R g0 g1 g2 ge
      simp only [sawmillref01_scaled.j1]
      rw [if_neg (by omega), if_pos (by rw [u64_eq]; omega), es, Int.tmod_eq_emod_of_nonneg hn]
      rcases hbit with hb0 | hb0
      · rw [if_neg (by omega), e5]
        refine ih k Q R (by omega) (by omega) g0 g1 g2 ?_
        rw [e2, hb0, Int.add_zero, Int.mul_left_comm, ge]
      · have ge2 : a * (b / 2 ^ d) = 2 * (a * (b / 2 ^ (d + 1))) + a := by
          rw [e2, hb0, Int.mul_add, Int.mul_one, Int.mul_left_comm]
        rw [if_pos hb0, if_neg (by decide), Int.tdiv_eq_ediv_of_nonneg ha, Int.tmod_eq_emod_of_nonneg ha, u64_id (show 0 ≤ a / 10000000000 by omega) (by omega), u64_id (show 0 ≤ 9223372036854775808 - Q by omega) (by omega), if_neg (by omega), u64_id (show 0 ≤ R + a % 10000000000 by omega) (by omega), u64_id (show 0 ≤ Q + a / 10000000000 by omega) (by omega), e5]
        by_cases hc : R + a % 10000000000 ≥ 10000000000
        · rw [if_pos hc, u64_id (show 0 ≤ Q + a / 10000000000 + 1 by omega) (by omega), u64_id (show 0 ≤ R + a % 10000000000 - 10000000000 by omega) (by omega), if_neg (by omega)]
          exact ih k _ _ (by omega) (by omega) (by omega) (by omega) (by omega) (by omega)
        · rw [if_neg hc, if_neg (by omega)]
          exact ih k _ _ (by omega) (by omega) (by omega) (by omega) (by omega) (by omega)
    simp only [sawmillref01_scaled.l0]
    rw [if_pos (by omega), if_neg (by omega), u64_id (show 0 ≤ 2 * r by omega) (by omega), u64_id (show 0 ≤ 2 * q by omega) (by omega), u64_id (show 0 ≤ 2 * q + 1 by omega) (by omega)]
    by_cases hc : 2 * r ≥ 10000000000
    · rw [if_pos hc, u64_id (show 0 ≤ 2 * r - 10000000000 by omega) (by omega)]
      exact step _ _ (by omega) (by omega) (by omega) (by omega)
    · rw [if_neg hc]
      exact step _ _ (by omega) (by omega) (by omega) (by omega)
theorem muldiv_eq (a b : Int) (k : Nat) (hk : 140 ≤ k) (ha : 0 ≤ a) (ha1 : a ≤ 1000000000000) (hb : 0 ≤ b) (hb1 : b ≤ 60000000) : sawmillref01_MulDiv.f k a b 10000000000 = some (a * b / 10000000000, 0) := by
  obtain ⟨k, rfl⟩ : ∃ m, k = m + 1 := ⟨k - 1, by omega⟩
  have hp : a * b ≤ 1000000000000 * 60000000 := Int.mul_le_mul ha1 hb1 hb (by omega)
  have hp0 : 0 ≤ a * b := Int.mul_nonneg ha hb
  unfold sawmillref01_MulDiv.f sawmillref01_size.f sawmillref01_scaled.f
  rw [if_neg (by decide), if_neg (by omega), if_neg (by omega), u64_id ha (by omega), u64_id hb (by omega)]
  simp only [Option.bind_some]
  rw [show IntKind.u64.wrap 10000000000 = 10000000000 by decide]
  have := scaled_eq a b ha ha1 hb hb1 64 (k + 1) 0 0 (by omega) (by omega) (by omega) (by omega) (by omega) (by
    have : b / 2 ^ 64 = 0 := Int.ediv_eq_zero_of_lt hb (by rw [show (2 : Int) ^ 64 = 18446744073709551616 from rfl]; omega)
    rw [this, Int.mul_zero]; rfl)
  rw [show ((64 : Nat) : Int) - 1 = 63 from rfl] at this
  rw [this]
  simp only [Option.bind_some, if_true]
  rw [decide_eq_false (show ¬ a < 0 by omega), decide_eq_false (show ¬ b < 0 by omega), if_pos (by decide)]
  simp only [sawmillref01_MulDiv.j0, if_true]
  rw [if_neg (by omega), wrap_id (by omega) (by omega)]

theorem StackWeights : sawmilllaw32_StackWeights.Pure := by
  intro v d m _ _ _
  refine ⟨200, ?_⟩
  unfold sawmilllaw32_StackWeights.f sawmillref32_Weight.f
  rw [awake_more 200 (by omega)]
  by_cases h : Weighed v d m
  · rw [weight_eq v d m 200 (by omega) h]
    obtain ⟨h0, h1, h2, h3, h4, h5⟩ := h
    have hb : d * (10000 + m) ≤ 2000 * 30000 := Int.mul_le_mul h3 (by omega) (by omega) (by omega)
    have hb0 : 0 ≤ d * (10000 + m) := Int.mul_nonneg h2 (by omega)
    rw [if_neg (by omega), if_neg (by omega), if_neg (by omega), if_neg (by omega), if_neg (by omega), if_neg (by omega), wrap_id (show -9223372036854775808 ≤ 10000 + m by omega) (by omega), wrap_id (show -9223372036854775808 ≤ d * (10000 + m) by omega) (by omega), muldiv_eq _ _ 200 (by omega) h0 h1 hb0 (by omega)]
    simp only [Option.bind_some]
    rw [if_pos (by rw [Int.mul_assoc])]
  · rw [weight_none v d m 200 (by omega) h]
    unfold Weighed at h
    have e : ∀ o : Option Int, (if v < 0 then some 0 else if v > 1000000000000 then some 0 else if d < 0 then some 0 else if d > 2000 then some 0 else if m < 0 then some 0 else if m > 20000 then some 0 else o) = some 0 := by
      intro o
      repeat' split
      all_goals first | rfl | (exfalso; omega)
    rw [e]
    simp

end Go.Proofs.Ytimdlmdaiemjlaa.Pure
