/- A package of one more board is neither narrower nor lower: the plain law of StackGrows. -/
import Derived.Test.YtimdlmdaiemjlaaPStackGrowsx5
namespace Go.Proofs.Ytimdlmdaiemjlaa.Pure
open Go.RowKit Go.Proofs.Ytimdlmdaiemjlaa.PStackGrows Go.Proofs.YtimdlmdaiemjlaaW.PrintWords Go.Proofs.YtimdlmdaiemjlaaW.PrintLast
set_option linter.unusedVariables false
set_option linter.unusedSimpArgs false

theorem wrap_id {n : Int} (h0 : -9223372036854775808 ≤ n) (h1 : n ≤ 9223372036854775807) : wrap64 n = n := by unfold wrap64; omega
theorem mul_small {a b : Int} (h0 : 1 ≤ a) (h1 : a ≤ 8) (h2 : 1 ≤ b) (h3 : b ≤ 8) : 1 ≤ a * b ∧ a * b ≤ 64 := by
  have h : a = 1 ∨ a = 2 ∨ a = 3 ∨ a = 4 ∨ a = 5 ∨ a = 6 ∨ a = 7 ∨ a = 8 := by omega
  rcases h with h | h | h | h | h | h | h | h <;> subst h <;> omega
def Shaped (a b c : Int) : Prop := 1 ≤ a ∧ a ≤ 8 ∧ 1 ≤ b ∧ b ≤ 8 ∧ 0 ≤ c ∧ c ≤ 50
instance (a b c : Int) : Decidable (Shaped a b c) := by unfold Shaped; exact inferInstance
theorem between_eq (n l h : Int) : stack_between.f n l h = some (decide (l ≤ n ∧ n ≤ h)) := by
  unfold stack_between.f
  by_cases h1 : n ≥ l
  · rw [if_pos h1]; simp [h1]
  · rw [if_neg h1]; simp; omega
theorem check_eq (a b c : Int) : stack_Check.f a b c = some (if Shaped a b c then 0 else 9) := by
  unfold stack_Check.f
  simp only [between_eq, Option.bind_some, decide_eq_true_eq]
  by_cases hs : Shaped a b c
  · rw [if_pos hs]
    unfold Shaped at hs
    rw [if_pos (by omega), if_pos (by omega), if_pos (by omega)]
  · rw [if_neg hs]
    unfold Shaped at hs
    repeat' split
    all_goals first | rfl | (exfalso; omega)
theorem full_eq (a b c : Int) (h : Shaped a b c) : stack_full.f a b c = some (a * b) := by
  unfold stack_full.f
  unfold Shaped at h
  have := mul_small h.1 h.2.1 h.2.2.1 h.2.2.2.1
  rw [wrap_id (by omega) (by omega)]

theorem rcheck_eq (a b c : Int) : sawmillref32_Check.f a b c = some (if Shaped a b c then 0 else 9) := by
  unfold sawmillref32_Check.f
  by_cases hs : Shaped a b c
  · rw [if_pos hs]
    unfold Shaped at hs
    repeat' split
    all_goals first | rfl | (exfalso; omega)
  · rw [if_neg hs]
    unfold Shaped at hs
    repeat' split
    all_goals first | rfl | (exfalso; omega)

theorem awake_true : sawmilllaw32_awake.f 30 = some true := by decide +kernel
theorem awake_more (k : Nat) (hk : 30 ≤ k) : sawmilllaw32_awake.f k = some true := at_rounds (g := fun k => sawmilllaw32_awake.f k) sawmilllaw32_awake.mono hk awake_true
/-- What a package measures. -/
def Sized (a b t w n : Int) : Prop := 1 ≤ t ∧ t ≤ 600 ∧ 1 ≤ w ∧ w ≤ 600 ∧ 1 ≤ n ∧ n ≤ a * b
instance (a b t w n : Int) : Decidable (Sized a b t w n) := by unfold Sized; exact inferInstance
theorem size_eq (a b c t w n : Int) (z : ByteArray) (u v : Int) (p q : List Int) (h : Shaped a b c) : stack_Size.f a b c z t w u v p q n = some (if Sized a b t w n then (mn n a * w, (n + a - 1) / a * t + ((n + a - 1) / a - 1) * c, 0) else (0, 0, 9)) := by
  have hf := full_eq a b c h
  have h' := h
  unfold Shaped at h'
  have hm := mul_small h'.1 h'.2.1 h'.2.2.1 h'.2.2.2.1
  unfold stack_Size.f
  simp only [check_eq, if_pos h, Option.bind_some, hf, between_eq, if_true, decide_eq_true_eq]
  by_cases hs : Sized a b t w n
  · rw [if_pos hs]
    obtain ⟨h1, h2, h3, h4, h5, h6⟩ := hs
    rw [if_pos ⟨h1, h2⟩, if_pos ⟨h3, h4⟩, if_pos ⟨h5, h6⟩, if_neg (show ¬ a = 0 by omega)]
    have hk0 : 1 ≤ (n + a - 1) / a := by
      rw [Int.le_ediv_iff_mul_le (by omega)]
      omega
    have hk1 : (n + a - 1) / a ≤ 100 := by
      have := Int.ediv_le_self a (show 0 ≤ n + a - 1 by omega)
      omega
    have hkt : 0 ≤ (n + a - 1) / a * t ∧ (n + a - 1) / a * t ≤ 60000 := ⟨Int.mul_nonneg (by omega) (by omega), by have : (n + a - 1) / a * t ≤ 100 * 600 := Int.mul_le_mul hk1 h2 (by omega) (by omega); omega⟩
    have hkc : 0 ≤ ((n + a - 1) / a - 1) * c ∧ ((n + a - 1) / a - 1) * c ≤ 5000 := ⟨Int.mul_nonneg (by omega) (by omega), by have : ((n + a - 1) / a - 1) * c ≤ 100 * 50 := Int.mul_le_mul (by omega) (by omega) (by omega) (by omega); omega⟩
    have hmn : 1 ≤ mn n a ∧ mn n a ≤ 64 := by unfold mn; split <;> omega
    have hmw : 0 ≤ mn n a * w ∧ mn n a * w ≤ 38400 := ⟨Int.mul_nonneg (by omega) (by omega), by have : mn n a * w ≤ 64 * 600 := Int.mul_le_mul hmn.2 h4 (by omega) (by omega); omega⟩
    rw [wrap_id (show -9223372036854775808 ≤ n + a by omega) (by omega), wrap_id (show -9223372036854775808 ≤ n + a - 1 by omega) (by omega), Int.tdiv_eq_ediv_of_nonneg (show 0 ≤ n + a - 1 by omega), wrap_id (show -9223372036854775808 ≤ (n + a - 1) / a by omega) (by omega), wrap_id (show -9223372036854775808 ≤ (n + a - 1) / a - 1 by omega) (by omega), wrap_id (show -9223372036854775808 ≤ (n + a - 1) / a * t by omega) (by omega), wrap_id (show -9223372036854775808 ≤ ((n + a - 1) / a - 1) * c by omega) (by omega), wrap_id (show -9223372036854775808 ≤ mn n a * w by omega) (by omega), wrap_id (by omega) (by omega)]
  · rw [if_neg hs]
    unfold Sized at hs
    repeat' split
    all_goals first | rfl | (exfalso; omega)
theorem courses (a n : Int) (ha : 1 ≤ a) (hn : 1 ≤ n) : (n + 1 + a - 1) / a = (n + a - 1) / a + if n % a = 0 then 1 else 0 := by
  have he : a * (n / a) + n % a = n := Int.mul_ediv_add_emod _ _
  have hr0 : 0 ≤ n % a := Int.emod_nonneg _ (by omega)
  have hr1 : n % a < a := Int.emod_lt_of_pos _ (by omega)
  have f1 : n + 1 + a - 1 = (n % a) + a * (n / a + 1) := by rw [Int.mul_add]; omega
  rw [f1, Int.add_mul_ediv_left _ _ (by omega), Int.ediv_eq_zero_of_lt hr0 hr1]
  by_cases hz : n % a = 0
  · rw [if_pos hz]
    have f2 : n + a - 1 = (a - 1) + a * (n / a) := by omega
    rw [f2, Int.add_mul_ediv_left _ _ (by omega), Int.ediv_eq_zero_of_lt (show 0 ≤ a - 1 by omega) (show a - 1 < a by omega)]
    omega
  · rw [if_neg hz]
    have f2 : n + a - 1 = (n % a - 1) + a * (n / a + 1) := by rw [Int.mul_add]; omega
    rw [f2, Int.add_mul_ediv_left _ _ (by omega), Int.ediv_eq_zero_of_lt (show 0 ≤ n % a - 1 by omega) (show n % a - 1 < a by omega)]
    omega

theorem StackGrows : sawmilllaw32_StackGrows.Pure := by
  intro a b c t w n _ _ _ ht hw _
  refine ⟨52, ?_⟩
  have off : sawmilllaw32_StackGrows.j0 52 n true a b c t w = some true := by
    rw [show (52 : Nat) = 51 + 1 from rfl]
    simp only [sawmilllaw32_StackGrows.j0, if_true, awake_more 51 (by omega), Option.bind_some]
  unfold sawmilllaw32_StackGrows.f
  by_cases h0 : n < 1
  · rw [if_pos h0, off]
  · rw [if_neg h0]
    by_cases h1 : n > 100
    · rw [decide_eq_true h1, off]
    · rw [decide_eq_false h1, show (52 : Nat) = 50 + 1 + 1 from rfl]
      simp only [sawmilllaw32_StackGrows.j0, sawmilllaw32_shape.f, Option.bind_some]
      rw [if_neg (by decide), wrap_id (show -9223372036854775808 ≤ n + 1 by omega) (by omega)]
      by_cases hs : Shaped a b c
      · have h' := hs
        unfold Shaped at h'
        have hm := mul_small h'.1 h'.2.1 h'.2.2.1 h'.2.2.2.1
        rw [size_eq _ _ _ _ _ _ _ _ _ _ _ hs, size_eq _ _ _ _ _ _ _ _ _ _ _ hs]
        simp only [Option.bind_some, sawmilllaw32_StackGrows.j1, rcheck_eq, if_pos hs, if_true, awake_more 50 (by omega)]
        by_cases g : Sized a b t w n
        · rw [if_pos g]
          simp only [if_true]
          by_cases g2 : Sized a b t w (n + 1)
          · rw [if_pos g2]
            simp only [if_true]
            have hk := courses a n h'.1 (by omega)
            obtain ⟨g1, g2, g3, g4, g5, g6⟩ := g
            have hk0 : 1 ≤ (n + a - 1) / a := by
              rw [Int.le_ediv_iff_mul_le (by omega)]
              omega
            have hk1 : (n + a - 1) / a ≤ 100 := by
              have := Int.ediv_le_self a (show 0 ≤ n + a - 1 by omega)
              omega
            have hkt : 0 ≤ (n + a - 1) / a * t ∧ (n + a - 1) / a * t ≤ 60000 := ⟨Int.mul_nonneg (by omega) (by omega), by have : (n + a - 1) / a * t ≤ 100 * 600 := Int.mul_le_mul hk1 (by omega) (by omega) (by omega); omega⟩
            have hkc : 0 ≤ ((n + a - 1) / a - 1) * c ∧ ((n + a - 1) / a - 1) * c ≤ 5000 := ⟨Int.mul_nonneg (by omega) (by omega), by have : ((n + a - 1) / a - 1) * c ≤ 100 * 50 := Int.mul_le_mul (by omega) (by omega) (by omega) (by omega); omega⟩
            have hnw : 0 ≤ n * w ∧ n * w ≤ 60000 := ⟨Int.mul_nonneg (by omega) (by omega), by have : n * w ≤ 100 * 600 := Int.mul_le_mul (by omega) (by omega) (by omega) (by omega); omega⟩
            by_cases g7 : n < a
            · rw [if_pos g7]
              have e1 : mn n a = n := by unfold mn; split <;> omega
              have e2 : mn (n + 1) a = n + 1 := by unfold mn; split <;> omega
              have e3 : ¬ n % a = 0 := by rw [Int.emod_eq_of_lt (by omega) g7]; omega
              rw [if_neg e3] at hk
              rw [e1, e2, hk, Int.add_zero, wrap_id (by omega) (by omega), if_pos (by rw [Int.add_mul, Int.one_mul])]
              simp
            · rw [if_neg g7, if_neg (show ¬ a = 0 by omega), Int.tmod_eq_emod_of_nonneg (by omega)]
              have e1 : mn n a = a := by unfold mn; split <;> omega
              have e2 : mn (n + 1) a = a := by unfold mn; split <;> omega
              rw [e1, e2, hk]
              by_cases g8 : n % a = 0
              · rw [if_pos g8, if_pos g8, if_pos rfl, wrap_id (show -9223372036854775808 ≤ (n + a - 1) / a * t + ((n + a - 1) / a - 1) * c + t by omega) (by omega), wrap_id (by omega) (by omega), if_pos]
                rw [Int.add_mul, Int.one_mul]
                have : ((n + a - 1) / a + 1 - 1) * c = ((n + a - 1) / a - 1) * c + c := by
                  rw [show (n + a - 1) / a + 1 - 1 = ((n + a - 1) / a - 1) + 1 by omega, Int.add_mul, Int.one_mul]
                omega
              · rw [if_neg g8, if_neg g8, if_pos rfl, Int.add_zero, if_pos rfl]
          · rw [if_neg g2]
            simp only []
            rw [if_neg (by decide), wrap_id (show -9223372036854775808 ≤ a * b by omega) (by omega), if_pos]
            unfold Sized at g g2
            omega
        · have g2 : ¬ Sized a b t w (n + 1) := by
            unfold Sized at g ⊢
            omega
          rw [if_neg g, if_neg g2]
          simp
      · have e : ∀ n, stack_Size.f a b c ⟨#[]⟩ t w 0 0 [] [] n = some (0, 0, 9) := by
          intro n
          unfold stack_Size.f
          simp only [check_eq, if_neg hs, Option.bind_some]
          rw [if_neg (by decide)]
        rw [e, e]
        simp only [Option.bind_some, sawmilllaw32_StackGrows.j1, rcheck_eq, if_neg hs, awake_more 50 (by omega)]
        simp

end Go.Proofs.Ytimdlmdaiemjlaa.Pure
