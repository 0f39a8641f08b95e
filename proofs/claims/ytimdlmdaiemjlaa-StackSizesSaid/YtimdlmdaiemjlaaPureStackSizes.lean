/- Size answers as the reference for any shape, sizes and number of boards: the plain law of StackSizes. -/
import Derived.Test.YtimdlmdaiemjlaaPStackSizesx6
namespace Go.Proofs.Ytimdlmdaiemjlaa.Pure
open Go.RowKit Go.Proofs.Ytimdlmdaiemjlaa.PStackSizes Go.Proofs.YtimdlmdaiemjlaaW.PrintWords Go.Proofs.YtimdlmdaiemjlaaW.PrintLast
set_option linter.unusedVariables false
set_option linter.unusedSimpArgs false

theorem wrap_id {n : Int} (h0 : -9223372036854775808 ≤ n) (h1 : n ≤ 9223372036854775807) : wrap64 n = n := by unfold wrap64; omega
theorem mul_small {a b : Int} (h0 : 1 ≤ a) (h1 : a ≤ 8) (h2 : 1 ≤ b) (h3 : b ≤ 8) : 1 ≤ a * b ∧ a * b ≤ 64 := by
  have h : a = 1 ∨ a = 2 ∨ a = 3 ∨ a = 4 ∨ a = 5 ∨ a = 6 ∨ a = 7 ∨ a = 8 := by omega
  rcases h with h | h | h | h | h | h | h | h <;> subst h <;> omega
def Shaped (a b c : Int) : Prop := 1 ≤ a ∧ a ≤ 8 ∧ 1 ≤ b ∧ b ≤ 8 ∧ 0 ≤ c ∧ c ≤ 50
instance (a b c : Int) : Decidable (Shaped a b c) := by unfold Shaped; exact inferInstance
theorem between_eq (n l h : Int) : stack_between.f n l h = some (decide (l ≤ n ∧ n ≤ h)) := by
  unfold stack_between.f
  by_cases h1 : n ≥ l
  · rw [if_pos h1]; simp [h1]
  · rw [if_neg h1]; simp; omega
theorem check_eq (a b c : Int) : stack_Check.f a b c = some (if Shaped a b c then 0 else 9) := by
  unfold stack_Check.f
  simp only [between_eq, Option.bind_some, decide_eq_true_eq]
  by_cases hs : Shaped a b c
  · rw [if_pos hs]
    unfold Shaped at hs
    rw [if_pos (by omega), if_pos (by omega), if_pos (by omega)]
  · rw [if_neg hs]
    unfold Shaped at hs
    repeat' split
    all_goals first | rfl | (exfalso; omega)
theorem full_eq (a b c : Int) (h : Shaped a b c) : stack_full.f a b c = some (a * b) := by
  unfold stack_full.f
  unfold Shaped at h
  have := mul_small h.1 h.2.1 h.2.2.1 h.2.2.2.1
  rw [wrap_id (by omega) (by omega)]

theorem rcheck_eq (a b c : Int) : sawmillref32_Check.f a b c = some (if Shaped a b c then 0 else 9) := by
  unfold sawmillref32_Check.f
  by_cases hs : Shaped a b c
  · rw [if_pos hs]
    unfold Shaped at hs
    repeat' split
    all_goals first | rfl | (exfalso; omega)
  · rw [if_neg hs]
    unfold Shaped at hs
    repeat' split
    all_goals first | rfl | (exfalso; omega)

theorem awake_true : sawmilllaw32_awake.f 30 = some true := by decide +kernel

theorem StackSizes : sawmilllaw32_StackSizes.Pure := by
  intro a b c t w n ha hb hc ht hw hn
  refine ⟨30, ?_⟩
  unfold sawmilllaw32_StackSizes.f sawmilllaw32_shape.f stack_Size.f sawmillref32_Size.f
  simp only [Option.bind_some, awake_true, check_eq, rcheck_eq]
  by_cases hs : Shaped a b c
  · have hf := full_eq a b c hs
    have hs' := hs
    unfold Shaped at hs'
    have := mul_small hs'.1 hs'.2.1 hs'.2.2.1 hs'.2.2.2.1
    have hw' : wrap64 (a * b) = a * b := wrap_id (by omega) (by omega)
    simp only [if_pos hs, hf, Option.bind_some, between_eq, decide_eq_true_eq, hw', if_true, if_neg (show ¬ a = 0 by omega)]
    by_cases h1 : 1 ≤ t ∧ t ≤ 600
    · rw [if_pos h1, if_neg (show ¬ t < 1 by omega), if_neg (show ¬ t > 600 by omega)]
      by_cases h2 : 1 ≤ w ∧ w ≤ 600
      · rw [if_pos h2, if_neg (show ¬ w < 1 by omega), if_neg (show ¬ w > 600 by omega)]
        by_cases h3 : 1 ≤ n ∧ n ≤ a * b
        · rw [if_pos h3, if_neg (show ¬ n < 1 by omega), if_neg (show ¬ n > a * b by omega)]
          simp
        · rw [if_neg h3]
          by_cases h4 : n < 1
          · rw [if_pos h4]; simp
          · rw [if_neg h4, if_pos (show n > a * b by omega)]; simp
      · rw [if_neg h2]
        by_cases h4 : w < 1
        · rw [if_pos h4]; simp
        · rw [if_neg h4, if_pos (show w > 600 by omega)]; simp
    · rw [if_neg h1]
      by_cases h4 : t < 1
      · rw [if_pos h4]; simp
      · rw [if_neg h4, if_pos (show t > 600 by omega)]; simp
  · simp [if_neg hs]

end Go.Proofs.Ytimdlmdaiemjlaa.Pure
