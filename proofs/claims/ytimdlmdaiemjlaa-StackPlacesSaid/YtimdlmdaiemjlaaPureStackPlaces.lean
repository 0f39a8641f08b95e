/- Check and Place answer as the reference for any shape and index: the plain law of StackPlaces. -/
import Derived.Test.YtimdlmdaiemjlaaPStackPlacesx5
namespace Go.Proofs.Ytimdlmdaiemjlaa.Pure
open Go.RowKit Go.Proofs.Ytimdlmdaiemjlaa.PStackPlaces Go.Proofs.YtimdlmdaiemjlaaW.PrintWords Go.Proofs.YtimdlmdaiemjlaaW.PrintLast
set_option linter.unusedVariables false
set_option linter.unusedSimpArgs false

theorem wrap_id {n : Int} (h0 : -9223372036854775808 ≤ n) (h1 : n ≤ 9223372036854775807) : wrap64 n = n := by unfold wrap64; omega
theorem mul_small {a b : Int} (h0 : 1 ≤ a) (h1 : a ≤ 8) (h2 : 1 ≤ b) (h3 : b ≤ 8) : 1 ≤ a * b ∧ a * b ≤ 64 := by
  have h : a = 1 ∨ a = 2 ∨ a = 3 ∨ a = 4 ∨ a = 5 ∨ a = 6 ∨ a = 7 ∨ a = 8 := by omega
  rcases h with h | h | h | h | h | h | h | h <;> subst h <;> omega
def Shaped (a b c : Int) : Prop := 1 ≤ a ∧ a ≤ 8 ∧ 1 ≤ b ∧ b ≤ 8 ∧ 0 ≤ c ∧ c ≤ 50
instance (a b c : Int) : Decidable (Shaped a b c) := by unfold Shaped; exact inferInstance
theorem between_eq (n l h : Int) : stack_between.f n l h = some (decide (l ≤ n ∧ n ≤ h)) := by
  unfold stack_between.f
  by_cases h1 : n ≥ l
  · rw [if_pos h1]; simp [h1]
  · rw [if_neg h1]; simp; omega
theorem check_eq (a b c : Int) : stack_Check.f a b c = some (if Shaped a b c then 0 else 9) := by
  unfold stack_Check.f
  simp only [between_eq, Option.bind_some, decide_eq_true_eq]
  by_cases hs : Shaped a b c
  · rw [if_pos hs]
    unfold Shaped at hs
    rw [if_pos (by omega), if_pos (by omega), if_pos (by omega)]
  · rw [if_neg hs]
    unfold Shaped at hs
    repeat' split
    all_goals first | rfl | (exfalso; omega)
theorem full_eq (a b c : Int) (h : Shaped a b c) : stack_full.f a b c = some (a * b) := by
  unfold stack_full.f
  unfold Shaped at h
  have := mul_small h.1 h.2.1 h.2.2.1 h.2.2.2.1
  rw [wrap_id (by omega) (by omega)]

theorem rcheck_eq (a b c : Int) : sawmillref32_Check.f a b c = some (if Shaped a b c then 0 else 9) := by
  unfold sawmillref32_Check.f
  by_cases hs : Shaped a b c
  · rw [if_pos hs]
    unfold Shaped at hs
    repeat' split
    all_goals first | rfl | (exfalso; omega)
  · rw [if_neg hs]
    unfold Shaped at hs
    repeat' split
    all_goals first | rfl | (exfalso; omega)

theorem place_eq (a b c i : Int) (h : Shaped a b c) : stack_Place.f a b c i = some (if 0 ≤ i ∧ i < a * b then (wrap64 (Int.tdiv i a), Int.tmod i a, 0) else (0, 0, 9)) := by
  have hf := full_eq a b c h
  have h' := h
  unfold Shaped at h'
  have := mul_small h'.1 h'.2.1 h'.2.2.1 h'.2.2.2.1
  unfold stack_Place.f
  simp only [check_eq, if_pos h, Option.bind_some, hf, between_eq, if_true, decide_eq_true_eq, wrap_id (show -9223372036854775808 ≤ a * b - 1 by omega) (show a * b - 1 ≤ 9223372036854775807 by omega)]
  by_cases hi : 0 ≤ i ∧ i < a * b
  · rw [if_pos hi, if_pos (by omega), if_neg (by omega)]
  · rw [if_neg hi, if_neg (by omega)]

theorem awake_true : sawmilllaw32_awake.f 30 = some true := by decide +kernel

theorem StackPlaces : sawmilllaw32_StackPlaces.Pure := by
  intro a b c i ha hb hc hi
  refine ⟨30, ?_⟩
  unfold sawmilllaw32_StackPlaces.f sawmilllaw32_shape.f sawmillref32_Place.f
  simp only [Option.bind_some, awake_true, check_eq, rcheck_eq]
  by_cases hs : Shaped a b c
  · have hs' := hs
    unfold Shaped at hs'
    have := mul_small hs'.1 hs'.2.1 hs'.2.2.1 hs'.2.2.2.1
    have hw' : wrap64 (a * b) = a * b := wrap_id (by omega) (by omega)
    rw [place_eq a b c i hs]
    simp only [if_pos hs, hw', if_true, Option.bind_some]
    by_cases h1 : 0 ≤ i ∧ i < a * b
    · rw [if_pos h1, if_neg (show ¬ i < 0 by omega), if_neg (show ¬ i ≥ a * b by omega), if_neg (show ¬ a = 0 by omega)]
      simp
    · rw [if_neg h1]
      by_cases h2 : i < 0
      · rw [if_pos h2]; simp
      · rw [if_neg h2, if_pos (show i ≥ a * b by omega)]; simp
  · unfold stack_Place.f
    simp [if_neg hs, check_eq]

end Go.Proofs.Ytimdlmdaiemjlaa.Pure
