/- Split answers as the reference for any shape and number of boards: the plain law of StackSplits. -/
import Derived.Test.YtimdlmdaiemjlaaPStackSplitsx5
namespace Go.Proofs.Ytimdlmdaiemjlaa.Pure
open Go.RowKit Go.Proofs.Ytimdlmdaiemjlaa.PStackSplits Go.Proofs.YtimdlmdaiemjlaaW.PrintWords Go.Proofs.YtimdlmdaiemjlaaW.PrintLast
set_option linter.unusedVariables false
set_option linter.unusedSimpArgs false

theorem wrap_id {n : Int} (h0 : -9223372036854775808 ≤ n) (h1 : n ≤ 9223372036854775807) : wrap64 n = n := by unfold wrap64; omega
theorem mul_small {a b : Int} (h0 : 1 ≤ a) (h1 : a ≤ 8) (h2 : 1 ≤ b) (h3 : b ≤ 8) : 1 ≤ a * b ∧ a * b ≤ 64 := by
  have h : a = 1 ∨ a = 2 ∨ a = 3 ∨ a = 4 ∨ a = 5 ∨ a = 6 ∨ a = 7 ∨ a = 8 := by omega
  rcases h with h | h | h | h | h | h | h | h <;> subst h <;> omega
def Shaped (a b c : Int) : Prop := 1 ≤ a ∧ a ≤ 8 ∧ 1 ≤ b ∧ b ≤ 8 ∧ 0 ≤ c ∧ c ≤ 50
instance (a b c : Int) : Decidable (Shaped a b c) := by unfold Shaped; exact inferInstance
theorem between_eq (n l h : Int) : stack_between.f n l h = some (decide (l ≤ n ∧ n ≤ h)) := by
  unfold stack_between.f
  by_cases h1 : n ≥ l
  · rw [if_pos h1]; simp [h1]
  · rw [if_neg h1]; simp; omega
theorem check_eq (a b c : Int) : stack_Check.f a b c = some (if Shaped a b c then 0 else 9) := by
  unfold stack_Check.f
  simp only [between_eq, Option.bind_some, decide_eq_true_eq]
  by_cases hs : Shaped a b c
  · rw [if_pos hs]
    unfold Shaped at hs
    rw [if_pos (by omega), if_pos (by omega), if_pos (by omega)]
  · rw [if_neg hs]
    unfold Shaped at hs
    repeat' split
    all_goals first | rfl | (exfalso; omega)
theorem full_eq (a b c : Int) (h : Shaped a b c) : stack_full.f a b c = some (a * b) := by
  unfold stack_full.f
  unfold Shaped at h
  have := mul_small h.1 h.2.1 h.2.2.1 h.2.2.2.1
  rw [wrap_id (by omega) (by omega)]

theorem rcheck_eq (a b c : Int) : sawmillref32_Check.f a b c = some (if Shaped a b c then 0 else 9) := by
  unfold sawmillref32_Check.f
  by_cases hs : Shaped a b c
  · rw [if_pos hs]
    unfold Shaped at hs
    repeat' split
    all_goals first | rfl | (exfalso; omega)
  · rw [if_neg hs]
    unfold Shaped at hs
    repeat' split
    all_goals first | rfl | (exfalso; omega)

def chunks (F : Int) : Nat → Int → List Int
  | 0, _ => []
  | d + 1, x => if x > 0 then mn x F :: chunks F d (x - mn x F) else []
theorem chunks_len (F : Int) (hF : 1 ≤ F) : ∀ (d : Nat) (x : Int), ((chunks F d x).length : Int) ≤ d
  | 0, _ => by simp [chunks]
  | d + 1, x => by
    unfold chunks
    split
    · have := chunks_len F hF d (x - mn x F)
      simp only [List.length_cons]
      omega
    · simp; omega
theorem mn_le {x F : Int} (h : x > 0) (hF : 1 ≤ F) : 1 ≤ mn x F ∧ mn x F ≤ F ∧ mn x F ≤ x ∧ (x ≤ F → mn x F = x) ∧ (F < x → mn x F = F) := by unfold mn; split <;> omega
theorem split_loop (a b c : Int) (h : Shaped a b c) : ∀ (d k : Nat) (x : Int) (l : List Int), 0 ≤ x → x ≤ d → d < k → l.length + d ≤ 1000 → stack_Split.l0 k x l a b c = some (l ++ chunks (a * b) d x, 0) := by
  intro d
  have h' := h
  unfold Shaped at h'
  have hm := mul_small h'.1 h'.2.1 h'.2.2.1 h'.2.2.2.1
  induction d with
  | zero =>
    intro k x l h0 h1 hk hl
    obtain ⟨k, rfl⟩ : ∃ m, k = m + 1 := ⟨k - 1, by omega⟩
    simp only [stack_Split.l0]
    rw [if_neg (by omega)]
    simp [chunks]
  | succ d ih =>
    intro k x l h0 h1 hk hl
    obtain ⟨k, rfl⟩ : ∃ m, k = m + 1 := ⟨k - 1, by omega⟩
    simp only [stack_Split.l0]
    by_cases hx : x > 0
    · have := mn_le hx hm.1
      rw [if_pos hx, full_eq a b c h]
      simp only [Option.bind_some]
      rw [if_pos (by omega), wrap_id (by omega) (by omega), ih k _ _ (by omega) (by omega) (by omega) (by simp; omega)]
      simp [chunks, hx]
    · rw [if_neg hx]
      simp [chunks, hx]
theorem split_eq (a b c n : Int) (h : Shaped a b c) (h0 : 0 ≤ n) (h1 : n ≤ 512) (k : Nat) (hk : 512 < k) : stack_Split.f k a b c n = some (chunks (a * b) 512 n, 0) := by
  unfold stack_Split.f
  simp only [check_eq, if_pos h, Option.bind_some, between_eq, if_true, decide_eq_true_eq]
  rw [if_pos (by omega), split_loop a b c h 512 k n [] (by omega) (by omega) hk (by simp)]
  simp

theorem awake_true : sawmilllaw32_awake.f 30 = some true := by decide +kernel
theorem rsplit_loop (a b c : Int) (h : Shaped a b c) : ∀ (k : Nat) (x : Int) (l : List Int), sawmillref32_Split.l0 k x l a b c = stack_Split.l0 k x l a b c := by
  intro k
  have h' := h
  unfold Shaped at h'
  have hm := mul_small h'.1 h'.2.1 h'.2.2.1 h'.2.2.2.1
  induction k with
  | zero => intro x l; rfl
  | succ k ih =>
    intro x l
    simp only [stack_Split.l0, sawmillref32_Split.l0, full_eq a b c h, Option.bind_some, ih, wrap_id (show -9223372036854775808 ≤ a * b by omega) (show a * b ≤ 9223372036854775807 by omega)]
theorem ints_self (l : List Int) (hl : (l.length : Int) ≤ 1000) : ∀ (d k : Nat) (i : Int), 0 ≤ i → i ≤ l.length → (l.length : Int) - i = d → d < k → sawmilllaw32_ints.l0 k l l i = some true := by
  intro d
  induction d with
  | zero =>
    intro k i h0 h1 hd hk
    obtain ⟨k, rfl⟩ : ∃ m, k = m + 1 := ⟨k - 1, by omega⟩
    simp only [sawmilllaw32_ints.l0]
    rw [if_neg (by omega)]
  | succ d ih =>
    intro k i h0 h1 hd hk
    obtain ⟨k, rfl⟩ : ∃ m, k = m + 1 := ⟨k - 1, by omega⟩
    simp only [sawmilllaw32_ints.l0]
    rw [if_pos (by omega), if_pos h0, if_pos (by omega), wrap_id (by omega) (by omega)]
    simp only [if_true]
    exact ih k _ (by omega) (by omega) (by omega) (by omega)

theorem StackSplits : sawmilllaw32_StackSplits.Pure := by
  intro a b c n ha hb hc hn
  refine ⟨1100, ?_⟩
  have hw := at_rounds (g := fun k => sawmilllaw32_awake.f k) (sawmilllaw32_awake.mono) (show 30 ≤ 1100 by omega) awake_true
  unfold sawmilllaw32_StackSplits.f sawmilllaw32_shape.f sawmillref32_Split.f
  simp only [Option.bind_some, rcheck_eq, hw]
  by_cases hs : Shaped a b c
  · have h' := hs
    unfold Shaped at h'
    have hm := mul_small h'.1 h'.2.1 h'.2.2.1 h'.2.2.2.1
    simp only [if_pos hs, if_true]
    by_cases h1 : 0 ≤ n ∧ n ≤ 512
    · rw [split_eq a b c n hs h1.1 h1.2 1100 (by omega), if_neg (show ¬ n < 0 by omega)]
      have hl := chunks_len (a * b) hm.1 512 n
      have e : sawmillref32_Split.j0 1100 n (decide (n > 512)) a b c = some (chunks (a * b) 512 n, 0) := by
        rw [show (1100 : Nat) = 1099 + 1 from rfl, sawmillref32_Split.j0, decide_eq_false (by omega), rsplit_loop a b c hs, split_loop a b c hs 512 1099 n [] (by omega) (by omega) (by omega) (by simp)]
        simp
      rw [e]
      simp only [Option.bind_some]
      unfold sawmilllaw32_ints.f
      rw [if_pos rfl, ints_self _ (by omega) (chunks (a * b) 512 n).length 1100 0 (by omega) (by omega) (by omega) (by omega)]
      simp
    · have e : stack_Split.f 1100 a b c n = some ([], 9) := by
        unfold stack_Split.f
        simp only [check_eq, if_pos hs, Option.bind_some, between_eq, if_true, decide_eq_true_eq]
        rw [if_neg h1]
      rw [e]
      have e2 : (if n < 0 then sawmillref32_Split.j0 1100 n true a b c else sawmillref32_Split.j0 1100 n (decide (n > 512)) a b c) = some ([], 9) := by
        rw [show (1100 : Nat) = 1099 + 1 from rfl]
        simp only [sawmillref32_Split.j0, if_true]
        by_cases h2 : n < 0
        · rw [if_pos h2]
        · rw [if_neg h2, if_pos (decide_eq_true (by omega))]
      rw [e2]
      simp only [Option.bind_some]
      unfold sawmilllaw32_ints.f
      rw [if_pos rfl, ints_self [] (by simp) 0 1100 0 (by omega) (by simp) (by simp) (by omega)]
      simp
  · have e : stack_Split.f 1100 a b c n = some ([], 9) := by
      unfold stack_Split.f
      simp only [check_eq, if_neg hs, Option.bind_some]
      rw [if_neg (by decide)]
    rw [e]
    simp only [if_neg hs]
    rw [if_neg (show ¬ (9 : Int) = 0 by decide)]
    rw [show (1100 : Nat) = 1099 + 1 from rfl]
    simp only [sawmillref32_Split.j0, if_true, Option.bind_some]
    unfold sawmilllaw32_ints.f
    rw [if_pos rfl, ints_self [] (by simp) 0 (1099 + 1) 0 (by omega) (by simp) (by simp) (by omega)]
    simp

end Go.Proofs.Ytimdlmdaiemjlaa.Pure
