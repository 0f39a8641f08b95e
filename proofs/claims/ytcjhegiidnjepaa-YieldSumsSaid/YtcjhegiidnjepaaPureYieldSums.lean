/- The sum of balanced yields is balanced, and does not depend on their order. Plain Lean, with no program in sight. -/
import Derived.Test.YtcjhegiidnjepaaPureYBase
namespace Go.Proofs.Ytcjhegiidnjepaa.Ev.Plain
set_option linter.unusedVariables false
set_option linter.unusedSimpArgs false
theorem YieldSums : YieldSumsLaw := by
  intro a b ha hb
  refine ⟨0, ?_⟩
  simp only [f7, f7G, add_eq, balanced_eq, Option.isSome_some, chk_true, Option.getD_some]
  have hs : Sum b a = Sum a b := by simp only [Sum, Int.add_comm]
  by_cases h : Wi a ∧ Wi b
  · rw [if_pos h, if_pos ⟨h.2, h.1⟩, hs]
    simp only [beq_self_eq_true, Bool.and_true, Bool.not_true, cond_false, bne_self_eq_false]
    by_cases hba : Bal a
    · by_cases hbb : Bal b
      · rw [decide_eq_true hba, decide_eq_true hbb]
        simp only [Bool.not_true, cond_false]
        by_cases h1 : a.1 > 1152921504606846976
        · rw [decide_eq_true h1]; rfl
        · rw [decide_eq_false h1]
          by_cases h2 : b.1 > 1152921504606846976
          · rw [decide_eq_true h2]; rfl
          · rw [decide_eq_false h2]
            have hbs : Bal (Sum a b) := by
              unfold Bal Fits at hba hbb
              unfold Bal Fits Sum
              simp only
              omega
            rw [decide_eq_true hbs]
            unfold Bal Fits at hba hbb
            rw [wrap_of (n := a.1 + b.1) (by omega) (by omega)]
            simp [Sum]
      · rw [decide_eq_true hba, decide_eq_false hbb]; rfl
    · rw [decide_eq_false hba]; rfl
  · rw [if_neg h, if_neg (fun q => h ⟨q.2, q.1⟩)]
    simp
end Go.Proofs.Ytcjhegiidnjepaa.Ev.Plain
