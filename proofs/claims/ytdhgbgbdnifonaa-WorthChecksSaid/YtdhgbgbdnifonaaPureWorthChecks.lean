/- The two checks of saws and rates agree. -/
import Derived.Test.YtdhgbgbdnifonaaFCa
namespace Go.Proofs.Ytdhgbgbdnifonaa.Ev.Plain
theorem WorthChecks : WorthChecksLaw := by
  intro a0 a1 _ _
  have e : ∀ a b c, f30 a b c = f29 a b c := fun _ _ _ => rfl
  have h : f11 a0 a1 = f12 a0 a1 := by
    unfold f11 f12
    simp only [e]
    cases f29 a0.1 0 20
    · rfl
    cases f29 a0.2.1 0 20
    · rfl
    cases f29 a0.2.2.1 1 2000
    · rfl
    cases f29 a0.2.2.2 1 20000
    · rfl
    cases f29 a1.1 0 1000
    · rfl
    cases f29 a1.2.1 0 1000
    · rfl
    cases f29 a1.2.2 0 1000000 <;> rfl
  unfold f3
  simp [h]
end Go.Proofs.Ytdhgbgbdnifonaa.Ev.Plain
