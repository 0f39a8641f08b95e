/- Accept and Worth of the program and of the reference agree. -/
import Derived.Test.YtdhgbgbdnifonaaPureWWorth
namespace Go.Proofs.Ytdhgbgbdnifonaa.Ev.Plain
set_option linter.unusedVariables false
set_option linter.unusedSimpArgs false
abbrev Giv := List Slc × List Def × ByteArray × Int × Int × Int × Int × List Int × List Int × Int
abbrev proOf (g : Giv) : Pro := (g.2.2.1, g.2.2.2.1, g.2.2.2.2.1, g.2.2.2.2.2.1, g.2.2.2.2.2.2.1, g.2.2.2.2.2.2.2.1, g.2.2.2.2.2.2.2.2.1)
theorem f17_eq {n : Nat} (hn : 200 ≤ n) (g : Giv) (b : Box) : f17 n g b = some (worthOf g.1 g.2.1 (proOf g) b g.2.2.2.2.2.2.2.2.2) := by
  unfold f17 f17G
  simp only [f37_eq hn, Option.isSome_some, Option.getD_some, chk_true]
theorem f19_eq {n : Nat} (hn : 200 ≤ n) (l : List Slc) (d : List Def) (p : Pro) (b : Box) : f19 n l d p b = some (worthOf l d p b 0).2 := by
  unfold f19 f19G
  simp only [f37_eq hn, Option.isSome_some, Option.getD_some, chk_true]
theorem f20_eq' {n : Nat} (hn : 200 ≤ n) (l : List Slc) (d : List Def) (p : Pro) (b : Box) : f20 n l d p b = some (worthOf l d p b 0).2 := by
  obtain ⟨q, h1, h2⟩ := f20_eq hn l d p b
  rw [h1]
  congr 1
  rw [Bool.eq_iff_iff, h2, worth_ok]
  exact ⟨fun h => ⟨⟨by omega, by omega⟩, h.1, h.2⟩, fun h => ⟨h.2.1, h.2.2⟩⟩
theorem WorthAccepts : WorthAcceptsLaw := by
  intro g b _ _
  refine ⟨200, ?_⟩
  unfold f5 f5G
  have q18 := f18_eq (Nat.le_refl 200) g.1 g.2.1 (proOf g) b g.2.2.2.2.2.2.2.2.2
  have q19 := f19_eq (Nat.le_refl 200) g.1 g.2.1 (proOf g) b
  have q20 := f20_eq' (Nat.le_refl 200) g.1 g.2.1 (proOf g) b
  simp only [proOf] at q18 q19 q20
  simp only [small_eq (Nat.le_refl 200), f17_eq (Nat.le_refl 200), q18, q19, q20, Option.isSome_some, Option.getD_some, chk_true]
  cases smallB g
  · rfl
  · simp
end Go.Proofs.Ytdhgbgbdnifonaa.Ev.Plain
