/- Yields as plain numbers: what is in range, what is balanced. Plain Lean, with no program in sight. -/
import Derived.Test.YtcjhegiidnjepaaFa
namespace Go.Proofs.Ytcjhegiidnjepaa.Ev.Plain
set_option linter.unusedVariables false
set_option linter.unusedSimpArgs false
abbrev Yl := Int × Int × Int × Int × Int
def Fits (n : Int) : Prop := 0 ≤ n ∧ n ≤ 2305843009213693952
instance (n : Int) : Decidable (Fits n) := by unfold Fits; infer_instance
def Wi (a : Yl) : Prop := Fits a.1 ∧ Fits a.2.1 ∧ Fits a.2.2.1 ∧ Fits a.2.2.2.1 ∧ -2305843009213693952 ≤ a.2.2.2.2 ∧ a.2.2.2.2 ≤ 2305843009213693952
instance (a : Yl) : Decidable (Wi a) := by unfold Wi; infer_instance
def In64 (n : Int) : Prop := -9223372036854775808 ≤ n ∧ n ≤ 9223372036854775807
theorem in64 {n : Int} (h : (Lit.int .i64 n).wf = true) : In64 n := by
  have : (Lit.int .i64 n).wf = true ↔ In64 n := by
    unfold Lit.wf In64
    simp [IntKind.min, IntKind.max, IntKind.signed, IntKind.bits]
    try omega
  exact this.1 h
theorem within_eq (n : Nat) (a : Yl) : f26 n a = some (decide (Wi a)) := by
  simp only [f26, f26G]
  rw [f26L2_at n _ a _ _ (by simp) (by simp)]
  simp only [f26L2F, f26L2B]
  by_cases h1 : a.1 < 0
  · simp only [h1, decide_true, cond_true]; congr 1; symm; apply decide_eq_false; unfold Wi Fits; omega
  by_cases h2 : a.1 > 2305843009213693952
  · simp only [h1, h2, decide_true, decide_false, cond_true, cond_false]; congr 1; symm; apply decide_eq_false; unfold Wi Fits; omega
  by_cases h3 : a.2.1 < 0
  · simp only [h1, h2, h3, decide_true, decide_false, cond_true, cond_false]; congr 1; symm; apply decide_eq_false; unfold Wi Fits; omega
  by_cases h4 : a.2.1 > 2305843009213693952
  · simp only [h1, h2, h3, h4, decide_true, decide_false, cond_true, cond_false]; congr 1; symm; apply decide_eq_false; unfold Wi Fits; omega
  by_cases h5 : a.2.2.1 < 0
  · simp only [h1, h2, h3, h4, h5, decide_true, decide_false, cond_true, cond_false]; congr 1; symm; apply decide_eq_false; unfold Wi Fits; omega
  by_cases h6 : a.2.2.1 > 2305843009213693952
  · simp only [h1, h2, h3, h4, h5, h6, decide_true, decide_false, cond_true, cond_false]; congr 1; symm; apply decide_eq_false; unfold Wi Fits; omega
  by_cases h7 : a.2.2.2.1 < 0
  · simp only [h1, h2, h3, h4, h5, h6, h7, decide_true, decide_false, cond_true, cond_false]; congr 1; symm; apply decide_eq_false; unfold Wi Fits; omega
  by_cases h8 : a.2.2.2.1 > 2305843009213693952
  · simp only [h1, h2, h3, h4, h5, h6, h7, h8, decide_true, decide_false, cond_true, cond_false]; congr 1; symm; apply decide_eq_false; unfold Wi Fits; omega
  simp only [h1, h2, h3, h4, h5, h6, h7, h8, decide_true, decide_false, cond_true, cond_false]
  by_cases h9 : (-2305843009213693952 : Int) ≤ a.2.2.2.2
  · simp only [h9, decide_true, cond_true]
    congr 1
    by_cases h10 : a.2.2.2.2 ≤ 2305843009213693952
    · rw [decide_eq_true h10]; symm; apply decide_eq_true; unfold Wi Fits; omega
    · rw [decide_eq_false h10]; symm; apply decide_eq_false; unfold Wi Fits; omega
  · simp only [h9, decide_false, cond_false]
    congr 1; symm; apply decide_eq_false; unfold Wi Fits; omega
def Bal (a : Yl) : Prop := Fits a.1 ∧ Fits a.2.1 ∧ Fits a.2.2.1 ∧ Fits a.2.2.2.1 ∧ a.1 - a.2.1 - a.2.2.1 = a.2.2.2.1
instance (a : Yl) : Decidable (Bal a) := by unfold Bal; infer_instance
theorem balanced_eq (n : Nat) (a : Yl) : f12 n a = some (decide (Bal a)) := by
  simp only [f12, f12G, within_eq, Option.isSome_some, chk_true, Option.getD_some]
  by_cases h : Wi (a.1, a.2.1, a.2.2.1, a.2.2.2.1, 0)
  · rw [decide_eq_true h]
    simp only [cond_true]
    unfold Wi Fits at h
    simp only at h
    rw [wrap_of (n := a.1 - a.2.1) (by omega) (by omega), wrap_of (by omega) (by omega)]
    congr 1
    by_cases he : a.1 - a.2.1 - a.2.2.1 = a.2.2.2.1
    · rw [he, decide_eq_true (by unfold Bal Fits; omega)]; simp
    · rw [decide_eq_false (by unfold Bal; exact fun h => he h.2.2.2.2)]; simpa using he
  · rw [decide_eq_false h]
    simp only [cond_false]
    congr 1; symm; apply decide_eq_false
    intro hb
    apply h
    unfold Bal Fits at hb
    unfold Wi Fits
    simp only
    omega
def Sum (a b : Yl) : Yl := (a.1 + b.1, a.2.1 + b.2.1, a.2.2.1 + b.2.2.1, a.2.2.2.1 + b.2.2.2.1, a.2.2.2.2 + b.2.2.2.2)
theorem add_eq (n : Nat) (a b : Yl) : f18 n a b = some (if Wi a ∧ Wi b then (Sum a b, 0) else ((0, 0, 0, 0, 0), 9)) := by
  simp only [f18, f18G, within_eq, Option.isSome_some, chk_true, Option.getD_some]
  by_cases ha : Wi a
  · by_cases hb : Wi b
    · rw [if_pos ⟨ha, hb⟩, decide_eq_true ha, decide_eq_true hb]
      simp only [Bool.not_true, cond_false]
      unfold Wi Fits at ha hb
      rw [wrap_of (n := a.1 + b.1) (by omega) (by omega), wrap_of (n := a.2.1 + b.2.1) (by omega) (by omega), wrap_of (n := a.2.2.1 + b.2.2.1) (by omega) (by omega), wrap_of (n := a.2.2.2.1 + b.2.2.2.1) (by omega) (by omega), wrap_of (n := a.2.2.2.2 + b.2.2.2.2) (by omega) (by omega)]
      rfl
    · rw [if_neg (fun h => hb h.2), decide_eq_true ha, decide_eq_false hb]; rfl
  · rw [if_neg (fun h => ha h.1), decide_eq_false ha]; rfl
end Go.Proofs.Ytcjhegiidnjepaa.Ev.Plain
