/- The sum of two yields, their balance and their recovery, as the program and as the reference compute them, are the same. Plain Lean, with no program in sight. -/
import Derived.Test.YtcjhegiidnjepaaPureYRec2
namespace Go.Proofs.Ytcjhegiidnjepaa.Ev.Plain
set_option linter.unusedVariables false
set_option linter.unusedSimpArgs false
set_option maxRecDepth 100000
theorem recA (n : Nat) (a : Yl) (h : ¬ Bal a) : f21 n a = some 0 := by
  unfold f21 f21G
  rw [balR_eq, decide_eq_false h]
  rfl
theorem recB (n : Nat) (a : Yl) (h : Bal a) (h0 : a.1 = 0) : f21 n a = some 0 := by
  unfold f21 f21G
  rw [balR_eq, decide_eq_true h]
  have z : (a.1 == 0) = true := by simpa using h0
  simp only [Bool.not_true, cond_false, z, cond_true]
theorem recC (n : Nat) (a : Yl) (lp : Yl → Int → Int → Int → (Int → Option Int) → Option Int) (h : Bal a) (h0 : a.1 ≠ 0) (hb1 : 0 ≤ a.2.1) : f21G n a lp = lp a (IntKind.i64.wrap (a.2.1 / a.1)) (a.2.1 % a.1) 0 (fun v => some v) := by
  unfold f21G
  rw [balR_eq, decide_eq_true h]
  have z : (a.1 == 0) = false := by simpa using h0
  simp only [Bool.not_true, cond_false, z]
  rw [decide_eq_false h0]
  simp only [Bool.not_false, chk_true]
  rw [Int.tdiv_eq_ediv_of_nonneg hb1, Int.tmod_eq_emod_of_nonneg hb1]
theorem recoveryR_eq (n : Nat) (hn : 4 ≤ n) (a : Yl) : f21 n a = some (Rec a) := by
  unfold Rec
  by_cases h : Bal a
  · by_cases h0 : a.1 = 0
    · rw [recB n a h h0, if_neg (fun q => q.2 h0)]
    · rw [if_pos ⟨h, h0⟩]
      have hB := h
      unfold Bal Fits at h
      have hL0 : 0 < a.1 := by omega
      have hb1 : a.2.1 / a.1 < 2 := Int.ediv_lt_of_lt_mul hL0 (by omega)
      have hb0 : 0 ≤ a.2.1 / a.1 := Int.ediv_nonneg (by omega) (by omega)
      have hC := recC n a (fun a0 => f21L5 n a0 (n + 8)) hB h0 (by omega)
      rw [wrap_of (n := a.2.1 / a.1) (by omega) (by omega)] at hC
      exact hC.trans (digits_eq n hn a (n + 8) (by omega) hL0 (by omega) (by omega) (by omega))
  · rw [recA n a h, if_neg (fun q => h q.1)]
theorem YieldAdds : YieldAddsLaw := by
  intro a b ha hb
  refine ⟨4, ?_⟩
  simp only [f6, f6G, add_eq, addR_eq, balanced_eq, balR_eq, recovery_eq, recoveryR_eq 4 (by decide), Option.isSome_some, chk_true, Option.getD_some, beq_self_eq_true, Bool.and_true, cond_true]
end Go.Proofs.Ytcjhegiidnjepaa.Ev.Plain
