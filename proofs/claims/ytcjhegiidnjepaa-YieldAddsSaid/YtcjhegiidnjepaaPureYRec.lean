/- The thousandths of a log that become boards: the division of a product of 128 bits, and digit by digit, are the same. Plain Lean, with no program in sight. -/
import Derived.Test.YtcjhegiidnjepaaPureYBase
import Derived.Laws.BitsLemmas
namespace Go.Proofs.Ytcjhegiidnjepaa.Ev.Plain
set_option linter.unusedVariables false
set_option linter.unusedSimpArgs false
set_option maxRecDepth 100000
theorem u64_eq (n : Int) : IntKind.u64.wrap n = n % 18446744073709551616 := by simp [IntKind.wrap, IntKind.bits, IntKind.signed]
theorem u64_id {n : Int} (h0 : 0 ≤ n) (h1 : n < 18446744073709551616) : IntKind.u64.wrap n = n := by rw [u64_eq]; omega
theorem wraps_u64 (n : Int) (h0 : 0 ≤ n) (h1 : n < 2 ^ 64) : IntKind.u64.wrap n = n := u64_id h0 (by simpa using h1)
theorem mask32 (x : Int) (h0 : 0 ≤ x) (h1 : x < 18446744073709551616) : IntKind.u64.wrap ((BitVec.ofInt 64 x &&& BitVec.ofInt 64 4294967295).toNat : Int) = x % 4294967296 := by
  show Go.bits .and .u64 x 4294967295 = x % 4294967296
  have := bits_mask .u64 64 (by decide) wraps_u64 32 (by decide) x h0 (by simpa using h1)
  simpa using this
theorem join_u64 (i : Nat) (x y : Int) (h0 : 0 ≤ x) (h : x % 2 ^ i = 0) (h1 : x < 2 ^ 64) (h2 : 0 ≤ y) (h3 : y < 2 ^ i) (h4 : y < 2 ^ 64) : IntKind.u64.wrap ((BitVec.ofInt 64 x ||| BitVec.ofInt 64 y).toNat : Int) = x + y := by
  exact bits_join .u64 64 (by decide) wraps_u64 i x y h0 h h1 h2 h3 h4
theorem shr32 (x : Int) : x.fdiv (2 ^ min (Int.toNat 32) 64) = x / 4294967296 := by
  show x.fdiv 4294967296 = x / 4294967296
  exact Int.fdiv_eq_ediv_of_nonneg x (by decide)
theorem mul64_eq (y : Int) (h2 : 0 ≤ y) (h3 : y < 9223372036854775808) : f45 1000 y = (1000 * y / 18446744073709551616, 1000 * y % 18446744073709551616) := by
  unfold f45
  simp only [shr32]
  rw [mask32 1000 (by decide) (by decide), mask32 y h2 (by omega)]
  rw [show (1000 : Int) % 4294967296 = 1000 by decide, show (1000 : Int) / 4294967296 = 0 by decide]
  rw [Int.zero_mul, Int.zero_mul]
  have e0 : IntKind.u64.wrap 0 = 0 := by decide
  rw [e0, u64_id (n := 1000 * (y % 4294967296)) (by omega) (by omega), u64_id (n := 0 + 1000 * (y % 4294967296) / 4294967296) (by omega) (by omega), mask32 _ (by omega) (by omega), u64_id (n := 1000 * (y / 4294967296)) (by omega) (by omega)]
  rw [u64_id (n := (0 + 1000 * (y % 4294967296) / 4294967296) % 4294967296 + 1000 * (y / 4294967296)) (by omega) (by omega), u64_id (n := 0 + (0 + 1000 * (y % 4294967296) / 4294967296) / 4294967296) (by omega) (by omega), u64_id (by omega) (by omega), u64_eq]
  congr 1
  omega
theorem mag_eq (y : Int) (h2 : 0 ≤ y) (h3 : y < 9223372036854775808) : f46 y = y := by
  unfold f46
  rw [decide_eq_false (by omega)]
  simp only [cond_false]
  exact u64_id h2 (by omega)
/-! ### The leading zeros -/
def lens : ByteArray := (⟨#[0, 1, 2, 2, 3, 3, 3, 3, 4, 4, 4, 4, 4, 4, 4, 4, 5, 5, 5, 5, 5, 5, 5, 5, 5, 5, 5, 5, 5, 5, 5, 5, 6, 6, 6, 6, 6, 6, 6, 6, 6, 6, 6, 6, 6, 6, 6, 6, 6, 6, 6, 6, 6, 6, 6, 6, 6, 6, 6, 6, 6, 6, 6, 6, 7, 7, 7, 7, 7, 7, 7, 7, 7, 7, 7, 7, 7, 7, 7, 7, 7, 7, 7, 7, 7, 7, 7, 7, 7, 7, 7, 7, 7, 7, 7, 7, 7, 7, 7, 7, 7, 7, 7, 7, 7, 7, 7, 7, 7, 7, 7, 7, 7, 7, 7, 7, 7, 7, 7, 7, 7, 7, 7, 7, 7, 7, 7, 7, 8, 8, 8, 8, 8, 8, 8, 8, 8, 8, 8, 8, 8, 8, 8, 8, 8, 8, 8, 8, 8, 8, 8, 8, 8, 8, 8, 8, 8, 8, 8, 8, 8, 8, 8, 8, 8, 8, 8, 8, 8, 8, 8, 8, 8, 8, 8, 8, 8, 8, 8, 8, 8, 8, 8, 8, 8, 8, 8, 8, 8, 8, 8, 8, 8, 8, 8, 8, 8, 8, 8, 8, 8, 8, 8, 8, 8, 8, 8, 8, 8, 8, 8, 8, 8, 8, 8, 8, 8, 8, 8, 8, 8, 8, 8, 8, 8, 8, 8, 8, 8, 8, 8, 8, 8, 8, 8, 8, 8, 8, 8, 8, 8, 8, 8, 8, 8, 8, 8, 8, 8, 8, 8, 8, 8, 8, 8, 8]⟩ : ByteArray)
def Len8 (v : Nat) : Prop := ∃ k : Nat, k < 8 ∧ (lens.data.getD v 0).toNat = k + 1 ∧ 2 ^ k ≤ v ∧ v < 2 ^ (k + 1)
theorem len8 : ∀ v : Fin 256, 1 ≤ v.val → ∃ k : Fin 8, (lens.data.getD v.val 0).toNat = k.val + 1 ∧ 2 ^ k.val ≤ v.val ∧ v.val < 2 ^ (k.val + 1) := by decide +kernel
theorem len8_of {v : Int} (h0 : 1 ≤ v) (h1 : v < 256) : ∃ k : Nat, k < 8 ∧ (lens.data.getD (Int.toNat v) 0).toNat = k + 1 ∧ (2 : Int) ^ k ≤ v ∧ v < (2 : Int) ^ (k + 1) := by
  obtain ⟨k, h2, h3, h4⟩ := len8 ⟨v.toNat, by omega⟩ (by simp only; omega)
  simp only at h2 h3 h4
  refine ⟨k.val, k.isLt, h2, ?_, ?_⟩
  · have : ((2 ^ k.val : Nat) : Int) ≤ (v.toNat : Int) := by exact_mod_cast h3
    rw [Int.toNat_of_nonneg (by omega)] at this
    simpa using this
  · have : (v.toNat : Int) < ((2 ^ (k.val + 1) : Nat) : Int) := by exact_mod_cast h4
    rw [Int.toNat_of_nonneg (by omega)] at this
    simpa using this
theorem zeros_eq {c : Int} (h0 : 18014398509481984 ≤ c) (h1 : c < 4611686018427387904) : ∃ s : Nat, 1 ≤ s ∧ s ≤ 9 ∧ f60 c = some (s : Int) ∧ 9223372036854775808 ≤ c * 2 ^ s ∧ c * 2 ^ s < 18446744073709551616 := by
  have e32 : c.fdiv (2 ^ min (Int.toNat 32) 64) = c / 4294967296 := shr32 c
  have e16 : ∀ x : Int, x.fdiv (2 ^ min (Int.toNat 16) 64) = x / 65536 := fun x => Int.fdiv_eq_ediv_of_nonneg x (by decide)
  have e8 : ∀ x : Int, x.fdiv (2 ^ min (Int.toNat 8) 64) = x / 256 := fun x => Int.fdiv_eq_ediv_of_nonneg x (by decide)
  have w8 : ∀ x : Int, 0 ≤ x → x < 256 → IntKind.u8.wrap x = x := fun x h0 h1 => wraps_u8 x h0 (by simpa using h1)
  have hsz : ((lens.size : Nat) : Int) = 256 := by decide +kernel
  by_cases hb : c / 4294967296 / 65536 ≥ 256
  · obtain ⟨k, hk, hl, ha, hc⟩ := len8_of (v := c / 4294967296 / 65536 / 256) (by omega) (by omega)
    have hk5 : k < 6 := by
      rcases Nat.lt_or_ge k 6 with h | h
      · exact h
      · exfalso
        have : (2 : Int) ^ 6 ≤ 2 ^ k := by exact_mod_cast Nat.pow_le_pow_right (by decide) h
        have e : (2 : Int) ^ 6 = 64 := by decide
        omega
    refine ⟨64 - (56 + (k + 1)), by omega, by omega, ?_, ?_⟩
    · have hf : f77 c = some (56 + ((k : Int) + 1)) := by
        unfold f77 f77G
        rw [decide_eq_true (show c ≥ 4294967296 by omega)]
        simp only [cond_true, e32, e16, e8]
        rw [decide_eq_true (show c / 4294967296 ≥ 65536 by omega), decide_eq_true hb]
        simp only [cond_true]
        rw [w8 _ (by omega) (by omega), decide_eq_true (show (0 : Int) ≤ c / 4294967296 / 65536 / 256 by omega), chk_true]
        have h2 : decide (c / 4294967296 / 65536 / 256 < ((lens.size : Nat) : Int)) = true := by rw [hsz]; exact decide_eq_true (by omega)
        have h3 : ∀ z : Option Int, chk (decide (c / 4294967296 / 65536 / 256 < ((lens.size : Nat) : Int))) z = z := fun z => by rw [h2]; rfl
        refine (h3 _).trans ?_
        show some (IntKind.i64.wrap (56 + IntKind.i64.wrap (((lens.data.getD (Int.toNat (c / 4294967296 / 65536 / 256)) 0).toNat : Nat) : Int))) = _
        rw [hl, wrap_of (n := ((k + 1 : Nat) : Int)) (by omega) (by omega), wrap_of (by omega) (by omega)]
        simp
      unfold f60 f60G
      rw [hf]
      simp only [Option.isSome_some, chk_true, Option.getD_some]
      rw [wrap_of (by omega) (by omega)]
      congr 1
      omega
    · have hk6 : k = 0 ∨ k = 1 ∨ k = 2 ∨ k = 3 ∨ k = 4 ∨ k = 5 := by omega
      rcases hk6 with rfl | rfl | rfl | rfl | rfl | rfl <;> simp only [Nat.reduceAdd, Nat.reduceSub, Int.reducePow] at ha hc ⊢ <;> omega
  · obtain ⟨k, hk, hl, ha, hc⟩ := len8_of (v := c / 4294967296 / 65536) (by omega) (by omega)
    have hk5 : 6 ≤ k := by
      rcases Nat.lt_or_ge k 6 with h | h
      · exfalso
        have : (2 : Int) ^ (k + 1) ≤ 2 ^ 6 := by exact_mod_cast Nat.pow_le_pow_right (by decide) h
        have e : (2 : Int) ^ 6 = 64 := by decide
        omega
      · exact h
    refine ⟨64 - (48 + (k + 1)), by omega, by omega, ?_, ?_⟩
    · have hf : f77 c = some (48 + ((k : Int) + 1)) := by
        unfold f77 f77G
        rw [decide_eq_true (show c ≥ 4294967296 by omega)]
        simp only [cond_true, e32, e16, e8]
        rw [decide_eq_true (show c / 4294967296 ≥ 65536 by omega), decide_eq_false hb]
        simp only [cond_true, cond_false]
        rw [w8 _ (by omega) (by omega), decide_eq_true (show (0 : Int) ≤ c / 4294967296 / 65536 by omega), chk_true]
        have h2 : decide (c / 4294967296 / 65536 < ((lens.size : Nat) : Int)) = true := by rw [hsz]; exact decide_eq_true (by omega)
        have h3 : ∀ z : Option Int, chk (decide (c / 4294967296 / 65536 < ((lens.size : Nat) : Int))) z = z := fun z => by rw [h2]; rfl
        refine (h3 _).trans ?_
        show some (IntKind.i64.wrap (48 + IntKind.i64.wrap (((lens.data.getD (Int.toNat (c / 4294967296 / 65536)) 0).toNat : Nat) : Int))) = _
        rw [hl, wrap_of (n := ((k + 1 : Nat) : Int)) (by omega) (by omega), wrap_of (by omega) (by omega)]
        simp
      unfold f60 f60G
      rw [hf]
      simp only [Option.isSome_some, chk_true, Option.getD_some]
      rw [wrap_of (by omega) (by omega)]
      congr 1
      omega
    · have hk6 : k = 6 ∨ k = 7 := by omega
      rcases hk6 with rfl | rfl <;> simp only [Nat.reduceAdd, Nat.reduceSub, Int.reducePow] at ha hc ⊢ <;> omega
end Go.Proofs.Ytcjhegiidnjepaa.Ev.Plain
