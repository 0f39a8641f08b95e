/- What the plain functions of the chapter about worth compute: products and prices. -/
import Derived.Test.YtdhgbgbdnifonaaPureWAcc
namespace Go.Proofs.Ytdhgbgbdnifonaa.Ev.Plain
set_option linter.unusedVariables false
set_option linter.unusedSimpArgs false

/-! ### Green sizes -/
theorem floor_eq {x : Int} (h0 : 0 ≤ x) (h1 : x ≤ 1000000000) : f85 x 1000 = some (x.tdiv 1000, true) := by
  have hd : 0 ≤ x.tdiv 1000 := Int.tdiv_nonneg h0 (by omega)
  have hd2 : x.tdiv 1000 ≤ x := by
    rw [Int.tdiv_eq_ediv_of_nonneg h0]
    omega
  have hm : 0 ≤ x.tmod 1000 := Int.tmod_nonneg _ h0
  have e1 : ((1000 : Int) == 0) = false := rfl
  have e2 : (x == (-9223372036854775808)) = false := by simp; omega
  have e3 : (!decide ((1000 : Int) = 0)) = true := rfl
  have e4 : IntKind.i64.wrap (x.tdiv 1000) = x.tdiv 1000 := wrap_of (by omega) (by omega)
  have e5 : decide (x.tmod 1000 < 0) = false := decide_eq_false (by omega)
  have e6 : decide ((1000 : Int) < 0) = false := rfl
  have e7 : ∀ a b, f94 a b = false := fun _ _ => rfl
  have key : f95i0 x 1000 = some (x.tdiv 1000, true) := by
    unfold f95i0 f95i0G
    simp only [e1, e2, e3, e4, e5, e6, e7, cond_false, cond_true, chk_true]
    cases (x.tmod 1000 != 0) <;> rfl
  unfold f85 f85G
  simp only [key, Option.isSome_some, Option.getD_some, chk_true]
theorem prod_le {a b A B : Int} (h0 : 1 ≤ a) (h1 : a ≤ A) (h2 : 1 ≤ b) (h3 : b ≤ B) : 1 ≤ a * b ∧ a * b ≤ A * B := by
  constructor
  · have := Int.mul_le_mul h0 h2 (by omega) (by omega)
    omega
  · exact Int.mul_le_mul h1 h3 (by omega) (by omega)
theorem f69_eq (p : Pro) : f69 p = some (f57 p) := by
  unfold f69 f69G f57 f77
  simp only [bif_if]
  generalize p.2.1 = t
  generalize p.2.2.1 = w
  generalize p.2.2.2.1 = a
  by_cases h1 : t ≥ 1 ∧ t ≤ 600 ∧ w ≥ 1 ∧ w ≤ 600
  · obtain ⟨t1, t2, w1, w2⟩ := h1
    have m1 : ¬ (if w < t then w else t) < 1 := by split <;> omega
    have m2 : ¬ (if w > t then w else t) > 600 := by split <;> omega
    rw [if_neg m1, if_neg m2]
    have hs : (if t ≥ 1 then if t ≤ 600 then if w ≥ 1 then decide (w ≤ 600) else false else false else false) = true := by rw [if_pos t1, if_pos t2, if_pos w1]; exact decide_eq_true w2
    rw [hs]
    simp only [Bool.not_true, cond_false]
    by_cases h2 : a < 0
    · rw [if_pos h2, if_pos h2]
    rw [if_neg h2, if_neg h2]
    by_cases h3 : a > 200
    · rw [if_pos h3, if_pos h3]
    rw [if_neg h3, if_neg h3]
    have e1 : IntKind.i64.wrap (1000 + a) = 1000 + a := wrap_of (by omega) (by omega)
    obtain ⟨b1, b2⟩ := prod_le (a := t) (b := 1000 + a) (A := 600) (B := 1200) t1 t2 (by omega) (by omega)
    obtain ⟨c1, c2⟩ := prod_le (a := w) (b := 1000 + a) (A := 600) (B := 1200) w1 w2 (by omega) (by omega)
    simp only [e1]
    generalize t * (1000 + a) = x at b1 b2
    generalize w * (1000 + a) = y at c1 c2
    have ex : IntKind.i64.wrap x = x := wrap_of (by omega) (by omega)
    have ey : IntKind.i64.wrap y = y := wrap_of (by omega) (by omega)
    have ex1 : IntKind.i64.wrap (x + 1000) = x + 1000 := wrap_of (by omega) (by omega)
    have ey1 : IntKind.i64.wrap (y + 1000) = y + 1000 := wrap_of (by omega) (by omega)
    have ex2 : IntKind.i64.wrap (x + 1000 - 1) = x + 999 := by rw [wrap_of (by omega) (by omega)]; omega
    have ey2 : IntKind.i64.wrap (y + 1000 - 1) = y + 999 := by rw [wrap_of (by omega) (by omega)]; omega
    have ex3 : IntKind.i64.wrap (x + 999) = x + 999 := wrap_of (by omega) (by omega)
    have ey3 : IntKind.i64.wrap (y + 999) = y + 999 := wrap_of (by omega) (by omega)
    have fx := floor_eq (x := x + 999) (by omega) (by omega)
    have fy := floor_eq (x := y + 999) (by omega) (by omega)
    have dx : 0 ≤ (x + 999).tdiv 1000 ∧ (x + 999).tdiv 1000 ≤ x + 999 := ⟨Int.tdiv_nonneg (by omega) (by omega), by rw [Int.tdiv_eq_ediv_of_nonneg (by omega)]; omega⟩
    have dy : 0 ≤ (y + 999).tdiv 1000 ∧ (y + 999).tdiv 1000 ≤ y + 999 := ⟨Int.tdiv_nonneg (by omega) (by omega), by rw [Int.tdiv_eq_ediv_of_nonneg (by omega)]; omega⟩
    have ex4 : IntKind.i64.wrap ((x + 999).tdiv 1000) = (x + 999).tdiv 1000 := wrap_of (by omega) (by omega)
    have ey4 : IntKind.i64.wrap ((y + 999).tdiv 1000) = (y + 999).tdiv 1000 := wrap_of (by omega) (by omega)
    simp only [ex, ey, ex1, ey1, ex2, ey2, ex3, ey3, fx, fy, ex4, ey4, Option.isSome_some, Option.getD_some, chk_true]
  · have hs : (if t ≥ 1 then if t ≤ 600 then if w ≥ 1 then decide (w ≤ 600) else false else false else false) = false := by
      split
      · split
        · split
          · simp; omega
          · rfl
        · rfl
      · rfl
    rw [hs]
    simp only [Bool.not_false, cond_true]
    by_cases m1 : (if w < t then w else t) < 1
    · rw [if_pos m1]
    · rw [if_neg m1, if_pos]
      by_cases hw : w < t
      · rw [if_pos hw] at m1
        split <;> omega
      · rw [if_neg hw] at m1
        split <;> omega
def sizedB (p : Pro) : Bool := !(decide (p.2.1 < 5) || decide (p.2.1 > 300) || decide (p.2.2.1 < p.2.1) || decide (p.2.2.1 > 600) || decide (p.2.2.2.1 < 0) || decide (p.2.2.2.1 > 200) || decide (p.2.2.2.2.1 < 0) || decide (p.2.2.2.2.1 > 1000) || decide ((f57 p).2 > 600))
theorem f83_eq (p : Pro) : f83 p = some (sizedB p) := by
  unfold f83 f83G sizedB
  simp only [f69_eq, Option.isSome_some, Option.getD_some, chk_true]
  cases decide (p.2.1 < 5)
  case true => rfl
  cases decide (p.2.1 > 300)
  case true => rfl
  cases decide (p.2.2.1 < p.2.1)
  case true => rfl
  cases decide (p.2.2.1 > 600)
  case true => rfl
  cases decide (p.2.2.2.1 < 0)
  case true => rfl
  cases decide (p.2.2.2.1 > 200)
  case true => rfl
  cases decide (p.2.2.2.2.1 < 0)
  case true => rfl
  cases decide (p.2.2.2.2.1 > 1000)
  case true => rfl
  simp only [cond_false, Bool.false_or]
  by_cases h : (f57 p).2 ≤ 600
  · have h' : ¬ (f57 p).2 > 600 := by omega
    simp [h]
  · have h' : (f57 p).2 > 600 := by omega
    simp [h, h']
/-! ### Lengths and prices -/
def lckL (lens : List Int) : List Int → Nat → Int
  | [], _ => 0
  | x :: r, j => if x < 100 then 9 else if x > 20000 then 9 else if 0 < j ∧ x ≤ lens.getD (j - 1) 0 then 11 else lckL lens r (j + 1)
theorem f84L9_lck (n : Nat) (p : Pro) (hl : p.2.2.2.2.2.1.length < 1000) (kret : Int → Option Int) (k1 : Option Int) : ∀ (r : List Int) (j : Nat), p.2.2.2.2.2.1.drop j = r → f84L9F n p kret k1 r j = if lckL p.2.2.2.2.2.1 r j = 0 then k1 else kret (lckL p.2.2.2.2.2.1 r j)
  | [], j, _ => rfl
  | x :: r, j, h => by
    obtain ⟨h1, h2, h3⟩ := drop_cons h
    simp only [f84L9F, f84L9B, f84L9_lck n p hl kret k1 r (j + 1) h3, bif_if]
    by_cases c1 : x < 100
    · have e : lckL p.2.2.2.2.2.1 (x :: r) j = 9 := by simp [lckL, c1]
      rw [e, if_pos c1]
      rfl
    by_cases c2 : x > 20000
    · have e : lckL p.2.2.2.2.2.1 (x :: r) j = 9 := by simp [lckL, c1, c2]
      rw [e, if_neg c1, if_pos c2]
      rfl
    rw [if_neg c1, if_neg c2]
    by_cases c3 : (j : Int) > 0
    · have e1 : IntKind.i64.wrap ((j : Int) - 1) = ((j - 1 : Nat) : Int) := by rw [wrap_of (by omega) (by omega)]; omega
      have e2 : decide ((0 : Int) ≤ ((j - 1 : Nat) : Int)) = true := decide_eq_true (by omega)
      have e3 : decide (((j - 1 : Nat) : Int) < (p.2.2.2.2.2.1.length : Int)) = true := decide_eq_true (by omega)
      rw [if_pos c3]
      simp only [e1, e2, e3, chk_true, Int.toNat_natCast]
      have hj : 0 < j := by omega
      by_cases c4 : x ≤ p.2.2.2.2.2.1.getD (j - 1) 0
      · have e : lckL p.2.2.2.2.2.1 (x :: r) j = 11 := by
          simp only [lckL]
          rw [if_neg c1, if_neg c2, if_pos ⟨hj, c4⟩]
        rw [e, if_pos c4]
        rfl
      · have e : lckL p.2.2.2.2.2.1 (x :: r) j = lckL p.2.2.2.2.2.1 r (j + 1) := by
          simp only [lckL]
          rw [if_neg c1, if_neg c2, if_neg (fun h => c4 h.2)]
        rw [e, if_neg c4]
    · have e : lckL p.2.2.2.2.2.1 (x :: r) j = lckL p.2.2.2.2.2.1 r (j + 1) := by
        simp only [lckL]
        rw [if_neg c1, if_neg c2, if_neg (fun h => c3 (by omega))]
      rw [e, if_neg c3]
theorem f76L8_lck (n : Nat) (p : Pro) (kret : Int → Option Int) (k1 : Option Int) : ∀ (r : List Int) (j : Nat), f76L8F n p kret k1 r j = f84L9F n p kret k1 r j
  | [], j => rfl
  | x :: r, j => by
    show f76L8B n p x (j : Int) (f76L8F n p kret k1 r (j + 1)) kret k1 = f84L9B n p x (j : Int) (f84L9F n p kret k1 r (j + 1)) kret k1
    rw [f76L8_lck n p kret k1 r (j + 1)]
    rfl
def dearB (x : Int) : Bool := decide (x < 0) || decide (x > 1000000)
theorem f84L17_any (n : Nat) (p : Pro) (kret k3 : Option Int) : ∀ (r : List Int) (j : Nat), f84L17F n p kret k3 r j = bif r.any dearB then kret else k3
  | [], j => rfl
  | x :: r, j => by
    simp only [f84L17F, f84L17B, f84L17_any n p kret k3 r (j + 1), List.any_cons, dearB]
    cases decide (x < 0) <;> cases decide (x > 1000000) <;> rfl
theorem f76L15_any (n : Nat) (p : Pro) (kret k3 : Option Int) : ∀ (r : List Int) (j : Nat), f76L15F n p kret k3 r j = bif r.any dearB then kret else k3
  | [], j => rfl
  | x :: r, j => by
    simp only [f76L15F, f76L15B, f76L15_any n p kret k3 r (j + 1), List.any_cons, dearB]
    cases decide (x < 0) <;> cases decide (x > 1000000) <;> rfl
def lCk (p : Pro) : Int := if p.2.2.2.2.2.1.length = 0 then 3 else if p.2.2.2.2.2.1.length > 8 then 4 else if p.2.2.2.2.2.1.length ≠ p.2.2.2.2.2.2.length then 19 else if lckL p.2.2.2.2.2.1 p.2.2.2.2.2.1 0 ≠ 0 then lckL p.2.2.2.2.2.1 p.2.2.2.2.2.1 0 else bif p.2.2.2.2.2.2.any dearB then 9 else 0
theorem f84_eq {n : Nat} (hn : 200 ≤ n) (p : Pro) : f84 n p = some (lCk p) := by
  unfold f84 f84G lCk
  by_cases c1 : p.2.2.2.2.2.1.length = 0
  · have e : ((p.2.2.2.2.2.1.length : Int) == 0) = true := by rw [c1]; rfl
    rw [e, if_pos c1, cond_true]
  have e : ((p.2.2.2.2.2.1.length : Int) == 0) = false := by simp only [beq_eq_false_iff_ne, ne_eq]; omega
  rw [e, if_neg c1, cond_false, bif_if]
  by_cases c2 : (p.2.2.2.2.2.1.length : Int) > 8
  · rw [if_pos c2, if_pos (by omega)]
  rw [if_neg c2, if_neg (by omega)]
  by_cases c3 : p.2.2.2.2.2.1.length = p.2.2.2.2.2.2.length
  · have e3 : ((p.2.2.2.2.2.1.length : Int) != (p.2.2.2.2.2.2.length : Int)) = false := by rw [c3]; simp
    simp only [e3, cond_false]
    rw [if_neg (show ¬ p.2.2.2.2.2.1.length ≠ p.2.2.2.2.2.2.length by simp [c3]), f84L9_at n p _ _ (by omega) (by omega), f84L9_lck n p (by omega) _ _ p.2.2.2.2.2.1 0 rfl, f84L17_at n p _ _ (by omega) (by omega), f84L17_any]
    by_cases c4 : lckL p.2.2.2.2.2.1 p.2.2.2.2.2.1 0 = 0
    · rw [if_pos c4, if_neg (by simp [c4])]
      cases p.2.2.2.2.2.2.any dearB <;> rfl
    · rw [if_neg c4, if_pos c4]
  · have e3 : ((p.2.2.2.2.2.1.length : Int) != (p.2.2.2.2.2.2.length : Int)) = true := by simp only [bne_iff_ne, ne_eq]; omega
    simp only [e3, cond_true]
    rw [if_pos c3]
theorem f76_eq {n : Nat} (hn : 200 ≤ n) (p : Pro) : f76 n p = some (lCk p) := by
  rw [← f84_eq hn p]
  unfold f76 f76G f84 f84G
  by_cases c1 : p.2.2.2.2.2.1.length = 0
  · have e : ((p.2.2.2.2.2.1.length : Int) == 0) = true := by rw [c1]; rfl
    rw [e, cond_true, cond_true]
  have e : ((p.2.2.2.2.2.1.length : Int) == 0) = false := by simp only [beq_eq_false_iff_ne, ne_eq]; omega
  rw [e, cond_false, cond_false, bif_if, bif_if]
  by_cases c2 : (p.2.2.2.2.2.1.length : Int) > 8
  · rw [if_pos c2, if_pos c2]
  rw [if_neg c2, if_neg c2]
  have e3 : ((p.2.2.2.2.2.2.length : Int) != (p.2.2.2.2.2.1.length : Int)) = ((p.2.2.2.2.2.1.length : Int) != (p.2.2.2.2.2.2.length : Int)) := by
    rw [Bool.eq_iff_iff]
    simp only [bne_iff_ne, ne_eq]
    omega
  rw [e3]
  cases c3 : ((p.2.2.2.2.2.1.length : Int) != (p.2.2.2.2.2.2.length : Int))
  · have c4 : p.2.2.2.2.2.1.length = p.2.2.2.2.2.2.length := by
      simp only [bne_eq_false_iff_eq] at c3
      omega
    simp only [cond_false]
    rw [f76L8_at n p _ _ (by omega) (by omega), f76L8_lck, f76L15_at n p _ _ (by omega) (by omega), f76L15_any, f84L9_at n p _ _ (by omega) (by omega), f84L17_at n p _ _ (by omega) (by omega), f84L17_any]
  · rfl
def pCk (p : Pro) : Int := bif !nameB p.1 then 6 else bif !sizedB p then 9 else lCk p
theorem f68_eq {n : Nat} (hn : 200 ≤ n) (p : Pro) : f68 n [p] = some (pCk p) := by
  have hf : f82 n [] p.1 = some (0, false) := by
    unfold f82 f82G
    dsimp only
    rw [f82L2_at n p.1 [] _ _ (by simp) (by simp)]
    rfl
  unfold f68 f68G pCk
  have e1 : decide ((([p] : List Pro).length : Int) > 16) = false := rfl
  rw [e1, cond_false]
  dsimp only
  rw [f68L4_at n [p] _ _ (by simp) (by simp)]
  have e2 : decide (((0 : Nat) : Int) ≤ (([p] : List Pro).length : Int)) = true := rfl
  have e3 : (List.drop 0 (List.take (Int.toNat ((0 : Nat) : Int)) [p])) = [] := rfl
  simp only [f68L4F, f68L4B, e2, e3, hf, f81_eq hn, f83_eq, f84_eq hn, Option.isSome_some, Option.getD_some, chk_true]
  cases nameB p.1
  · rfl
  cases sizedB p
  · rfl
  simp only [Bool.not_true, cond_false]
  by_cases c : lCk p = 0
  · simp [c]
  · have c' : (lCk p != 0) = true := by simp [c]
    simp [c, c']
theorem f56_eq {n : Nat} (hn : 200 ≤ n) (p : Pro) : f56 n [p] = some (pCk p) := by
  unfold f56 f56G pCk
  have e1 : decide ((([p] : List Pro).length : Int) > 16) = false := rfl
  rw [e1, cond_false]
  dsimp only
  rw [f56L4_at n [p] _ _ (by simp) (by simp)]
  have hin : ∀ (kret k0 : Option Int), f56L10 n [p] ((0 : Nat) : Int) p (n + 8) 0 kret k0 = k0 := by
    intro kret k0
    show f56L10 n [p] ((0 : Nat) : Int) p (n + 7 + 1) 0 kret k0 = k0
    unfold f56L10 f56L10G
    rfl
  simp only [f56L4F, f56L4B, f75_eq hn, f76_eq hn, hin, Option.isSome_some, Option.getD_some, chk_true, sizedB]
  cases nameB p.1
  · rfl
  cases decide (p.2.1 < 5)
  case true => rfl
  cases decide (p.2.1 > 300)
  case true => rfl
  cases decide (p.2.2.1 < p.2.1)
  case true => rfl
  cases decide (p.2.2.1 > 600)
  case true => rfl
  cases decide (p.2.2.2.1 < 0)
  case true => rfl
  cases decide (p.2.2.2.1 > 200)
  case true => rfl
  cases decide (p.2.2.2.2.1 < 0)
  case true => rfl
  cases decide (p.2.2.2.2.1 > 1000)
  case true => rfl
  cases decide ((f57 p).2 > 600)
  case true => rfl
  simp only [Bool.not_true, cond_false]
  by_cases c : lCk p = 0
  · simp [c]
  · have c' : (lCk p != 0) = true := by simp [c]
    simp [c, c']
def prF (p : Pro) (x : Int) : List Int → Nat → Int × Bool
  | [], _ => (0, false)
  | y :: r, j => if y = x then (if (j : Int) ≥ (p.2.2.2.2.2.2.length : Int) then (0, false) else (p.2.2.2.2.2.2.getD j 0, true)) else prF p x r (j + 1)
def priceOf (p : Pro) (x : Int) : Int × Bool := prF p x p.2.2.2.2.2.1 0
theorem f24_L (n : Nat) (p : Pro) (x : Int) : ∀ (r : List Int) (j : Nat), f24L2F n x p (fun a b => some (a, b)) (some (0, false)) r j = some (prF p x r j)
  | [], j => rfl
  | y :: r, j => by
    simp only [f24L2F, f24L2B, f24_L n p x r (j + 1), prF, Int.toNat_natCast]
    by_cases h : y = x
    · have h' : (y == x) = true := by simp [h]
      rw [h', cond_true, if_pos h, bif_if]
      by_cases h2 : (j : Int) ≥ (p.2.2.2.2.2.2.length : Int)
      · rw [if_pos h2, if_pos h2]
      · have e : decide ((j : Int) < (p.2.2.2.2.2.2.length : Int)) = true := decide_eq_true (by omega)
        rw [if_neg h2, if_neg h2, e, chk_true]
    · have h' : (y == x) = false := by simp [h]
      rw [h', cond_false, if_neg h]
theorem f24_eq {n : Nat} (p : Pro) (hl : p.2.2.2.2.2.1.length < n + 8) (hb : p.2.2.2.2.2.1.length < 1000) (x : Int) : f24 n p x = some (priceOf p x) := by
  unfold f24 f24G
  dsimp only
  rw [f24L2_at n x p _ _ (by omega) hl, f24_L]
  rfl
theorem f52_L (n : Nat) (p : Pro) (x : Int) : ∀ (r : List Int) (j : Nat), f52L2F n x p (fun a b => some (a, b)) (some (0, false)) r j = some (prF p x r j)
  | [], j => rfl
  | y :: r, j => by
    simp only [f52L2F, f52L2B, f52_L n p x r (j + 1), prF, Int.toNat_natCast]
    by_cases h : y = x
    · have h' : (y == x) = true := by simp [h]
      rw [h', cond_true, if_pos h, bif_if]
      by_cases h2 : (j : Int) ≥ (p.2.2.2.2.2.2.length : Int)
      · rw [if_pos h2, if_pos h2]
      · have e : decide ((j : Int) < (p.2.2.2.2.2.2.length : Int)) = true := decide_eq_true (by omega)
        rw [if_neg h2, if_neg h2, e, chk_true]
    · have h' : (y == x) = false := by simp [h]
      rw [h', cond_false, if_neg h]
theorem f52_eq {n : Nat} (p : Pro) (hl : p.2.2.2.2.2.1.length < n + 8) (hb : p.2.2.2.2.2.1.length < 1000) (x : Int) : f52 n p x = some (priceOf p x) := by
  unfold f52 f52G
  dsimp only
  rw [f52L2_at n x p _ _ (by omega) hl, f52_L]
  rfl
end Go.Proofs.Ytdhgbgbdnifonaa.Ev.Plain
