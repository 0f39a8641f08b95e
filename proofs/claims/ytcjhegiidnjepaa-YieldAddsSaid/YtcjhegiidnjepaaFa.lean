/- The program's functions as plain Lean functions, written by a program out of the translation. Definitions; that those without a loop always answer; that loops along a list are recursions over it. -/
import Derived.Test.YtcjhegiidnjepaaEv1
import GoSem.ClaimData
namespace Go.Proofs.Ytcjhegiidnjepaa.Ev
set_option linter.unusedVariables false
set_option linter.unusedSimpArgs false
set_option maxRecDepth 100000
theorem cond_some {α : Type} (c : Bool) (x y : α) : (bif c then some x else some y) = some (bif c then x else y) := by cases c <;> rfl
theorem chk_true {β : Type} (k : Option β) : chk true k = k := rfl
theorem chk_false {β : Type} (k : Option β) : chk false k = none := rfl
theorem drop_none {α : Type} {l : List α} {j : Nat} (h : l.drop j = []) : l.length ≤ j := List.drop_eq_nil_iff.1 h
theorem drop_cons {α : Type} {l : List α} {j : Nat} {x : α} {r : List α} (h : l.drop j = x :: r) : j < l.length ∧ (∀ d, l.getD j d = x) ∧ l.drop (j + 1) = r := by
  have h1 : j < l.length := by
    rcases Nat.lt_or_ge j l.length with h1 | h1
    · exact h1
    · rw [List.drop_eq_nil_of_le h1] at h; cases h
  have h2 := List.drop_eq_getElem_cons h1
  rw [h] at h2
  injection h2 with h3 h4
  exact ⟨h1, fun d => by rw [List.getD_eq_getElem?_getD, List.getElem?_eq_getElem h1, h3]; rfl, h4.symm⟩
theorem wrap_is (n : Int) : IntKind.i64.wrap n = (n + 9223372036854775808) % 18446744073709551616 - 9223372036854775808 := by
  have h1 : IntKind.i64.signed = true := rfl
  have h2 : IntKind.i64.bits = 64 := rfl
  have p1 : (2 : Int) ^ 64 = 18446744073709551616 := by decide
  have p2 : (2 : Int) ^ (64 - 1) = 9223372036854775808 := by decide
  unfold IntKind.wrap
  simp only [h1, h2, p1, p2, Bool.true_and, decide_eq_true_eq]
  split <;> omega
theorem wrap_of {n : Int} (h0 : -9223372036854775808 ≤ n) (h1 : n ≤ 9223372036854775807) : IntKind.i64.wrap n = n := by rw [wrap_is]; omega
theorem wrap_succ {j : Nat} (h : j < 4611686018427387904) : IntKind.i64.wrap ((j : Int) + 1) = ((j + 1 : Nat) : Int) := by rw [wrap_of (by omega) (by omega)]; omega
/-! f26: sawmill/yield.within -/
def f26L2G (n : Nat) (v1 : List (Int)) (a0 : Int × Int × Int × Int × Int) (v3 : Int) (kc : Int → Option (Bool)) (kret : Option (Bool)) (k0 : Option (Bool)) : Option (Bool) :=
  bif decide (v3 < (v1.length : Int)) then
    chk (decide ((0 : Int) ≤ v3)) <|
    chk (decide (v3 < (v1.length : Int))) <|
    let v4 : Int := v1.getD (Int.toNat v3) (0 : Int)
    bif decide (v4 < 0) then
      kret
    else
      bif decide (v4 > 2305843009213693952) then
        kret
      else
        let v5 : Int := IntKind.i64.wrap (v3 + 1)
        kc v5
  else
    k0
def f26L2 (n : Nat) (v1 : List (Int)) (a0 : Int × Int × Int × Int × Int) : Nat → Int → (Option (Bool)) → (Option (Bool)) → Option (Bool)
  | 0, _, _, _ => none
  | m + 1, v3, kret, k0 => f26L2G n v1 a0 v3 (fun v3 => f26L2 n v1 a0 m v3 kret k0) kret k0
def f26L2B (n : Nat) (v1 : List (Int)) (a0 : Int × Int × Int × Int × Int) (x3 : Int) (v3 : Int) (kc : Option (Bool)) (kret : Option (Bool)) (k0 : Option (Bool)) : Option (Bool) :=
  bif decide (x3 < 0) then
    kret
  else
    bif decide (x3 > 2305843009213693952) then
      kret
    else
      kc
def f26L2F (n : Nat) (v1 : List (Int)) (a0 : Int × Int × Int × Int × Int) (kret : Option (Bool)) (k0 : Option (Bool)) : List (Int) → Nat → Option (Bool)
  | [], j =>
    let v3 : Int := (j : Int)
    k0
  | x3 :: r, j => f26L2B n v1 a0 x3 (j : Int) (f26L2F n v1 a0 kret k0 r (j + 1)) kret k0
theorem f26L2_eq (n : Nat) (v1 : List (Int)) (a0 : Int × Int × Int × Int × Int) (kret : Option (Bool)) (k0 : Option (Bool)) (hl : v1.length < 4611686018427387904) : ∀ (r : List (Int)) (m j : Nat), v1.drop j = r → r.length < m → f26L2 n v1 a0 m (j : Int) kret k0 = f26L2F n v1 a0 kret k0 r j := by
  intro r
  induction r with
  | nil =>
    intro m j h hm
    obtain ⟨m, rfl⟩ : ∃ q, m = q + 1 := ⟨m - 1, by omega⟩
    have h1 := drop_none h
    have c1 : decide ((j : Int) < (v1.length : Int)) = false := decide_eq_false (by omega)
    simp only [f26L2, f26L2G, f26L2F, c1, cond_false]
  | cons x r ih =>
    intro m j h hm
    obtain ⟨m, rfl⟩ : ∃ q, m = q + 1 := ⟨m - 1, by omega⟩
    obtain ⟨h1, h2, h3⟩ := drop_cons h
    have hm' : r.length < m := by simp only [List.length_cons] at hm; omega
    have c1 : decide ((j : Int) < (v1.length : Int)) = true := decide_eq_true (by omega)
    have c2 : decide ((0 : Int) ≤ (j : Int)) = true := decide_eq_true (by omega)
    have c3 : IntKind.i64.wrap ((j : Int) + 1) = ((j + 1 : Nat) : Int) := wrap_succ (by omega)
    have ih' := ih m (j + 1) h3 hm'
    simp only [f26L2, f26L2G, f26L2F, f26L2B, c1, c2, c3, cond_true, chk_true, Int.toNat_natCast, h2, ih']
theorem f26L2_at (n : Nat) (v1 : List (Int)) (a0 : Int × Int × Int × Int × Int) (kret : Option (Bool)) (k0 : Option (Bool)) (hl : v1.length < 4611686018427387904) (hn : v1.length < n + 8) : f26L2 n v1 a0 (n + 8) 0 kret k0 = f26L2F n v1 a0 kret k0 v1 0 := f26L2_eq n v1 a0 kret k0 hl v1 (n + 8) 0 rfl hn
def f26G (n : Nat) (a0 : Int × Int × Int × Int × Int) (lp2 : (List (Int)) → (Int × Int × Int × Int × Int) → Int → (Option (Bool)) → (Option (Bool)) → Option (Bool)) : Option (Bool) :=
  let v1 : List (Int) := [a0.1, a0.2.1, a0.2.2.1, a0.2.2.2.1]
  lp2 v1 a0 (0 : Int) (
      some false) (
      bif decide ((-2305843009213693952 : Int) ≤ a0.2.2.2.2) then
        some (decide (a0.2.2.2.2 ≤ 2305843009213693952))
      else
        some false)
def f26 (n : Nat) (a0 : Int × Int × Int × Int × Int) : Option (Bool) := f26G n a0 (fun v1 a0 => f26L2 n v1 a0 (n + 8))
/-! f18: sawmill/yield.Add -/
def f18G (n : Nat) (a0 : Int × Int × Int × Int × Int) (a1 : Int × Int × Int × Int × Int) : Option ((Int × Int × Int × Int × Int) × Int) :=
  let v1 : Option (Bool) := f26 n a0
  chk (v1.isSome) <|
  let v2 : Bool := v1.getD false
  bif (!v2) then
    some ((0, 0, 0, 0, 0), 9)
  else
    let v3 : Option (Bool) := f26 n a1
    chk (v3.isSome) <|
    let v4 : Bool := v3.getD false
    bif (!v4) then
      some ((0, 0, 0, 0, 0), 9)
    else
      let v5 : Int := IntKind.i64.wrap (a0.1 + a1.1)
      let v6 : Int := IntKind.i64.wrap (a0.2.1 + a1.2.1)
      let v7 : Int := IntKind.i64.wrap (a0.2.2.1 + a1.2.2.1)
      let v8 : Int := IntKind.i64.wrap (a0.2.2.2.1 + a1.2.2.2.1)
      let v9 : Int := IntKind.i64.wrap (a0.2.2.2.2 + a1.2.2.2.2)
      some ((v5, v6, v7, v8, v9), 0)
def f18 (n : Nat) (a0 : Int × Int × Int × Int × Int) (a1 : Int × Int × Int × Int × Int) : Option ((Int × Int × Int × Int × Int) × Int) := f18G n a0 a1
/-! f33: sawmill/sawmillref22.fits -/
def f33 (a0 : Int) : Bool :=
  bif decide (a0 ≥ 0) then
    decide (a0 ≤ 2305843009213693952)
  else
    false
def f33O (a0 : Int) : Option (Bool) :=
  bif decide (a0 ≥ 0) then
    some (decide (a0 ≤ 2305843009213693952))
  else
    some false
theorem f33_o (a0 : Int) : f33O a0 = some (f33 a0) := by
  unfold f33O f33
  first | rfl | (simp only [cond_some]) | (simp only [cond_some]; rfl)
/-! f32: sawmill/sawmillref22.valid -/
def f32 (a0 : Int × Int × Int × Int × Int) : Bool :=
  let v1 : Bool := f33 a0.1
  bif v1 then
    let v2 : Bool := f33 a0.2.1
    bif v2 then
      let v3 : Bool := f33 a0.2.2.1
      bif v3 then
        let v4 : Bool := f33 a0.2.2.2.1
        bif v4 then
          bif decide (a0.2.2.2.2 ≥ (-2305843009213693952)) then
            decide (a0.2.2.2.2 ≤ 2305843009213693952)
          else
            false
        else
          false
      else
        false
    else
      false
  else
    false
def f32O (a0 : Int × Int × Int × Int × Int) : Option (Bool) :=
  let v1 : Bool := f33 a0.1
  bif v1 then
    let v2 : Bool := f33 a0.2.1
    bif v2 then
      let v3 : Bool := f33 a0.2.2.1
      bif v3 then
        let v4 : Bool := f33 a0.2.2.2.1
        bif v4 then
          bif decide (a0.2.2.2.2 ≥ (-2305843009213693952)) then
            some (decide (a0.2.2.2.2 ≤ 2305843009213693952))
          else
            some false
        else
          some false
      else
        some false
    else
      some false
  else
    some false
theorem f32_o (a0 : Int × Int × Int × Int × Int) : f32O a0 = some (f32 a0) := by
  unfold f32O f32
  first | rfl | (simp only [cond_some]) | (simp only [cond_some]; rfl)
/-! f19: sawmill/sawmillref22.Add -/
def f19 (a0 : Int × Int × Int × Int × Int) (a1 : Int × Int × Int × Int × Int) : (Int × Int × Int × Int × Int) × Int :=
  let v1 : Bool := f32 a0
  bif (!v1) then
    ((0, 0, 0, 0, 0), 9)
  else
    let v2 : Bool := f32 a1
    bif (!v2) then
      ((0, 0, 0, 0, 0), 9)
    else
      let v3 : Int := IntKind.i64.wrap (a0.1 + a1.1)
      let v4 : Int := IntKind.i64.wrap (a0.2.1 + a1.2.1)
      let v5 : Int := IntKind.i64.wrap (a0.2.2.1 + a1.2.2.1)
      let v6 : Int := IntKind.i64.wrap (a0.2.2.2.1 + a1.2.2.2.1)
      let v7 : Int := IntKind.i64.wrap (a0.2.2.2.2 + a1.2.2.2.2)
      ((v3, v4, v5, v6, v7), 0)
def f19O (a0 : Int × Int × Int × Int × Int) (a1 : Int × Int × Int × Int × Int) : Option ((Int × Int × Int × Int × Int) × Int) :=
  let v1 : Bool := f32 a0
  bif (!v1) then
    some ((0, 0, 0, 0, 0), 9)
  else
    let v2 : Bool := f32 a1
    bif (!v2) then
      some ((0, 0, 0, 0, 0), 9)
    else
      let v3 : Int := IntKind.i64.wrap (a0.1 + a1.1)
      let v4 : Int := IntKind.i64.wrap (a0.2.1 + a1.2.1)
      let v5 : Int := IntKind.i64.wrap (a0.2.2.1 + a1.2.2.1)
      let v6 : Int := IntKind.i64.wrap (a0.2.2.2.1 + a1.2.2.2.1)
      let v7 : Int := IntKind.i64.wrap (a0.2.2.2.2 + a1.2.2.2.2)
      some ((v3, v4, v5, v6, v7), 0)
theorem f19_o (a0 : Int × Int × Int × Int × Int) (a1 : Int × Int × Int × Int × Int) : f19O a0 a1 = some (f19 a0 a1) := by
  unfold f19O f19
  first | rfl | (simp only [cond_some]) | (simp only [cond_some]; rfl)
/-! f12: sawmill/yield.Balanced -/
def f12G (n : Nat) (a0 : Int × Int × Int × Int × Int) : Option (Bool) :=
  let v1 : Option (Bool) := f26 n (a0.1, a0.2.1, a0.2.2.1, a0.2.2.2.1, 0)
  chk (v1.isSome) <|
  let v2 : Bool := v1.getD false
  bif v2 then
    let v3 : Int := IntKind.i64.wrap (a0.1 - a0.2.1)
    let v4 : Int := IntKind.i64.wrap (v3 - a0.2.2.1)
    some (v4 == a0.2.2.2.1)
  else
    some false
def f12 (n : Nat) (a0 : Int × Int × Int × Int × Int) : Option (Bool) := f12G n a0
/-! f20: sawmill/sawmillref22.Balanced -/
def f20 (a0 : Int × Int × Int × Int × Int) : Bool :=
  let v1 : Bool := f33 a0.1
  bif v1 then
    let v2 : Bool := f33 a0.2.1
    bif v2 then
      let v3 : Bool := f33 a0.2.2.1
      bif v3 then
        let v4 : Bool := f33 a0.2.2.2.1
        bif v4 then
          let v5 : Int := IntKind.i64.wrap (a0.1 - a0.2.1)
          let v6 : Int := IntKind.i64.wrap (v5 - a0.2.2.1)
          (v6 == a0.2.2.2.1)
        else
          false
      else
        false
    else
      false
  else
    false
def f20O (a0 : Int × Int × Int × Int × Int) : Option (Bool) :=
  let v1 : Bool := f33 a0.1
  bif v1 then
    let v2 : Bool := f33 a0.2.1
    bif v2 then
      let v3 : Bool := f33 a0.2.2.1
      bif v3 then
        let v4 : Bool := f33 a0.2.2.2.1
        bif v4 then
          let v5 : Int := IntKind.i64.wrap (a0.1 - a0.2.1)
          let v6 : Int := IntKind.i64.wrap (v5 - a0.2.2.1)
          some (v6 == a0.2.2.2.1)
        else
          some false
      else
        some false
    else
      some false
  else
    some false
theorem f20_o (a0 : Int × Int × Int × Int × Int) : f20O a0 = some (f20 a0) := by
  unfold f20O f20
  first | rfl | (simp only [cond_some]) | (simp only [cond_some]; rfl)
/-! f46: sawmill/units.magnitude -/
def f46 (a0 : Int) : Int :=
  bif decide (a0 < 0) then
    let v1 : Int := IntKind.u64.wrap a0
    let v2 : Int := IntKind.u64.wrap (0 - v1)
    v2
  else
    let v3 : Int := IntKind.u64.wrap a0
    v3
def f46O (a0 : Int) : Option (Int) :=
  bif decide (a0 < 0) then
    let v1 : Int := IntKind.u64.wrap a0
    let v2 : Int := IntKind.u64.wrap (0 - v1)
    some v2
  else
    let v3 : Int := IntKind.u64.wrap a0
    some v3
theorem f46_o (a0 : Int) : f46O a0 = some (f46 a0) := by
  unfold f46O f46
  first | rfl | (simp only [cond_some]) | (simp only [cond_some]; rfl)
/-! f45: math/bits.Mul64 -/
def f45 (a0 : Int) (a1 : Int) : Int × Int :=
  let v1 : Int := IntKind.u64.wrap ((BitVec.ofInt 64 a0 &&& BitVec.ofInt 64 4294967295).toNat : Int)
  let v2 : Int := a0.fdiv (2 ^ min (Int.toNat 32) 64)
  let v3 : Int := IntKind.u64.wrap ((BitVec.ofInt 64 a1 &&& BitVec.ofInt 64 4294967295).toNat : Int)
  let v4 : Int := a1.fdiv (2 ^ min (Int.toNat 32) 64)
  let v5 : Int := IntKind.u64.wrap (v1 * v3)
  let v6 : Int := IntKind.u64.wrap (v2 * v3)
  let v7 : Int := v5.fdiv (2 ^ min (Int.toNat 32) 64)
  let v8 : Int := IntKind.u64.wrap (v6 + v7)
  let v9 : Int := IntKind.u64.wrap ((BitVec.ofInt 64 v8 &&& BitVec.ofInt 64 4294967295).toNat : Int)
  let v10 : Int := v8.fdiv (2 ^ min (Int.toNat 32) 64)
  let v11 : Int := IntKind.u64.wrap (v1 * v4)
  let v12 : Int := IntKind.u64.wrap (v9 + v11)
  let v13 : Int := IntKind.u64.wrap (v2 * v4)
  let v14 : Int := IntKind.u64.wrap (v13 + v10)
  let v15 : Int := v12.fdiv (2 ^ min (Int.toNat 32) 64)
  let v16 : Int := IntKind.u64.wrap (v14 + v15)
  let v17 : Int := IntKind.u64.wrap (a0 * a1)
  (v16, v17)
def f45O (a0 : Int) (a1 : Int) : Option (Int × Int) :=
  let v1 : Int := IntKind.u64.wrap ((BitVec.ofInt 64 a0 &&& BitVec.ofInt 64 4294967295).toNat : Int)
  let v2 : Int := a0.fdiv (2 ^ min (Int.toNat 32) 64)
  let v3 : Int := IntKind.u64.wrap ((BitVec.ofInt 64 a1 &&& BitVec.ofInt 64 4294967295).toNat : Int)
  let v4 : Int := a1.fdiv (2 ^ min (Int.toNat 32) 64)
  let v5 : Int := IntKind.u64.wrap (v1 * v3)
  let v6 : Int := IntKind.u64.wrap (v2 * v3)
  let v7 : Int := v5.fdiv (2 ^ min (Int.toNat 32) 64)
  let v8 : Int := IntKind.u64.wrap (v6 + v7)
  let v9 : Int := IntKind.u64.wrap ((BitVec.ofInt 64 v8 &&& BitVec.ofInt 64 4294967295).toNat : Int)
  let v10 : Int := v8.fdiv (2 ^ min (Int.toNat 32) 64)
  let v11 : Int := IntKind.u64.wrap (v1 * v4)
  let v12 : Int := IntKind.u64.wrap (v9 + v11)
  let v13 : Int := IntKind.u64.wrap (v2 * v4)
  let v14 : Int := IntKind.u64.wrap (v13 + v10)
  let v15 : Int := v12.fdiv (2 ^ min (Int.toNat 32) 64)
  let v16 : Int := IntKind.u64.wrap (v14 + v15)
  let v17 : Int := IntKind.u64.wrap (a0 * a1)
  some (v16, v17)
theorem f45_o (a0 : Int) (a1 : Int) : f45O a0 a1 = some (f45 a0 a1) := by
  unfold f45O f45
  first | rfl | (simp only [cond_some]) | (simp only [cond_some]; rfl)
/-! f77: math/bits.Len64 -/
def f77G (a0 : Int) : Option (Int) :=
  bif decide (a0 ≥ 4294967296) then
    let v1 : Int := a0.fdiv (2 ^ min (Int.toNat 32) 64)
    bif decide (v1 ≥ 65536) then
      let v2 : Int := v1.fdiv (2 ^ min (Int.toNat 16) 64)
      bif decide (v2 ≥ 256) then
        let v3 : Int := v2.fdiv (2 ^ min (Int.toNat 8) 64)
        let v4 : Int := IntKind.u8.wrap v3
        chk (decide ((0 : Int) ≤ v4)) <|
        chk (decide (v4 < ((⟨#[0, 1, 2, 2, 3, 3, 3, 3, 4, 4, 4, 4, 4, 4, 4, 4, 5, 5, 5, 5, 5, 5, 5, 5, 5, 5, 5, 5, 5, 5, 5, 5, 6, 6, 6, 6, 6, 6, 6, 6, 6, 6, 6, 6, 6, 6, 6, 6, 6, 6, 6, 6, 6, 6, 6, 6, 6, 6, 6, 6, 6, 6, 6, 6, 7, 7, 7, 7, 7, 7, 7, 7, 7, 7, 7, 7, 7, 7, 7, 7, 7, 7, 7, 7, 7, 7, 7, 7, 7, 7, 7, 7, 7, 7, 7, 7, 7, 7, 7, 7, 7, 7, 7, 7, 7, 7, 7, 7, 7, 7, 7, 7, 7, 7, 7, 7, 7, 7, 7, 7, 7, 7, 7, 7, 7, 7, 7, 7, 8, 8, 8, 8, 8, 8, 8, 8, 8, 8, 8, 8, 8, 8, 8, 8, 8, 8, 8, 8, 8, 8, 8, 8, 8, 8, 8, 8, 8, 8, 8, 8, 8, 8, 8, 8, 8, 8, 8, 8, 8, 8, 8, 8, 8, 8, 8, 8, 8, 8, 8, 8, 8, 8, 8, 8, 8, 8, 8, 8, 8, 8, 8, 8, 8, 8, 8, 8, 8, 8, 8, 8, 8, 8, 8, 8, 8, 8, 8, 8, 8, 8, 8, 8, 8, 8, 8, 8, 8, 8, 8, 8, 8, 8, 8, 8, 8, 8, 8, 8, 8, 8, 8, 8, 8, 8, 8, 8, 8, 8, 8, 8, 8, 8, 8, 8, 8, 8, 8, 8, 8, 8, 8, 8, 8, 8, 8, 8]⟩ : ByteArray).size : Int))) <|
        let v5 : Int := (((⟨#[0, 1, 2, 2, 3, 3, 3, 3, 4, 4, 4, 4, 4, 4, 4, 4, 5, 5, 5, 5, 5, 5, 5, 5, 5, 5, 5, 5, 5, 5, 5, 5, 6, 6, 6, 6, 6, 6, 6, 6, 6, 6, 6, 6, 6, 6, 6, 6, 6, 6, 6, 6, 6, 6, 6, 6, 6, 6, 6, 6, 6, 6, 6, 6, 7, 7, 7, 7, 7, 7, 7, 7, 7, 7, 7, 7, 7, 7, 7, 7, 7, 7, 7, 7, 7, 7, 7, 7, 7, 7, 7, 7, 7, 7, 7, 7, 7, 7, 7, 7, 7, 7, 7, 7, 7, 7, 7, 7, 7, 7, 7, 7, 7, 7, 7, 7, 7, 7, 7, 7, 7, 7, 7, 7, 7, 7, 7, 7, 8, 8, 8, 8, 8, 8, 8, 8, 8, 8, 8, 8, 8, 8, 8, 8, 8, 8, 8, 8, 8, 8, 8, 8, 8, 8, 8, 8, 8, 8, 8, 8, 8, 8, 8, 8, 8, 8, 8, 8, 8, 8, 8, 8, 8, 8, 8, 8, 8, 8, 8, 8, 8, 8, 8, 8, 8, 8, 8, 8, 8, 8, 8, 8, 8, 8, 8, 8, 8, 8, 8, 8, 8, 8, 8, 8, 8, 8, 8, 8, 8, 8, 8, 8, 8, 8, 8, 8, 8, 8, 8, 8, 8, 8, 8, 8, 8, 8, 8, 8, 8, 8, 8, 8, 8, 8, 8, 8, 8, 8, 8, 8, 8, 8, 8, 8, 8, 8, 8, 8, 8, 8, 8, 8, 8, 8, 8, 8]⟩ : ByteArray).data.getD (Int.toNat v4) 0).toNat : Int)
        let v6 : Int := IntKind.i64.wrap v5
        let v7 : Int := IntKind.i64.wrap ((56 : Int) + v6)
        some v7
      else
        let v8 : Int := IntKind.u8.wrap v2
        chk (decide ((0 : Int) ≤ v8)) <|
        chk (decide (v8 < ((⟨#[0, 1, 2, 2, 3, 3, 3, 3, 4, 4, 4, 4, 4, 4, 4, 4, 5, 5, 5, 5, 5, 5, 5, 5, 5, 5, 5, 5, 5, 5, 5, 5, 6, 6, 6, 6, 6, 6, 6, 6, 6, 6, 6, 6, 6, 6, 6, 6, 6, 6, 6, 6, 6, 6, 6, 6, 6, 6, 6, 6, 6, 6, 6, 6, 7, 7, 7, 7, 7, 7, 7, 7, 7, 7, 7, 7, 7, 7, 7, 7, 7, 7, 7, 7, 7, 7, 7, 7, 7, 7, 7, 7, 7, 7, 7, 7, 7, 7, 7, 7, 7, 7, 7, 7, 7, 7, 7, 7, 7, 7, 7, 7, 7, 7, 7, 7, 7, 7, 7, 7, 7, 7, 7, 7, 7, 7, 7, 7, 8, 8, 8, 8, 8, 8, 8, 8, 8, 8, 8, 8, 8, 8, 8, 8, 8, 8, 8, 8, 8, 8, 8, 8, 8, 8, 8, 8, 8, 8, 8, 8, 8, 8, 8, 8, 8, 8, 8, 8, 8, 8, 8, 8, 8, 8, 8, 8, 8, 8, 8, 8, 8, 8, 8, 8, 8, 8, 8, 8, 8, 8, 8, 8, 8, 8, 8, 8, 8, 8, 8, 8, 8, 8, 8, 8, 8, 8, 8, 8, 8, 8, 8, 8, 8, 8, 8, 8, 8, 8, 8, 8, 8, 8, 8, 8, 8, 8, 8, 8, 8, 8, 8, 8, 8, 8, 8, 8, 8, 8, 8, 8, 8, 8, 8, 8, 8, 8, 8, 8, 8, 8, 8, 8, 8, 8, 8, 8]⟩ : ByteArray).size : Int))) <|
        let v9 : Int := (((⟨#[0, 1, 2, 2, 3, 3, 3, 3, 4, 4, 4, 4, 4, 4, 4, 4, 5, 5, 5, 5, 5, 5, 5, 5, 5, 5, 5, 5, 5, 5, 5, 5, 6, 6, 6, 6, 6, 6, 6, 6, 6, 6, 6, 6, 6, 6, 6, 6, 6, 6, 6, 6, 6, 6, 6, 6, 6, 6, 6, 6, 6, 6, 6, 6, 7, 7, 7, 7, 7, 7, 7, 7, 7, 7, 7, 7, 7, 7, 7, 7, 7, 7, 7, 7, 7, 7, 7, 7, 7, 7, 7, 7, 7, 7, 7, 7, 7, 7, 7, 7, 7, 7, 7, 7, 7, 7, 7, 7, 7, 7, 7, 7, 7, 7, 7, 7, 7, 7, 7, 7, 7, 7, 7, 7, 7, 7, 7, 7, 8, 8, 8, 8, 8, 8, 8, 8, 8, 8, 8, 8, 8, 8, 8, 8, 8, 8, 8, 8, 8, 8, 8, 8, 8, 8, 8, 8, 8, 8, 8, 8, 8, 8, 8, 8, 8, 8, 8, 8, 8, 8, 8, 8, 8, 8, 8, 8, 8, 8, 8, 8, 8, 8, 8, 8, 8, 8, 8, 8, 8, 8, 8, 8, 8, 8, 8, 8, 8, 8, 8, 8, 8, 8, 8, 8, 8, 8, 8, 8, 8, 8, 8, 8, 8, 8, 8, 8, 8, 8, 8, 8, 8, 8, 8, 8, 8, 8, 8, 8, 8, 8, 8, 8, 8, 8, 8, 8, 8, 8, 8, 8, 8, 8, 8, 8, 8, 8, 8, 8, 8, 8, 8, 8, 8, 8, 8, 8]⟩ : ByteArray).data.getD (Int.toNat v8) 0).toNat : Int)
        let v10 : Int := IntKind.i64.wrap v9
        let v11 : Int := IntKind.i64.wrap ((48 : Int) + v10)
        some v11
    else
      bif decide (v1 ≥ 256) then
        let v12 : Int := v1.fdiv (2 ^ min (Int.toNat 8) 64)
        let v13 : Int := IntKind.u8.wrap v12
        chk (decide ((0 : Int) ≤ v13)) <|
        chk (decide (v13 < ((⟨#[0, 1, 2, 2, 3, 3, 3, 3, 4, 4, 4, 4, 4, 4, 4, 4, 5, 5, 5, 5, 5, 5, 5, 5, 5, 5, 5, 5, 5, 5, 5, 5, 6, 6, 6, 6, 6, 6, 6, 6, 6, 6, 6, 6, 6, 6, 6, 6, 6, 6, 6, 6, 6, 6, 6, 6, 6, 6, 6, 6, 6, 6, 6, 6, 7, 7, 7, 7, 7, 7, 7, 7, 7, 7, 7, 7, 7, 7, 7, 7, 7, 7, 7, 7, 7, 7, 7, 7, 7, 7, 7, 7, 7, 7, 7, 7, 7, 7, 7, 7, 7, 7, 7, 7, 7, 7, 7, 7, 7, 7, 7, 7, 7, 7, 7, 7, 7, 7, 7, 7, 7, 7, 7, 7, 7, 7, 7, 7, 8, 8, 8, 8, 8, 8, 8, 8, 8, 8, 8, 8, 8, 8, 8, 8, 8, 8, 8, 8, 8, 8, 8, 8, 8, 8, 8, 8, 8, 8, 8, 8, 8, 8, 8, 8, 8, 8, 8, 8, 8, 8, 8, 8, 8, 8, 8, 8, 8, 8, 8, 8, 8, 8, 8, 8, 8, 8, 8, 8, 8, 8, 8, 8, 8, 8, 8, 8, 8, 8, 8, 8, 8, 8, 8, 8, 8, 8, 8, 8, 8, 8, 8, 8, 8, 8, 8, 8, 8, 8, 8, 8, 8, 8, 8, 8, 8, 8, 8, 8, 8, 8, 8, 8, 8, 8, 8, 8, 8, 8, 8, 8, 8, 8, 8, 8, 8, 8, 8, 8, 8, 8, 8, 8, 8, 8, 8, 8]⟩ : ByteArray).size : Int))) <|
        let v14 : Int := (((⟨#[0, 1, 2, 2, 3, 3, 3, 3, 4, 4, 4, 4, 4, 4, 4, 4, 5, 5, 5, 5, 5, 5, 5, 5, 5, 5, 5, 5, 5, 5, 5, 5, 6, 6, 6, 6, 6, 6, 6, 6, 6, 6, 6, 6, 6, 6, 6, 6, 6, 6, 6, 6, 6, 6, 6, 6, 6, 6, 6, 6, 6, 6, 6, 6, 7, 7, 7, 7, 7, 7, 7, 7, 7, 7, 7, 7, 7, 7, 7, 7, 7, 7, 7, 7, 7, 7, 7, 7, 7, 7, 7, 7, 7, 7, 7, 7, 7, 7, 7, 7, 7, 7, 7, 7, 7, 7, 7, 7, 7, 7, 7, 7, 7, 7, 7, 7, 7, 7, 7, 7, 7, 7, 7, 7, 7, 7, 7, 7, 8, 8, 8, 8, 8, 8, 8, 8, 8, 8, 8, 8, 8, 8, 8, 8, 8, 8, 8, 8, 8, 8, 8, 8, 8, 8, 8, 8, 8, 8, 8, 8, 8, 8, 8, 8, 8, 8, 8, 8, 8, 8, 8, 8, 8, 8, 8, 8, 8, 8, 8, 8, 8, 8, 8, 8, 8, 8, 8, 8, 8, 8, 8, 8, 8, 8, 8, 8, 8, 8, 8, 8, 8, 8, 8, 8, 8, 8, 8, 8, 8, 8, 8, 8, 8, 8, 8, 8, 8, 8, 8, 8, 8, 8, 8, 8, 8, 8, 8, 8, 8, 8, 8, 8, 8, 8, 8, 8, 8, 8, 8, 8, 8, 8, 8, 8, 8, 8, 8, 8, 8, 8, 8, 8, 8, 8, 8, 8]⟩ : ByteArray).data.getD (Int.toNat v13) 0).toNat : Int)
        let v15 : Int := IntKind.i64.wrap v14
        let v16 : Int := IntKind.i64.wrap ((40 : Int) + v15)
        some v16
      else
        let v17 : Int := IntKind.u8.wrap v1
        chk (decide ((0 : Int) ≤ v17)) <|
        chk (decide (v17 < ((⟨#[0, 1, 2, 2, 3, 3, 3, 3, 4, 4, 4, 4, 4, 4, 4, 4, 5, 5, 5, 5, 5, 5, 5, 5, 5, 5, 5, 5, 5, 5, 5, 5, 6, 6, 6, 6, 6, 6, 6, 6, 6, 6, 6, 6, 6, 6, 6, 6, 6, 6, 6, 6, 6, 6, 6, 6, 6, 6, 6, 6, 6, 6, 6, 6, 7, 7, 7, 7, 7, 7, 7, 7, 7, 7, 7, 7, 7, 7, 7, 7, 7, 7, 7, 7, 7, 7, 7, 7, 7, 7, 7, 7, 7, 7, 7, 7, 7, 7, 7, 7, 7, 7, 7, 7, 7, 7, 7, 7, 7, 7, 7, 7, 7, 7, 7, 7, 7, 7, 7, 7, 7, 7, 7, 7, 7, 7, 7, 7, 8, 8, 8, 8, 8, 8, 8, 8, 8, 8, 8, 8, 8, 8, 8, 8, 8, 8, 8, 8, 8, 8, 8, 8, 8, 8, 8, 8, 8, 8, 8, 8, 8, 8, 8, 8, 8, 8, 8, 8, 8, 8, 8, 8, 8, 8, 8, 8, 8, 8, 8, 8, 8, 8, 8, 8, 8, 8, 8, 8, 8, 8, 8, 8, 8, 8, 8, 8, 8, 8, 8, 8, 8, 8, 8, 8, 8, 8, 8, 8, 8, 8, 8, 8, 8, 8, 8, 8, 8, 8, 8, 8, 8, 8, 8, 8, 8, 8, 8, 8, 8, 8, 8, 8, 8, 8, 8, 8, 8, 8, 8, 8, 8, 8, 8, 8, 8, 8, 8, 8, 8, 8, 8, 8, 8, 8, 8, 8]⟩ : ByteArray).size : Int))) <|
        let v18 : Int := (((⟨#[0, 1, 2, 2, 3, 3, 3, 3, 4, 4, 4, 4, 4, 4, 4, 4, 5, 5, 5, 5, 5, 5, 5, 5, 5, 5, 5, 5, 5, 5, 5, 5, 6, 6, 6, 6, 6, 6, 6, 6, 6, 6, 6, 6, 6, 6, 6, 6, 6, 6, 6, 6, 6, 6, 6, 6, 6, 6, 6, 6, 6, 6, 6, 6, 7, 7, 7, 7, 7, 7, 7, 7, 7, 7, 7, 7, 7, 7, 7, 7, 7, 7, 7, 7, 7, 7, 7, 7, 7, 7, 7, 7, 7, 7, 7, 7, 7, 7, 7, 7, 7, 7, 7, 7, 7, 7, 7, 7, 7, 7, 7, 7, 7, 7, 7, 7, 7, 7, 7, 7, 7, 7, 7, 7, 7, 7, 7, 7, 8, 8, 8, 8, 8, 8, 8, 8, 8, 8, 8, 8, 8, 8, 8, 8, 8, 8, 8, 8, 8, 8, 8, 8, 8, 8, 8, 8, 8, 8, 8, 8, 8, 8, 8, 8, 8, 8, 8, 8, 8, 8, 8, 8, 8, 8, 8, 8, 8, 8, 8, 8, 8, 8, 8, 8, 8, 8, 8, 8, 8, 8, 8, 8, 8, 8, 8, 8, 8, 8, 8, 8, 8, 8, 8, 8, 8, 8, 8, 8, 8, 8, 8, 8, 8, 8, 8, 8, 8, 8, 8, 8, 8, 8, 8, 8, 8, 8, 8, 8, 8, 8, 8, 8, 8, 8, 8, 8, 8, 8, 8, 8, 8, 8, 8, 8, 8, 8, 8, 8, 8, 8, 8, 8, 8, 8, 8, 8]⟩ : ByteArray).data.getD (Int.toNat v17) 0).toNat : Int)
        let v19 : Int := IntKind.i64.wrap v18
        let v20 : Int := IntKind.i64.wrap ((32 : Int) + v19)
        some v20
  else
    bif decide (a0 ≥ 65536) then
      let v21 : Int := a0.fdiv (2 ^ min (Int.toNat 16) 64)
      bif decide (v21 ≥ 256) then
        let v22 : Int := v21.fdiv (2 ^ min (Int.toNat 8) 64)
        let v23 : Int := IntKind.u8.wrap v22
        chk (decide ((0 : Int) ≤ v23)) <|
        chk (decide (v23 < ((⟨#[0, 1, 2, 2, 3, 3, 3, 3, 4, 4, 4, 4, 4, 4, 4, 4, 5, 5, 5, 5, 5, 5, 5, 5, 5, 5, 5, 5, 5, 5, 5, 5, 6, 6, 6, 6, 6, 6, 6, 6, 6, 6, 6, 6, 6, 6, 6, 6, 6, 6, 6, 6, 6, 6, 6, 6, 6, 6, 6, 6, 6, 6, 6, 6, 7, 7, 7, 7, 7, 7, 7, 7, 7, 7, 7, 7, 7, 7, 7, 7, 7, 7, 7, 7, 7, 7, 7, 7, 7, 7, 7, 7, 7, 7, 7, 7, 7, 7, 7, 7, 7, 7, 7, 7, 7, 7, 7, 7, 7, 7, 7, 7, 7, 7, 7, 7, 7, 7, 7, 7, 7, 7, 7, 7, 7, 7, 7, 7, 8, 8, 8, 8, 8, 8, 8, 8, 8, 8, 8, 8, 8, 8, 8, 8, 8, 8, 8, 8, 8, 8, 8, 8, 8, 8, 8, 8, 8, 8, 8, 8, 8, 8, 8, 8, 8, 8, 8, 8, 8, 8, 8, 8, 8, 8, 8, 8, 8, 8, 8, 8, 8, 8, 8, 8, 8, 8, 8, 8, 8, 8, 8, 8, 8, 8, 8, 8, 8, 8, 8, 8, 8, 8, 8, 8, 8, 8, 8, 8, 8, 8, 8, 8, 8, 8, 8, 8, 8, 8, 8, 8, 8, 8, 8, 8, 8, 8, 8, 8, 8, 8, 8, 8, 8, 8, 8, 8, 8, 8, 8, 8, 8, 8, 8, 8, 8, 8, 8, 8, 8, 8, 8, 8, 8, 8, 8, 8]⟩ : ByteArray).size : Int))) <|
        let v24 : Int := (((⟨#[0, 1, 2, 2, 3, 3, 3, 3, 4, 4, 4, 4, 4, 4, 4, 4, 5, 5, 5, 5, 5, 5, 5, 5, 5, 5, 5, 5, 5, 5, 5, 5, 6, 6, 6, 6, 6, 6, 6, 6, 6, 6, 6, 6, 6, 6, 6, 6, 6, 6, 6, 6, 6, 6, 6, 6, 6, 6, 6, 6, 6, 6, 6, 6, 7, 7, 7, 7, 7, 7, 7, 7, 7, 7, 7, 7, 7, 7, 7, 7, 7, 7, 7, 7, 7, 7, 7, 7, 7, 7, 7, 7, 7, 7, 7, 7, 7, 7, 7, 7, 7, 7, 7, 7, 7, 7, 7, 7, 7, 7, 7, 7, 7, 7, 7, 7, 7, 7, 7, 7, 7, 7, 7, 7, 7, 7, 7, 7, 8, 8, 8, 8, 8, 8, 8, 8, 8, 8, 8, 8, 8, 8, 8, 8, 8, 8, 8, 8, 8, 8, 8, 8, 8, 8, 8, 8, 8, 8, 8, 8, 8, 8, 8, 8, 8, 8, 8, 8, 8, 8, 8, 8, 8, 8, 8, 8, 8, 8, 8, 8, 8, 8, 8, 8, 8, 8, 8, 8, 8, 8, 8, 8, 8, 8, 8, 8, 8, 8, 8, 8, 8, 8, 8, 8, 8, 8, 8, 8, 8, 8, 8, 8, 8, 8, 8, 8, 8, 8, 8, 8, 8, 8, 8, 8, 8, 8, 8, 8, 8, 8, 8, 8, 8, 8, 8, 8, 8, 8, 8, 8, 8, 8, 8, 8, 8, 8, 8, 8, 8, 8, 8, 8, 8, 8, 8, 8]⟩ : ByteArray).data.getD (Int.toNat v23) 0).toNat : Int)
        let v25 : Int := IntKind.i64.wrap v24
        let v26 : Int := IntKind.i64.wrap ((24 : Int) + v25)
        some v26
      else
        let v27 : Int := IntKind.u8.wrap v21
        chk (decide ((0 : Int) ≤ v27)) <|
        chk (decide (v27 < ((⟨#[0, 1, 2, 2, 3, 3, 3, 3, 4, 4, 4, 4, 4, 4, 4, 4, 5, 5, 5, 5, 5, 5, 5, 5, 5, 5, 5, 5, 5, 5, 5, 5, 6, 6, 6, 6, 6, 6, 6, 6, 6, 6, 6, 6, 6, 6, 6, 6, 6, 6, 6, 6, 6, 6, 6, 6, 6, 6, 6, 6, 6, 6, 6, 6, 7, 7, 7, 7, 7, 7, 7, 7, 7, 7, 7, 7, 7, 7, 7, 7, 7, 7, 7, 7, 7, 7, 7, 7, 7, 7, 7, 7, 7, 7, 7, 7, 7, 7, 7, 7, 7, 7, 7, 7, 7, 7, 7, 7, 7, 7, 7, 7, 7, 7, 7, 7, 7, 7, 7, 7, 7, 7, 7, 7, 7, 7, 7, 7, 8, 8, 8, 8, 8, 8, 8, 8, 8, 8, 8, 8, 8, 8, 8, 8, 8, 8, 8, 8, 8, 8, 8, 8, 8, 8, 8, 8, 8, 8, 8, 8, 8, 8, 8, 8, 8, 8, 8, 8, 8, 8, 8, 8, 8, 8, 8, 8, 8, 8, 8, 8, 8, 8, 8, 8, 8, 8, 8, 8, 8, 8, 8, 8, 8, 8, 8, 8, 8, 8, 8, 8, 8, 8, 8, 8, 8, 8, 8, 8, 8, 8, 8, 8, 8, 8, 8, 8, 8, 8, 8, 8, 8, 8, 8, 8, 8, 8, 8, 8, 8, 8, 8, 8, 8, 8, 8, 8, 8, 8, 8, 8, 8, 8, 8, 8, 8, 8, 8, 8, 8, 8, 8, 8, 8, 8, 8, 8]⟩ : ByteArray).size : Int))) <|
        let v28 : Int := (((⟨#[0, 1, 2, 2, 3, 3, 3, 3, 4, 4, 4, 4, 4, 4, 4, 4, 5, 5, 5, 5, 5, 5, 5, 5, 5, 5, 5, 5, 5, 5, 5, 5, 6, 6, 6, 6, 6, 6, 6, 6, 6, 6, 6, 6, 6, 6, 6, 6, 6, 6, 6, 6, 6, 6, 6, 6, 6, 6, 6, 6, 6, 6, 6, 6, 7, 7, 7, 7, 7, 7, 7, 7, 7, 7, 7, 7, 7, 7, 7, 7, 7, 7, 7, 7, 7, 7, 7, 7, 7, 7, 7, 7, 7, 7, 7, 7, 7, 7, 7, 7, 7, 7, 7, 7, 7, 7, 7, 7, 7, 7, 7, 7, 7, 7, 7, 7, 7, 7, 7, 7, 7, 7, 7, 7, 7, 7, 7, 7, 8, 8, 8, 8, 8, 8, 8, 8, 8, 8, 8, 8, 8, 8, 8, 8, 8, 8, 8, 8, 8, 8, 8, 8, 8, 8, 8, 8, 8, 8, 8, 8, 8, 8, 8, 8, 8, 8, 8, 8, 8, 8, 8, 8, 8, 8, 8, 8, 8, 8, 8, 8, 8, 8, 8, 8, 8, 8, 8, 8, 8, 8, 8, 8, 8, 8, 8, 8, 8, 8, 8, 8, 8, 8, 8, 8, 8, 8, 8, 8, 8, 8, 8, 8, 8, 8, 8, 8, 8, 8, 8, 8, 8, 8, 8, 8, 8, 8, 8, 8, 8, 8, 8, 8, 8, 8, 8, 8, 8, 8, 8, 8, 8, 8, 8, 8, 8, 8, 8, 8, 8, 8, 8, 8, 8, 8, 8, 8]⟩ : ByteArray).data.getD (Int.toNat v27) 0).toNat : Int)
        let v29 : Int := IntKind.i64.wrap v28
        let v30 : Int := IntKind.i64.wrap ((16 : Int) + v29)
        some v30
    else
      bif decide (a0 ≥ 256) then
        let v31 : Int := a0.fdiv (2 ^ min (Int.toNat 8) 64)
        let v32 : Int := IntKind.u8.wrap v31
        chk (decide ((0 : Int) ≤ v32)) <|
        chk (decide (v32 < ((⟨#[0, 1, 2, 2, 3, 3, 3, 3, 4, 4, 4, 4, 4, 4, 4, 4, 5, 5, 5, 5, 5, 5, 5, 5, 5, 5, 5, 5, 5, 5, 5, 5, 6, 6, 6, 6, 6, 6, 6, 6, 6, 6, 6, 6, 6, 6, 6, 6, 6, 6, 6, 6, 6, 6, 6, 6, 6, 6, 6, 6, 6, 6, 6, 6, 7, 7, 7, 7, 7, 7, 7, 7, 7, 7, 7, 7, 7, 7, 7, 7, 7, 7, 7, 7, 7, 7, 7, 7, 7, 7, 7, 7, 7, 7, 7, 7, 7, 7, 7, 7, 7, 7, 7, 7, 7, 7, 7, 7, 7, 7, 7, 7, 7, 7, 7, 7, 7, 7, 7, 7, 7, 7, 7, 7, 7, 7, 7, 7, 8, 8, 8, 8, 8, 8, 8, 8, 8, 8, 8, 8, 8, 8, 8, 8, 8, 8, 8, 8, 8, 8, 8, 8, 8, 8, 8, 8, 8, 8, 8, 8, 8, 8, 8, 8, 8, 8, 8, 8, 8, 8, 8, 8, 8, 8, 8, 8, 8, 8, 8, 8, 8, 8, 8, 8, 8, 8, 8, 8, 8, 8, 8, 8, 8, 8, 8, 8, 8, 8, 8, 8, 8, 8, 8, 8, 8, 8, 8, 8, 8, 8, 8, 8, 8, 8, 8, 8, 8, 8, 8, 8, 8, 8, 8, 8, 8, 8, 8, 8, 8, 8, 8, 8, 8, 8, 8, 8, 8, 8, 8, 8, 8, 8, 8, 8, 8, 8, 8, 8, 8, 8, 8, 8, 8, 8, 8, 8]⟩ : ByteArray).size : Int))) <|
        let v33 : Int := (((⟨#[0, 1, 2, 2, 3, 3, 3, 3, 4, 4, 4, 4, 4, 4, 4, 4, 5, 5, 5, 5, 5, 5, 5, 5, 5, 5, 5, 5, 5, 5, 5, 5, 6, 6, 6, 6, 6, 6, 6, 6, 6, 6, 6, 6, 6, 6, 6, 6, 6, 6, 6, 6, 6, 6, 6, 6, 6, 6, 6, 6, 6, 6, 6, 6, 7, 7, 7, 7, 7, 7, 7, 7, 7, 7, 7, 7, 7, 7, 7, 7, 7, 7, 7, 7, 7, 7, 7, 7, 7, 7, 7, 7, 7, 7, 7, 7, 7, 7, 7, 7, 7, 7, 7, 7, 7, 7, 7, 7, 7, 7, 7, 7, 7, 7, 7, 7, 7, 7, 7, 7, 7, 7, 7, 7, 7, 7, 7, 7, 8, 8, 8, 8, 8, 8, 8, 8, 8, 8, 8, 8, 8, 8, 8, 8, 8, 8, 8, 8, 8, 8, 8, 8, 8, 8, 8, 8, 8, 8, 8, 8, 8, 8, 8, 8, 8, 8, 8, 8, 8, 8, 8, 8, 8, 8, 8, 8, 8, 8, 8, 8, 8, 8, 8, 8, 8, 8, 8, 8, 8, 8, 8, 8, 8, 8, 8, 8, 8, 8, 8, 8, 8, 8, 8, 8, 8, 8, 8, 8, 8, 8, 8, 8, 8, 8, 8, 8, 8, 8, 8, 8, 8, 8, 8, 8, 8, 8, 8, 8, 8, 8, 8, 8, 8, 8, 8, 8, 8, 8, 8, 8, 8, 8, 8, 8, 8, 8, 8, 8, 8, 8, 8, 8, 8, 8, 8, 8]⟩ : ByteArray).data.getD (Int.toNat v32) 0).toNat : Int)
        let v34 : Int := IntKind.i64.wrap v33
        let v35 : Int := IntKind.i64.wrap ((8 : Int) + v34)
        some v35
      else
        let v36 : Int := IntKind.u8.wrap a0
        chk (decide ((0 : Int) ≤ v36)) <|
        chk (decide (v36 < ((⟨#[0, 1, 2, 2, 3, 3, 3, 3, 4, 4, 4, 4, 4, 4, 4, 4, 5, 5, 5, 5, 5, 5, 5, 5, 5, 5, 5, 5, 5, 5, 5, 5, 6, 6, 6, 6, 6, 6, 6, 6, 6, 6, 6, 6, 6, 6, 6, 6, 6, 6, 6, 6, 6, 6, 6, 6, 6, 6, 6, 6, 6, 6, 6, 6, 7, 7, 7, 7, 7, 7, 7, 7, 7, 7, 7, 7, 7, 7, 7, 7, 7, 7, 7, 7, 7, 7, 7, 7, 7, 7, 7, 7, 7, 7, 7, 7, 7, 7, 7, 7, 7, 7, 7, 7, 7, 7, 7, 7, 7, 7, 7, 7, 7, 7, 7, 7, 7, 7, 7, 7, 7, 7, 7, 7, 7, 7, 7, 7, 8, 8, 8, 8, 8, 8, 8, 8, 8, 8, 8, 8, 8, 8, 8, 8, 8, 8, 8, 8, 8, 8, 8, 8, 8, 8, 8, 8, 8, 8, 8, 8, 8, 8, 8, 8, 8, 8, 8, 8, 8, 8, 8, 8, 8, 8, 8, 8, 8, 8, 8, 8, 8, 8, 8, 8, 8, 8, 8, 8, 8, 8, 8, 8, 8, 8, 8, 8, 8, 8, 8, 8, 8, 8, 8, 8, 8, 8, 8, 8, 8, 8, 8, 8, 8, 8, 8, 8, 8, 8, 8, 8, 8, 8, 8, 8, 8, 8, 8, 8, 8, 8, 8, 8, 8, 8, 8, 8, 8, 8, 8, 8, 8, 8, 8, 8, 8, 8, 8, 8, 8, 8, 8, 8, 8, 8, 8, 8]⟩ : ByteArray).size : Int))) <|
        let v37 : Int := (((⟨#[0, 1, 2, 2, 3, 3, 3, 3, 4, 4, 4, 4, 4, 4, 4, 4, 5, 5, 5, 5, 5, 5, 5, 5, 5, 5, 5, 5, 5, 5, 5, 5, 6, 6, 6, 6, 6, 6, 6, 6, 6, 6, 6, 6, 6, 6, 6, 6, 6, 6, 6, 6, 6, 6, 6, 6, 6, 6, 6, 6, 6, 6, 6, 6, 7, 7, 7, 7, 7, 7, 7, 7, 7, 7, 7, 7, 7, 7, 7, 7, 7, 7, 7, 7, 7, 7, 7, 7, 7, 7, 7, 7, 7, 7, 7, 7, 7, 7, 7, 7, 7, 7, 7, 7, 7, 7, 7, 7, 7, 7, 7, 7, 7, 7, 7, 7, 7, 7, 7, 7, 7, 7, 7, 7, 7, 7, 7, 7, 8, 8, 8, 8, 8, 8, 8, 8, 8, 8, 8, 8, 8, 8, 8, 8, 8, 8, 8, 8, 8, 8, 8, 8, 8, 8, 8, 8, 8, 8, 8, 8, 8, 8, 8, 8, 8, 8, 8, 8, 8, 8, 8, 8, 8, 8, 8, 8, 8, 8, 8, 8, 8, 8, 8, 8, 8, 8, 8, 8, 8, 8, 8, 8, 8, 8, 8, 8, 8, 8, 8, 8, 8, 8, 8, 8, 8, 8, 8, 8, 8, 8, 8, 8, 8, 8, 8, 8, 8, 8, 8, 8, 8, 8, 8, 8, 8, 8, 8, 8, 8, 8, 8, 8, 8, 8, 8, 8, 8, 8, 8, 8, 8, 8, 8, 8, 8, 8, 8, 8, 8, 8, 8, 8, 8, 8, 8, 8]⟩ : ByteArray).data.getD (Int.toNat v36) 0).toNat : Int)
        let v38 : Int := IntKind.i64.wrap v37
        let v39 : Int := IntKind.i64.wrap ((0 : Int) + v38)
        some v39
def f77 (a0 : Int) : Option (Int) := f77G a0
/-! f60: math/bits.LeadingZeros64 -/
def f60G (a0 : Int) : Option (Int) :=
  let v1 : Option (Int) := f77 a0
  chk (v1.isSome) <|
  let v2 : Int := v1.getD (0 : Int)
  let v3 : Int := IntKind.i64.wrap ((64 : Int) - v2)
  some v3
def f60 (a0 : Int) : Option (Int) := f60G a0
/-! f47: math/bits.Div64 -/
def f47L17G (n : Nat) (v6 : Int) (v5 : Int) (v7 : Int) (v8 : Int) (v12 : Int) (v14 : Int) (v15 : Int) (v26 : Int) (v27 : Int) (kc : Int → Int → Option (Int × Int)) (k0 : Int → Option (Int × Int)) : Option (Int × Int) :=
  bif decide (v26 ≥ 4294967296) then
    let v28 : Int := IntKind.u64.wrap (v26 - 1)
    let v29 : Int := IntKind.u64.wrap (v27 + v7)
    bif decide (v29 ≥ 4294967296) then
      k0 v28
    else
      kc v28 v29
  else
    let v30 : Int := IntKind.u64.wrap (v26 * v8)
    let v31 : Int := IntKind.u64.wrap ((4294967296 : Int) * v27)
    let v32 : Int := IntKind.u64.wrap (v31 + v14)
    bif decide (v30 > v32) then
      let v33 : Int := IntKind.u64.wrap (v26 - 1)
      let v34 : Int := IntKind.u64.wrap (v27 + v7)
      bif decide (v34 ≥ 4294967296) then
        k0 v33
      else
        kc v33 v34
    else
      k0 v26
def f47L17 (n : Nat) (v6 : Int) (v5 : Int) (v7 : Int) (v8 : Int) (v12 : Int) (v14 : Int) (v15 : Int) : Nat → Int → Int → ((Int → Option (Int × Int))) → Option (Int × Int)
  | 0, _, _, _ => none
  | m + 1, v26, v27, k0 => f47L17G n v6 v5 v7 v8 v12 v14 v15 v26 v27 (fun v26 v27 => f47L17 n v6 v5 v7 v8 v12 v14 v15 m v26 v27 k0) k0
def f47L24G (n : Nat) (v6 : Int) (v5 : Int) (v7 : Int) (v8 : Int) (v15 : Int) (v36 : Int) (v40 : Int) (v51 : Int) (v52 : Int) (kc : Int → Int → Option (Int × Int)) (k2 : Int → Option (Int × Int)) : Option (Int × Int) :=
  bif decide (v52 ≥ 4294967296) then
    let v53 : Int := IntKind.u64.wrap (v52 - 1)
    let v54 : Int := IntKind.u64.wrap (v51 + v7)
    bif decide (v54 ≥ 4294967296) then
      k2 v53
    else
      kc v54 v53
  else
    let v55 : Int := IntKind.u64.wrap (v52 * v8)
    let v56 : Int := IntKind.u64.wrap ((4294967296 : Int) * v51)
    let v57 : Int := IntKind.u64.wrap (v56 + v15)
    bif decide (v55 > v57) then
      let v58 : Int := IntKind.u64.wrap (v52 - 1)
      let v59 : Int := IntKind.u64.wrap (v51 + v7)
      bif decide (v59 ≥ 4294967296) then
        k2 v58
      else
        kc v59 v58
    else
      k2 v52
def f47L24 (n : Nat) (v6 : Int) (v5 : Int) (v7 : Int) (v8 : Int) (v15 : Int) (v36 : Int) (v40 : Int) : Nat → Int → Int → ((Int → Option (Int × Int))) → Option (Int × Int)
  | 0, _, _, _ => none
  | m + 1, v51, v52, k2 => f47L24G n v6 v5 v7 v8 v15 v36 v40 v51 v52 (fun v51 v52 => f47L24 n v6 v5 v7 v8 v15 v36 v40 m v51 v52 k2) k2
def f47G (n : Nat) (a0 : Int) (a1 : Int) (a2 : Int) (lp17 : Int → Int → Int → Int → Int → Int → Int → Int → Int → ((Int → Option (Int × Int))) → Option (Int × Int)) (lp24 : Int → Int → Int → Int → Int → Int → Int → Int → Int → ((Int → Option (Int × Int))) → Option (Int × Int)) : Option (Int × Int) :=
  bif (a2 == 0) then
    none
  else
    bif decide (a2 ≤ a0) then
      none
    else
      bif (a0 == 0) then
        chk (!decide (a2 = 0)) <|
        let v1 : Int := IntKind.u64.wrap (a1.tdiv a2)
        chk (!decide (a2 = 0)) <|
        let v2 : Int := a1.tmod a2
        some (v1, v2)
      else
        let v3 : Option (Int) := f60 a2
        chk (v3.isSome) <|
        let v4 : Int := v3.getD (0 : Int)
        let v5 : Int := IntKind.u64.wrap v4
        chk (decide ((0 : Int) ≤ v5)) <|
        let v6 : Int := IntKind.u64.wrap (a2 * 2 ^ min (Int.toNat v5) 64)
        let v7 : Int := v6.fdiv (2 ^ min (Int.toNat 32) 64)
        let v8 : Int := IntKind.u64.wrap ((BitVec.ofInt 64 v6 &&& BitVec.ofInt 64 4294967295).toNat : Int)
        chk (decide ((0 : Int) ≤ v5)) <|
        let v9 : Int := IntKind.u64.wrap (a0 * 2 ^ min (Int.toNat v5) 64)
        let v10 : Int := IntKind.u64.wrap ((64 : Int) - v5)
        chk (decide ((0 : Int) ≤ v10)) <|
        let v11 : Int := a1.fdiv (2 ^ min (Int.toNat v10) 64)
        let v12 : Int := IntKind.u64.wrap ((BitVec.ofInt 64 v9 ||| BitVec.ofInt 64 v11).toNat : Int)
        chk (decide ((0 : Int) ≤ v5)) <|
        let v13 : Int := IntKind.u64.wrap (a1 * 2 ^ min (Int.toNat v5) 64)
        let v14 : Int := v13.fdiv (2 ^ min (Int.toNat 32) 64)
        let v15 : Int := IntKind.u64.wrap ((BitVec.ofInt 64 v13 &&& BitVec.ofInt 64 4294967295).toNat : Int)
        chk (!decide (v7 = 0)) <|
        let v16 : Int := IntKind.u64.wrap (v12.tdiv v7)
        let v17 : Int := IntKind.u64.wrap (v16 * v7)
        let v18 : Int := IntKind.u64.wrap (v12 - v17)
        lp17 v6 v5 v7 v8 v12 v14 v15 v16 v18 (fun v36 =>
            let v37 : Int := IntKind.u64.wrap (v12 * 4294967296)
            let v38 : Int := IntKind.u64.wrap (v37 + v14)
            let v39 : Int := IntKind.u64.wrap (v36 * v6)
            let v40 : Int := IntKind.u64.wrap (v38 - v39)
            chk (!decide (v7 = 0)) <|
            let v41 : Int := IntKind.u64.wrap (v40.tdiv v7)
            let v42 : Int := IntKind.u64.wrap (v41 * v7)
            let v43 : Int := IntKind.u64.wrap (v40 - v42)
            lp24 v6 v5 v7 v8 v15 v36 v40 v43 v41 (fun v61 =>
                let v62 : Int := IntKind.u64.wrap (v36 * 4294967296)
                let v63 : Int := IntKind.u64.wrap (v62 + v61)
                let v64 : Int := IntKind.u64.wrap (v40 * 4294967296)
                let v65 : Int := IntKind.u64.wrap (v64 + v15)
                let v66 : Int := IntKind.u64.wrap (v61 * v6)
                let v67 : Int := IntKind.u64.wrap (v65 - v66)
                chk (decide ((0 : Int) ≤ v5)) <|
                let v68 : Int := v67.fdiv (2 ^ min (Int.toNat v5) 64)
                some (v63, v68)))
def f47 (n : Nat) (a0 : Int) (a1 : Int) (a2 : Int) : Option (Int × Int) := f47G n a0 a1 a2 (fun v6 v5 v7 v8 v12 v14 v15 => f47L17 n v6 v5 v7 v8 v12 v14 v15 (n + 8)) (fun v6 v5 v7 v8 v15 v36 v40 => f47L24 n v6 v5 v7 v8 v15 v36 v40 (n + 8))
/-! f30: sawmill/units.MulDiv -/
def f30G (n : Nat) (a0 : Int) (a1 : Int) (a2 : Int) : Option (Int × Int) :=
  bif decide (a2 ≤ 0) then
    some (0, 9)
  else
    let v1 : Int := f46 a0
    let v2 : Int := f46 a1
    let v3 : Int × Int := f45 v1 v2
    let v4 : Int := IntKind.u64.wrap a2
    bif decide (v3.1 ≥ v4) then
      some (0, 9)
    else
      let v5 : Int := IntKind.u64.wrap a2
      let v6 : Option (Int × Int) := f47 n v3.1 v3.2 v5
      chk (v6.isSome) <|
      let v7 : Int × Int := v6.getD ((0 : Int), (0 : Int))
      bif decide (v7.1 > 9223372036854775808) then
        some (0, 9)
      else
        bif (decide (a0 < 0) == decide (a1 < 0)) then
          bif decide (v7.1 > 9223372036854775807) then
            some (0, 9)
          else
            let v8 : Int := IntKind.i64.wrap v7.1
            some (v8, 0)
        else
          bif decide (v7.2 > 0) then
            let v9 : Int := IntKind.u64.wrap (v7.1 + 1)
            bif decide (v9 > 9223372036854775808) then
              some (0, 9)
            else
              let v10 : Int := IntKind.u64.wrap (0 - v9)
              let v11 : Int := IntKind.i64.wrap v10
              some (v11, 0)
          else
            bif decide (v7.1 > 9223372036854775808) then
              some (0, 9)
            else
              let v12 : Int := IntKind.u64.wrap (0 - v7.1)
              let v13 : Int := IntKind.i64.wrap v12
              some (v13, 0)
def f30 (n : Nat) (a0 : Int) (a1 : Int) (a2 : Int) : Option (Int × Int) := f30G n a0 a1 a2
/-! f14: sawmill/yield.Recovery -/
def f14G (n : Nat) (a0 : Int × Int × Int × Int × Int) : Option (Int) :=
  let v1 : Option (Bool) := f12 n a0
  chk (v1.isSome) <|
  let v2 : Bool := v1.getD false
  bif (!v2) then
    some 0
  else
    bif (a0.1 == 0) then
      some 0
    else
      let v3 : Option (Int × Int) := f30 n 1000 a0.2.1 a0.1
      chk (v3.isSome) <|
      let v4 : Int × Int := v3.getD ((0 : Int), (0 : Int))
      some v4.1
def f14 (n : Nat) (a0 : Int × Int × Int × Int × Int) : Option (Int) := f14G n a0
/-! f21: sawmill/sawmillref22.Recovery -/
def f21L10G (n : Nat) (v24 : Int) (v25 : Int) (v26 : Int) (a0 : Int × Int × Int × Int × Int) (v31 : Int) (v32 : Int) (v33 : Int) (kc : Int → Int → Int → Option (Int)) (k2 : Int → Int → Option (Int)) : Option (Int) :=
  bif decide (v33 < 10) then
    let v34 : Int := IntKind.i64.wrap (a0.1 - v25)
    bif decide (v32 ≥ v34) then
      let v35 : Int := IntKind.i64.wrap (a0.1 - v25)
      let v36 : Int := IntKind.i64.wrap (v32 - v35)
      let v37 : Int := IntKind.i64.wrap (v31 + 1)
      let v38 : Int := IntKind.i64.wrap (v33 + 1)
      kc v37 v36 v38
    else
      let v39 : Int := IntKind.i64.wrap (v32 + v25)
      let v40 : Int := IntKind.i64.wrap (v33 + 1)
      kc v31 v39 v40
  else
    k2 v31 v32
def f21L10 (n : Nat) (v24 : Int) (v25 : Int) (v26 : Int) (a0 : Int × Int × Int × Int × Int) : Nat → Int → Int → Int → ((Int → Int → Option (Int))) → Option (Int)
  | 0, _, _, _, _ => none
  | m + 1, v31, v32, v33, k2 => f21L10G n v24 v25 v26 a0 v31 v32 v33 (fun v31 v32 v33 => f21L10 n v24 v25 v26 a0 m v31 v32 v33 k2) k2
def f21L5G (n : Nat) (a0 : Int × Int × Int × Int × Int) (lp10 : Int → Int → Int → (Int × Int × Int × Int × Int) → Int → Int → Int → ((Int → Int → Option (Int))) → Option (Int)) (v24 : Int) (v25 : Int) (v26 : Int) (kc : Int → Int → Int → Option (Int)) (k0 : Int → Option (Int)) : Option (Int) :=
  bif decide (v26 < 3) then
    lp10 v24 v25 v26 a0 (0 : Int) (0 : Int) (0 : Int) (fun v43 v44 =>
        let v45 : Int := IntKind.i64.wrap ((10 : Int) * v24)
        let v46 : Int := IntKind.i64.wrap (v45 + v43)
        let v47 : Int := IntKind.i64.wrap (v26 + 1)
        kc v46 v44 v47)
  else
    k0 v24
def f21L5 (n : Nat) (a0 : Int × Int × Int × Int × Int) : Nat → Int → Int → Int → ((Int → Option (Int))) → Option (Int)
  | 0, _, _, _, _ => none
  | m + 1, v24, v25, v26, k0 => f21L5G n a0 (fun v24 v25 v26 a0 => f21L10 n v24 v25 v26 a0 (n + 8)) v24 v25 v26 (fun v24 v25 v26 => f21L5 n a0 m v24 v25 v26 k0) k0
def f21G (n : Nat) (a0 : Int × Int × Int × Int × Int) (lp5 : (Int × Int × Int × Int × Int) → Int → Int → Int → ((Int → Option (Int))) → Option (Int)) : Option (Int) :=
  let v1 : Bool := f20 a0
  bif (!v1) then
    some 0
  else
    bif (a0.1 == 0) then
      some 0
    else
      chk (!decide (a0.1 = 0)) <|
      let v2 : Int := IntKind.i64.wrap (a0.2.1.tdiv a0.1)
      chk (!decide (a0.1 = 0)) <|
      let v3 : Int := a0.2.1.tmod a0.1
      lp5 a0 v2 v3 (0 : Int) (fun v49 =>
          some v49)
def f21 (n : Nat) (a0 : Int × Int × Int × Int × Int) : Option (Int) := f21G n a0 (fun a0 => f21L5 n a0 (n + 8))
/-! f6: sawmill/sawmilllaw22.YieldAdds -/
def f6G (n : Nat) (a0 : Int × Int × Int × Int × Int) (a1 : Int × Int × Int × Int × Int) : Option (Bool) :=
  let v1 : Option ((Int × Int × Int × Int × Int) × Int) := f18 n a0 a1
  chk (v1.isSome) <|
  let v2 : (Int × Int × Int × Int × Int) × Int := v1.getD (((0 : Int), (0 : Int), (0 : Int), (0 : Int), (0 : Int)), (0 : Int))
  let v3 : (Int × Int × Int × Int × Int) × Int := f19 a0 a1
  let v4 : Bool := ((v2.1.1 == v3.1.1) && ((v2.1.2.1 == v3.1.2.1) && ((v2.1.2.2.1 == v3.1.2.2.1) && ((v2.1.2.2.2.1 == v3.1.2.2.2.1) && ((v2.1.2.2.2.2 == v3.1.2.2.2.2) && true)))))
  bif v4 then
    bif (v2.2 == v3.2) then
      let v5 : Option (Bool) := f12 n a0
      chk (v5.isSome) <|
      let v6 : Bool := v5.getD false
      let v7 : Bool := f20 a0
      bif (v6 == v7) then
        let v8 : Option (Int) := f14 n a0
        chk (v8.isSome) <|
        let v9 : Int := v8.getD (0 : Int)
        let v10 : Option (Int) := f21 n a0
        chk (v10.isSome) <|
        let v11 : Int := v10.getD (0 : Int)
        bif (v9 == v11) then
          some true
        else
          some false
      else
        some false
    else
      some false
  else
    some false
def f6 (n : Nat) (a0 : Int × Int × Int × Int × Int) (a1 : Int × Int × Int × Int × Int) : Option (Bool) := f6G n a0 a1
/-! f7: sawmill/sawmilllaw22.YieldSums -/
def f7G (n : Nat) (a0 : Int × Int × Int × Int × Int) (a1 : Int × Int × Int × Int × Int) : Option (Bool) :=
  let v1 : Option ((Int × Int × Int × Int × Int) × Int) := f18 n a0 a1
  chk (v1.isSome) <|
  let v2 : (Int × Int × Int × Int × Int) × Int := v1.getD (((0 : Int), (0 : Int), (0 : Int), (0 : Int), (0 : Int)), (0 : Int))
  let v3 : Option ((Int × Int × Int × Int × Int) × Int) := f18 n a1 a0
  chk (v3.isSome) <|
  let v4 : (Int × Int × Int × Int × Int) × Int := v3.getD (((0 : Int), (0 : Int), (0 : Int), (0 : Int), (0 : Int)), (0 : Int))
  let v5 : Bool := (!((v2.1.1 == v4.1.1) && ((v2.1.2.1 == v4.1.2.1) && ((v2.1.2.2.1 == v4.1.2.2.1) && ((v2.1.2.2.2.1 == v4.1.2.2.2.1) && ((v2.1.2.2.2.2 == v4.1.2.2.2.2) && true))))))
  bif v5 then
    some false
  else
    bif (v2.2 != v4.2) then
      some false
    else
      bif (v2.2 != 0) then
        bif (v2.2 != 9) then
          some false
        else
          bif (v2.2 != 0) then
            some true
          else
            let v6 : Option (Bool) := f12 n a0
            chk (v6.isSome) <|
            let v7 : Bool := v6.getD false
            bif (!v7) then
              some true
            else
              let v8 : Option (Bool) := f12 n a1
              chk (v8.isSome) <|
              let v9 : Bool := v8.getD false
              bif (!v9) then
                some true
              else
                bif decide (a0.1 > 1152921504606846976) then
                  some true
                else
                  bif decide (a1.1 > 1152921504606846976) then
                    some true
                  else
                    let v10 : Option (Bool) := f12 n v2.1
                    chk (v10.isSome) <|
                    let v11 : Bool := v10.getD false
                    bif v11 then
                      let v12 : Int := IntKind.i64.wrap (a0.1 + a1.1)
                      bif (v2.1.1 == v12) then
                        some true
                      else
                        some false
                    else
                      some false
      else
        bif (v2.2 != 0) then
          some true
        else
          let v13 : Option (Bool) := f12 n a0
          chk (v13.isSome) <|
          let v14 : Bool := v13.getD false
          bif (!v14) then
            some true
          else
            let v15 : Option (Bool) := f12 n a1
            chk (v15.isSome) <|
            let v16 : Bool := v15.getD false
            bif (!v16) then
              some true
            else
              bif decide (a0.1 > 1152921504606846976) then
                some true
              else
                bif decide (a1.1 > 1152921504606846976) then
                  some true
                else
                  let v17 : Option (Bool) := f12 n v2.1
                  chk (v17.isSome) <|
                  let v18 : Bool := v17.getD false
                  bif v18 then
                    let v19 : Int := IntKind.i64.wrap (a0.1 + a1.1)
                    bif (v2.1.1 == v19) then
                      some true
                    else
                      some false
                  else
                    some false
def f7 (n : Nat) (a0 : Int × Int × Int × Int × Int) (a1 : Int × Int × Int × Int × Int) : Option (Bool) := f7G n a0 a1
/-- What is left to show of YieldAdds. -/
def YieldAddsLaw : Prop := ∀ (a0 : Int × Int × Int × Int × Int) (a1 : Int × Int × Int × Int × Int), ((Lit.int .i64 a0.1).wf = true ∧ (Lit.int .i64 a0.2.1).wf = true ∧ (Lit.int .i64 a0.2.2.1).wf = true ∧ (Lit.int .i64 a0.2.2.2.1).wf = true ∧ (Lit.int .i64 a0.2.2.2.2).wf = true) → ((Lit.int .i64 a1.1).wf = true ∧ (Lit.int .i64 a1.2.1).wf = true ∧ (Lit.int .i64 a1.2.2.1).wf = true ∧ (Lit.int .i64 a1.2.2.2.1).wf = true ∧ (Lit.int .i64 a1.2.2.2.2).wf = true) → ∃ n, f6 n a0 a1 = some true
/-- What is left to show of YieldSums. -/
def YieldSumsLaw : Prop := ∀ (a0 : Int × Int × Int × Int × Int) (a1 : Int × Int × Int × Int × Int), ((Lit.int .i64 a0.1).wf = true ∧ (Lit.int .i64 a0.2.1).wf = true ∧ (Lit.int .i64 a0.2.2.1).wf = true ∧ (Lit.int .i64 a0.2.2.2.1).wf = true ∧ (Lit.int .i64 a0.2.2.2.2).wf = true) → ((Lit.int .i64 a1.1).wf = true ∧ (Lit.int .i64 a1.2.1).wf = true ∧ (Lit.int .i64 a1.2.2.1).wf = true ∧ (Lit.int .i64 a1.2.2.2.1).wf = true ∧ (Lit.int .i64 a1.2.2.2.2).wf = true) → ∃ n, f7 n a0 a1 = some true
end Go.Proofs.Ytcjhegiidnjepaa.Ev
