/- The program's functions as plain Lean functions, part 1, written by a program out of the translation. Definitions; that those without a loop always answer; that loops along a list are recursions over it. -/
import Derived.Test.YtdhgbgbdnifonaaEv1
import GoSem.ClaimData
namespace Go.Proofs.Ytdhgbgbdnifonaa.Ev
set_option linter.unusedVariables false
set_option linter.unusedSimpArgs false
set_option maxRecDepth 100000
theorem cond_some {α : Type} (c : Bool) (x y : α) : (bif c then some x else some y) = some (bif c then x else y) := by cases c <;> rfl
theorem chk_true {β : Type} (k : Option β) : chk true k = k := rfl
theorem chk_false {β : Type} (k : Option β) : chk false k = none := rfl
theorem drop_none {α : Type} {l : List α} {j : Nat} (h : l.drop j = []) : l.length ≤ j := List.drop_eq_nil_iff.1 h
theorem drop_cons {α : Type} {l : List α} {j : Nat} {x : α} {r : List α} (h : l.drop j = x :: r) : j < l.length ∧ (∀ d, l.getD j d = x) ∧ l.drop (j + 1) = r := by
  have h1 : j < l.length := by
    rcases Nat.lt_or_ge j l.length with h1 | h1
    · exact h1
    · rw [List.drop_eq_nil_of_le h1] at h; cases h
  have h2 := List.drop_eq_getElem_cons h1
  rw [h] at h2
  injection h2 with h3 h4
  exact ⟨h1, fun d => by rw [List.getD_eq_getElem?_getD, List.getElem?_eq_getElem h1, h3]; rfl, h4.symm⟩
theorem wrap_is (n : Int) : IntKind.i64.wrap n = (n + 9223372036854775808) % 18446744073709551616 - 9223372036854775808 := by
  have h1 : IntKind.i64.signed = true := rfl
  have h2 : IntKind.i64.bits = 64 := rfl
  have p1 : (2 : Int) ^ 64 = 18446744073709551616 := by decide
  have p2 : (2 : Int) ^ (64 - 1) = 9223372036854775808 := by decide
  unfold IntKind.wrap
  simp only [h1, h2, p1, p2, Bool.true_and, decide_eq_true_eq]
  split <;> omega
theorem wrap_of {n : Int} (h0 : -9223372036854775808 ≤ n) (h1 : n ≤ 9223372036854775807) : IntKind.i64.wrap n = n := by rw [wrap_is]; omega
theorem wrap_succ {j : Nat} (h : j < 4611686018427387904) : IntKind.i64.wrap ((j : Int) + 1) = ((j + 1 : Nat) : Int) := by rw [wrap_of (by omega) (by omega)]; omega
/-! f14: sawmill/sawmilllaw20.Small -/
def f14L4G (n : Nat) (a0 : List (Int × Int × List (Int × Int)) × List (Int × Int × Int × Int × Int × Int × Int) × ByteArray × Int × Int × Int × Int × List Int × List Int × Int) (v2 : Int) (kc : Int → Option (Bool)) (kret : Option (Bool)) (k0 : Option (Bool)) : Option (Bool) :=
  bif decide (v2 < (a0.1.length : Int)) then
    chk (decide ((0 : Int) ≤ v2)) <|
    chk (decide (v2 < (a0.1.length : Int))) <|
    let v3 : Int × Int × List (Int × Int) := a0.1.getD (Int.toNat v2) ((0 : Int), (0 : Int), [])
    bif decide ((v3.2.2.length : Int) > 130) then
      kret
    else
      let v4 : Int := IntKind.i64.wrap (v2 + 1)
      kc v4
  else
    k0
def f14L4 (n : Nat) (a0 : List (Int × Int × List (Int × Int)) × List (Int × Int × Int × Int × Int × Int × Int) × ByteArray × Int × Int × Int × Int × List Int × List Int × Int) : Nat → Int → (Option (Bool)) → (Option (Bool)) → Option (Bool)
  | 0, _, _, _ => none
  | m + 1, v2, kret, k0 => f14L4G n a0 v2 (fun v2 => f14L4 n a0 m v2 kret k0) kret k0
def f14L4B (n : Nat) (a0 : List (Int × Int × List (Int × Int)) × List (Int × Int × Int × Int × Int × Int × Int) × ByteArray × Int × Int × Int × Int × List Int × List Int × Int) (x2 : Int × Int × List (Int × Int)) (v2 : Int) (kc : Option (Bool)) (kret : Option (Bool)) (k0 : Option (Bool)) : Option (Bool) :=
  bif decide ((x2.2.2.length : Int) > 130) then
    kret
  else
    kc
def f14L4F (n : Nat) (a0 : List (Int × Int × List (Int × Int)) × List (Int × Int × Int × Int × Int × Int × Int) × ByteArray × Int × Int × Int × Int × List Int × List Int × Int) (kret : Option (Bool)) (k0 : Option (Bool)) : List (Int × Int × List (Int × Int)) → Nat → Option (Bool)
  | [], j =>
    let v2 : Int := (j : Int)
    k0
  | x2 :: r, j => f14L4B n a0 x2 (j : Int) (f14L4F n a0 kret k0 r (j + 1)) kret k0
theorem f14L4_eq (n : Nat) (a0 : List (Int × Int × List (Int × Int)) × List (Int × Int × Int × Int × Int × Int × Int) × ByteArray × Int × Int × Int × Int × List Int × List Int × Int) (kret : Option (Bool)) (k0 : Option (Bool)) (hl : a0.1.length < 4611686018427387904) : ∀ (r : List (Int × Int × List (Int × Int))) (m j : Nat), a0.1.drop j = r → r.length < m → f14L4 n a0 m (j : Int) kret k0 = f14L4F n a0 kret k0 r j := by
  intro r
  induction r with
  | nil =>
    intro m j h hm
    obtain ⟨m, rfl⟩ : ∃ q, m = q + 1 := ⟨m - 1, by omega⟩
    have h1 := drop_none h
    have c1 : decide ((j : Int) < (a0.1.length : Int)) = false := decide_eq_false (by omega)
    simp only [f14L4, f14L4G, f14L4F, c1, cond_false]
  | cons x r ih =>
    intro m j h hm
    obtain ⟨m, rfl⟩ : ∃ q, m = q + 1 := ⟨m - 1, by omega⟩
    obtain ⟨h1, h2, h3⟩ := drop_cons h
    have hm' : r.length < m := by simp only [List.length_cons] at hm; omega
    have c1 : decide ((j : Int) < (a0.1.length : Int)) = true := decide_eq_true (by omega)
    have c2 : decide ((0 : Int) ≤ (j : Int)) = true := decide_eq_true (by omega)
    have c3 : IntKind.i64.wrap ((j : Int) + 1) = ((j + 1 : Nat) : Int) := wrap_succ (by omega)
    have ih' := ih m (j + 1) h3 hm'
    simp only [f14L4, f14L4G, f14L4F, f14L4B, c1, c2, c3, cond_true, chk_true, Int.toNat_natCast, h2, ih']
theorem f14L4_at (n : Nat) (a0 : List (Int × Int × List (Int × Int)) × List (Int × Int × Int × Int × Int × Int × Int) × ByteArray × Int × Int × Int × Int × List Int × List Int × Int) (kret : Option (Bool)) (k0 : Option (Bool)) (hl : a0.1.length < 4611686018427387904) (hn : a0.1.length < n + 8) : f14L4 n a0 (n + 8) 0 kret k0 = f14L4F n a0 kret k0 a0.1 0 := f14L4_eq n a0 kret k0 hl a0.1 (n + 8) 0 rfl hn
def f14G (n : Nat) (a0 : List (Int × Int × List (Int × Int)) × List (Int × Int × Int × Int × Int × Int × Int) × ByteArray × Int × Int × Int × Int × List Int × List Int × Int) (lp4 : (List (Int × Int × List (Int × Int)) × List (Int × Int × Int × Int × Int × Int × Int) × ByteArray × Int × Int × Int × Int × List Int × List Int × Int) → Int → (Option (Bool)) → (Option (Bool)) → Option (Bool)) : Option (Bool) :=
  bif decide ((a0.1.length : Int) > 30) then
    some false
  else
    bif decide ((a0.2.1.length : Int) > 70) then
      some false
    else
      bif decide ((a0.2.2.2.2.2.2.2.1.length : Int) > 10) then
        some false
      else
        bif decide ((a0.2.2.2.2.2.2.2.2.1.length : Int) > 10) then
          some false
        else
          bif decide ((a0.2.2.1.size : Int) > 100) then
            some false
          else
            lp4 a0 (0 : Int) (
                some false) (
                some true)
def f14 (n : Nat) (a0 : List (Int × Int × List (Int × Int)) × List (Int × Int × Int × Int × Int × Int × Int) × ByteArray × Int × Int × Int × Int × List Int × List Int × Int) : Option (Bool) := f14G n a0 (fun a0 => f14L4 n a0 (n + 8))
/-! f32: sawmill/worth.across -/
def f32 (a0 : Int × Int × Int × Int) : Bool :=
  bif decide (a0.1 ≥ a0.2.1) then
    false
  else
    bif decide (a0.1 < (-600)) then
      false
    else
      bif decide (a0.2.1 > 600) then
        false
      else
        bif decide (a0.2.2.1 ≥ a0.2.2.2) then
          false
        else
          bif decide (a0.2.2.1 < (-600)) then
            false
          else
            bif decide (a0.2.2.2 > 600) then
              false
            else
              true
def f32O (a0 : Int × Int × Int × Int) : Option (Bool) :=
  bif decide (a0.1 ≥ a0.2.1) then
    some false
  else
    bif decide (a0.1 < (-600)) then
      some false
    else
      bif decide (a0.2.1 > 600) then
        some false
      else
        bif decide (a0.2.2.1 ≥ a0.2.2.2) then
          some false
        else
          bif decide (a0.2.2.1 < (-600)) then
            some false
          else
            bif decide (a0.2.2.2 > 600) then
              some false
            else
              some true
theorem f32_o (a0 : Int × Int × Int × Int) : f32O a0 = some (f32 a0) := by
  unfold f32O f32
  first | rfl | (simp only [cond_some]) | (simp only [cond_some]; rfl)
/-! f58: sawmill/section.outside -/
def f58 (a0 : Int × Int) : Bool :=
  let v1 : Int := if a0.2 < a0.1 then a0.2 else a0.1
  bif decide (v1 < (-600)) then
    true
  else
    let v2 : Int := if a0.2 > a0.1 then a0.2 else a0.1
    decide (v2 > 600)
def f58O (a0 : Int × Int) : Option (Bool) :=
  let v1 : Int := if a0.2 < a0.1 then a0.2 else a0.1
  bif decide (v1 < (-600)) then
    some true
  else
    let v2 : Int := if a0.2 > a0.1 then a0.2 else a0.1
    some (decide (v2 > 600))
theorem f58_o (a0 : Int × Int) : f58O a0 = some (f58 a0) := by
  unfold f58O f58
  first | rfl | (simp only [cond_some]) | (simp only [cond_some]; rfl)
/-! f59: sawmill/section.empty -/
def f59 (a0 : Int × Int) : Bool :=
  decide (a0.1 ≥ a0.2)
def f59O (a0 : Int × Int) : Option (Bool) :=
  some (decide (a0.1 ≥ a0.2))
theorem f59_o (a0 : Int × Int) : f59O a0 = some (f59 a0) := by
  unfold f59O f59
  first | rfl | (simp only [cond_some]) | (simp only [cond_some]; rfl)
/-! f43: sawmill/section.Check -/
def f43L7G (n : Nat) (a0 : Int × List (Int × Int)) (v4 : Int) (kc : Int → Option (Int)) (kret : Option (Int)) (k0 : Option (Int)) : Option (Int) :=
  bif decide (v4 < (a0.2.length : Int)) then
    chk (decide ((0 : Int) ≤ v4)) <|
    chk (decide (v4 < (a0.2.length : Int))) <|
    let v5 : Int × Int := a0.2.getD (Int.toNat v4) ((0 : Int), (0 : Int))
    let v6 : Bool := f58 v5
    bif v6 then
      kret
    else
      let v7 : Int := IntKind.i64.wrap (v4 + 1)
      kc v7
  else
    k0
def f43L7 (n : Nat) (a0 : Int × List (Int × Int)) : Nat → Int → (Option (Int)) → (Option (Int)) → Option (Int)
  | 0, _, _, _ => none
  | m + 1, v4, kret, k0 => f43L7G n a0 v4 (fun v4 => f43L7 n a0 m v4 kret k0) kret k0
def f43L7B (n : Nat) (a0 : Int × List (Int × Int)) (x4 : Int × Int) (v4 : Int) (kc : Option (Int)) (kret : Option (Int)) (k0 : Option (Int)) : Option (Int) :=
  let v6 : Bool := f58 x4
  bif v6 then
    kret
  else
    kc
def f43L7F (n : Nat) (a0 : Int × List (Int × Int)) (kret : Option (Int)) (k0 : Option (Int)) : List (Int × Int) → Nat → Option (Int)
  | [], j =>
    let v4 : Int := (j : Int)
    k0
  | x4 :: r, j => f43L7B n a0 x4 (j : Int) (f43L7F n a0 kret k0 r (j + 1)) kret k0
theorem f43L7_eq (n : Nat) (a0 : Int × List (Int × Int)) (kret : Option (Int)) (k0 : Option (Int)) (hl : a0.2.length < 4611686018427387904) : ∀ (r : List (Int × Int)) (m j : Nat), a0.2.drop j = r → r.length < m → f43L7 n a0 m (j : Int) kret k0 = f43L7F n a0 kret k0 r j := by
  intro r
  induction r with
  | nil =>
    intro m j h hm
    obtain ⟨m, rfl⟩ : ∃ q, m = q + 1 := ⟨m - 1, by omega⟩
    have h1 := drop_none h
    have c1 : decide ((j : Int) < (a0.2.length : Int)) = false := decide_eq_false (by omega)
    simp only [f43L7, f43L7G, f43L7F, c1, cond_false]
  | cons x r ih =>
    intro m j h hm
    obtain ⟨m, rfl⟩ : ∃ q, m = q + 1 := ⟨m - 1, by omega⟩
    obtain ⟨h1, h2, h3⟩ := drop_cons h
    have hm' : r.length < m := by simp only [List.length_cons] at hm; omega
    have c1 : decide ((j : Int) < (a0.2.length : Int)) = true := decide_eq_true (by omega)
    have c2 : decide ((0 : Int) ≤ (j : Int)) = true := decide_eq_true (by omega)
    have c3 : IntKind.i64.wrap ((j : Int) + 1) = ((j + 1 : Nat) : Int) := wrap_succ (by omega)
    have ih' := ih m (j + 1) h3 hm'
    simp only [f43L7, f43L7G, f43L7F, f43L7B, c1, c2, c3, cond_true, chk_true, Int.toNat_natCast, h2, ih']
theorem f43L7_at (n : Nat) (a0 : Int × List (Int × Int)) (kret : Option (Int)) (k0 : Option (Int)) (hl : a0.2.length < 4611686018427387904) (hn : a0.2.length < n + 8) : f43L7 n a0 (n + 8) 0 kret k0 = f43L7F n a0 kret k0 a0.2 0 := f43L7_eq n a0 kret k0 hl a0.2 (n + 8) 0 rfl hn
def f43L19G (n : Nat) (a0 : Int × List (Int × Int)) (v15 : Int) (kc : Int → Option (Int)) (kret : Option (Int)) (k2 : Option (Int)) : Option (Int) :=
  bif decide (v15 < (a0.2.length : Int)) then
    chk (decide ((0 : Int) ≤ v15)) <|
    chk (decide (v15 < (a0.2.length : Int))) <|
    let v16 : Int × Int := a0.2.getD (Int.toNat v15) ((0 : Int), (0 : Int))
    let v17 : Bool := f59 v16
    bif v17 then
      bif (!((v16.1 == 0) && ((v16.2 == 0) && true))) then
        kret
      else
        let v18 : Int := IntKind.i64.wrap (v15 + 1)
        kc v18
    else
      let v19 : Int := IntKind.i64.wrap (v15 + 1)
      kc v19
  else
    k2
def f43L19 (n : Nat) (a0 : Int × List (Int × Int)) : Nat → Int → (Option (Int)) → (Option (Int)) → Option (Int)
  | 0, _, _, _ => none
  | m + 1, v15, kret, k2 => f43L19G n a0 v15 (fun v15 => f43L19 n a0 m v15 kret k2) kret k2
def f43L19B (n : Nat) (a0 : Int × List (Int × Int)) (x15 : Int × Int) (v15 : Int) (kc : Option (Int)) (kret : Option (Int)) (k2 : Option (Int)) : Option (Int) :=
  let v17 : Bool := f59 x15
  bif v17 then
    bif (!((x15.1 == 0) && ((x15.2 == 0) && true))) then
      kret
    else
      kc
  else
    kc
def f43L19F (n : Nat) (a0 : Int × List (Int × Int)) (kret : Option (Int)) (k2 : Option (Int)) : List (Int × Int) → Nat → Option (Int)
  | [], j =>
    let v15 : Int := (j : Int)
    k2
  | x15 :: r, j => f43L19B n a0 x15 (j : Int) (f43L19F n a0 kret k2 r (j + 1)) kret k2
theorem f43L19_eq (n : Nat) (a0 : Int × List (Int × Int)) (kret : Option (Int)) (k2 : Option (Int)) (hl : a0.2.length < 4611686018427387904) : ∀ (r : List (Int × Int)) (m j : Nat), a0.2.drop j = r → r.length < m → f43L19 n a0 m (j : Int) kret k2 = f43L19F n a0 kret k2 r j := by
  intro r
  induction r with
  | nil =>
    intro m j h hm
    obtain ⟨m, rfl⟩ : ∃ q, m = q + 1 := ⟨m - 1, by omega⟩
    have h1 := drop_none h
    have c1 : decide ((j : Int) < (a0.2.length : Int)) = false := decide_eq_false (by omega)
    simp only [f43L19, f43L19G, f43L19F, c1, cond_false]
  | cons x r ih =>
    intro m j h hm
    obtain ⟨m, rfl⟩ : ∃ q, m = q + 1 := ⟨m - 1, by omega⟩
    obtain ⟨h1, h2, h3⟩ := drop_cons h
    have hm' : r.length < m := by simp only [List.length_cons] at hm; omega
    have c1 : decide ((j : Int) < (a0.2.length : Int)) = true := decide_eq_true (by omega)
    have c2 : decide ((0 : Int) ≤ (j : Int)) = true := decide_eq_true (by omega)
    have c3 : IntKind.i64.wrap ((j : Int) + 1) = ((j + 1 : Nat) : Int) := wrap_succ (by omega)
    have ih' := ih m (j + 1) h3 hm'
    simp only [f43L19, f43L19G, f43L19F, f43L19B, c1, c2, c3, cond_true, chk_true, Int.toNat_natCast, h2, ih']
theorem f43L19_at (n : Nat) (a0 : Int × List (Int × Int)) (kret : Option (Int)) (k2 : Option (Int)) (hl : a0.2.length < 4611686018427387904) (hn : a0.2.length < n + 8) : f43L19 n a0 (n + 8) 0 kret k2 = f43L19F n a0 kret k2 a0.2 0 := f43L19_eq n a0 kret k2 hl a0.2 (n + 8) 0 rfl hn
def f43G (n : Nat) (a0 : Int × List (Int × Int)) (lp7 : (Int × List (Int × Int)) → Int → (Option (Int)) → (Option (Int)) → Option (Int)) (lp19 : (Int × List (Int × Int)) → Int → (Option (Int)) → (Option (Int)) → Option (Int)) : Option (Int) :=
  bif decide ((a0.2.length : Int) > 120) then
    some 4
  else
    bif decide (a0.1 < (-60)) then
      some 9
    else
      let v1 : Int := IntKind.i64.wrap ((60 : Int) - (a0.2.length : Int))
      bif decide (a0.1 > v1) then
        some 9
      else
        lp7 a0 (0 : Int) (
            some 9) (
            bif ((a0.2.length : Int) == 0) then
              bif (a0.1 != 0) then
                some 19
              else
                some 0
            else
              chk (decide ((0 : Int) < (a0.2.length : Int))) <|
              let v8 : Int × Int := a0.2.getD 0 ((0 : Int), (0 : Int))
              let v9 : Bool := f59 v8
              bif v9 then
                some 19
              else
                let v10 : Int := IntKind.i64.wrap ((a0.2.length : Int) - 1)
                chk (decide ((0 : Int) ≤ v10)) <|
                chk (decide (v10 < (a0.2.length : Int))) <|
                let v11 : Int × Int := a0.2.getD (Int.toNat v10) ((0 : Int), (0 : Int))
                let v12 : Bool := f59 v11
                bif v12 then
                  some 19
                else
                  lp19 a0 (0 : Int) (
                      some 19) (
                      some 0))
def f43 (n : Nat) (a0 : Int × List (Int × Int)) : Option (Int) := f43G n a0 (fun a0 => f43L7 n a0 (n + 8)) (fun a0 => f43L19 n a0 (n + 8))
/-! f25: sawmill/solid.Check -/
def f25L7G (n : Nat) (a0 : List (Int × Int × List (Int × Int))) (v5 : Int) (v6 : Int) (kc : Int → Int → Option (Int)) (kret : Int → Option (Int)) (k0 : Option (Int)) : Option (Int) :=
  bif decide (v6 < (a0.length : Int)) then
    chk (decide ((0 : Int) ≤ v6)) <|
    chk (decide (v6 < (a0.length : Int))) <|
    let v7 : Int × Int × List (Int × Int) := a0.getD (Int.toNat v6) ((0 : Int), (0 : Int), [])
    let v8 : Option (Int) := f43 n v7.2
    chk (v8.isSome) <|
    let v9 : Int := v8.getD (0 : Int)
    bif (v9 != 0) then
      kret v9
    else
      bif ((v7.2.2.length : Int) == 0) then
        kret (18 : Int)
      else
        bif decide (v7.1 < 1) then
          kret (9 : Int)
        else
          bif decide (v7.1 > v5) then
            kret (9 : Int)
          else
            let v10 : Int := IntKind.i64.wrap (v5 - v7.1)
            let v11 : Int := IntKind.i64.wrap (v6 + 1)
            kc v10 v11
  else
    k0
def f25L7 (n : Nat) (a0 : List (Int × Int × List (Int × Int))) : Nat → Int → Int → ((Int → Option (Int))) → (Option (Int)) → Option (Int)
  | 0, _, _, _, _ => none
  | m + 1, v5, v6, kret, k0 => f25L7G n a0 v5 v6 (fun v5 v6 => f25L7 n a0 m v5 v6 kret k0) kret k0
def f25L7B (n : Nat) (a0 : List (Int × Int × List (Int × Int))) (x6 : Int × Int × List (Int × Int)) (v6 : Int) (v5 : Int) (kc : Int → Option (Int)) (kret : Int → Option (Int)) (k0 : Option (Int)) : Option (Int) :=
  let v8 : Option (Int) := f43 n x6.2
  chk (v8.isSome) <|
  let v9 : Int := v8.getD (0 : Int)
  bif (v9 != 0) then
    kret v9
  else
    bif ((x6.2.2.length : Int) == 0) then
      kret (18 : Int)
    else
      bif decide (x6.1 < 1) then
        kret (9 : Int)
      else
        bif decide (x6.1 > v5) then
          kret (9 : Int)
        else
          let v10 : Int := IntKind.i64.wrap (v5 - x6.1)
          kc v10
def f25L7F (n : Nat) (a0 : List (Int × Int × List (Int × Int))) (kret : Int → Option (Int)) (k0 : Option (Int)) : List (Int × Int × List (Int × Int)) → Nat → Int → Option (Int)
  | [], j, v5 =>
    let v6 : Int := (j : Int)
    k0
  | x6 :: r, j, v5 => f25L7B n a0 x6 (j : Int) v5 (fun v5 => f25L7F n a0 kret k0 r (j + 1) v5) kret k0
theorem f25L7_eq (n : Nat) (a0 : List (Int × Int × List (Int × Int))) (kret : Int → Option (Int)) (k0 : Option (Int)) (hl : a0.length < 4611686018427387904) : ∀ (r : List (Int × Int × List (Int × Int))) (m j : Nat) (v5 : Int), a0.drop j = r → r.length < m → f25L7 n a0 m v5 (j : Int) kret k0 = f25L7F n a0 kret k0 r j v5 := by
  intro r
  induction r with
  | nil =>
    intro m j v5 h hm
    obtain ⟨m, rfl⟩ : ∃ q, m = q + 1 := ⟨m - 1, by omega⟩
    have h1 := drop_none h
    have c1 : decide ((j : Int) < (a0.length : Int)) = false := decide_eq_false (by omega)
    simp only [f25L7, f25L7G, f25L7F, c1, cond_false]
  | cons x r ih =>
    intro m j v5 h hm
    obtain ⟨m, rfl⟩ : ∃ q, m = q + 1 := ⟨m - 1, by omega⟩
    obtain ⟨h1, h2, h3⟩ := drop_cons h
    have hm' : r.length < m := by simp only [List.length_cons] at hm; omega
    have c1 : decide ((j : Int) < (a0.length : Int)) = true := decide_eq_true (by omega)
    have c2 : decide ((0 : Int) ≤ (j : Int)) = true := decide_eq_true (by omega)
    have c3 : IntKind.i64.wrap ((j : Int) + 1) = ((j + 1 : Nat) : Int) := wrap_succ (by omega)
    have ih' := fun v5 => ih m (j + 1) v5 h3 hm'
    simp only [f25L7, f25L7G, f25L7F, f25L7B, c1, c2, c3, cond_true, chk_true, Int.toNat_natCast, h2, ih']
theorem f25L7_at (n : Nat) (a0 : List (Int × Int × List (Int × Int))) (kret : Int → Option (Int)) (k0 : Option (Int)) (hl : a0.length < 4611686018427387904) (hn : a0.length < n + 8) (v5 : Int) : f25L7 n a0 (n + 8) v5 0 kret k0 = f25L7F n a0 kret k0 a0 0 v5 := f25L7_eq n a0 kret k0 hl a0 (n + 8) 0 v5 rfl hn
def f25G (n : Nat) (a0 : List (Int × Int × List (Int × Int))) (lp7 : (List (Int × Int × List (Int × Int))) → Int → Int → ((Int → Option (Int))) → (Option (Int)) → Option (Int)) : Option (Int) :=
  bif ((a0.length : Int) == 0) then
    some 3
  else
    bif decide ((a0.length : Int) > 24) then
      some 4
    else
      lp7 a0 (20000 : Int) (0 : Int) (fun v13 =>
          some v13) (
          some 0)
def f25 (n : Nat) (a0 : List (Int × Int × List (Int × Int))) : Option (Int) := f25G n a0 (fun a0 => f25L7 n a0 (n + 8))
/-! f45: sawmill/solid.whole -/
def f45 : Int × Int :=
  (0, 20000)
def f45O : Option (Int × Int) :=
  some (0, 20000)
theorem f45_o : f45O = some (f45) := by
  unfold f45O f45
  first | rfl | (simp only [cond_some]) | (simp only [cond_some]; rfl)
/-! f78: sawmill/span.empty -/
def f78 (a0 : Int × Int) : Bool :=
  decide (a0.1 ≥ a0.2)
def f78O (a0 : Int × Int) : Option (Bool) :=
  some (decide (a0.1 ≥ a0.2))
theorem f78_o (a0 : Int × Int) : f78O a0 = some (f78 a0) := by
  unfold f78O f78
  first | rfl | (simp only [cond_some]) | (simp only [cond_some]; rfl)
/-! f60: sawmill/span.Meet -/
def f60 (a0 : Int × Int) (a1 : Int × Int) : Int × Int :=
  let v1 : Int := if a1.1 > a0.1 then a1.1 else a0.1
  let v2 : Int := if a1.2 < a0.2 then a1.2 else a0.2
  let v3 : Bool := f78 a0
  bif v3 then
    (0, 0)
  else
    let v4 : Bool := f78 a1
    bif v4 then
      (0, 0)
    else
      let v5 : Bool := f78 (v1, v2)
      bif v5 then
        (0, 0)
      else
        (v1, v2)
def f60O (a0 : Int × Int) (a1 : Int × Int) : Option (Int × Int) :=
  let v1 : Int := if a1.1 > a0.1 then a1.1 else a0.1
  let v2 : Int := if a1.2 < a0.2 then a1.2 else a0.2
  let v3 : Bool := f78 a0
  bif v3 then
    some (0, 0)
  else
    let v4 : Bool := f78 a1
    bif v4 then
      some (0, 0)
    else
      let v5 : Bool := f78 (v1, v2)
      bif v5 then
        some (0, 0)
      else
        some (v1, v2)
theorem f60_o (a0 : Int × Int) (a1 : Int × Int) : f60O a0 a1 = some (f60 a0 a1) := by
  unfold f60O f60
  first | rfl | (simp only [cond_some]) | (simp only [cond_some]; rfl)
/-! f44: sawmill/solid.parts -/
def f44L6G (n : Nat) (a0 : List (Int × Int × List (Int × Int))) (a1 : Int × Int) (v9 : Int) (v10 : Int) (v11 : List (Int × Int × Int × List (Int × Int))) (kc : Int → Int → (List (Int × Int × Int × List (Int × Int))) → Option (List (Int × Int × Int × List (Int × Int)))) (k0 : (List (Int × Int × Int × List (Int × Int))) → Option (List (Int × Int × Int × List (Int × Int)))) : Option (List (Int × Int × Int × List (Int × Int))) :=
  bif decide (v10 < (a0.length : Int)) then
    chk (decide ((0 : Int) ≤ v10)) <|
    chk (decide (v10 < (a0.length : Int))) <|
    let v12 : Int × Int × List (Int × Int) := a0.getD (Int.toNat v10) ((0 : Int), (0 : Int), [])
    let v13 : Int := IntKind.i64.wrap (v9 + v12.1)
    let v14 : Int × Int := f60 (v9, v13) a1
    bif decide (v14.1 < v14.2) then
      chk (decide (v11.length < 68719476736)) <|
      let v15 : List (Int × Int × Int × List (Int × Int)) := v11 ++ [(v14.1, v14.2, v12.2.1, v12.2.2)]
      let v16 : Int := IntKind.i64.wrap (v9 + v12.1)
      let v17 : Int := IntKind.i64.wrap (v10 + 1)
      kc v16 v17 v15
    else
      let v18 : Int := IntKind.i64.wrap (v9 + v12.1)
      let v19 : Int := IntKind.i64.wrap (v10 + 1)
      kc v18 v19 v11
  else
    k0 v11
def f44L6 (n : Nat) (a0 : List (Int × Int × List (Int × Int))) (a1 : Int × Int) : Nat → Int → Int → (List (Int × Int × Int × List (Int × Int))) → (((List (Int × Int × Int × List (Int × Int))) → Option (List (Int × Int × Int × List (Int × Int))))) → Option (List (Int × Int × Int × List (Int × Int)))
  | 0, _, _, _, _ => none
  | m + 1, v9, v10, v11, k0 => f44L6G n a0 a1 v9 v10 v11 (fun v9 v10 v11 => f44L6 n a0 a1 m v9 v10 v11 k0) k0
def f44L6B (n : Nat) (a0 : List (Int × Int × List (Int × Int))) (a1 : Int × Int) (x10 : Int × Int × List (Int × Int)) (v10 : Int) (v9 : Int) (v11 : List (Int × Int × Int × List (Int × Int))) (kc : Int → (List (Int × Int × Int × List (Int × Int))) → Option (List (Int × Int × Int × List (Int × Int)))) (k0 : (List (Int × Int × Int × List (Int × Int))) → Option (List (Int × Int × Int × List (Int × Int)))) : Option (List (Int × Int × Int × List (Int × Int))) :=
  let v13 : Int := IntKind.i64.wrap (v9 + x10.1)
  let v14 : Int × Int := f60 (v9, v13) a1
  bif decide (v14.1 < v14.2) then
    chk (decide (v11.length < 68719476736)) <|
    let v15 : List (Int × Int × Int × List (Int × Int)) := v11 ++ [(v14.1, v14.2, x10.2.1, x10.2.2)]
    let v16 : Int := IntKind.i64.wrap (v9 + x10.1)
    kc v16 v15
  else
    let v18 : Int := IntKind.i64.wrap (v9 + x10.1)
    kc v18 v11
def f44L6F (n : Nat) (a0 : List (Int × Int × List (Int × Int))) (a1 : Int × Int) (k0 : (List (Int × Int × Int × List (Int × Int))) → Option (List (Int × Int × Int × List (Int × Int)))) : List (Int × Int × List (Int × Int)) → Nat → Int → (List (Int × Int × Int × List (Int × Int))) → Option (List (Int × Int × Int × List (Int × Int)))
  | [], j, v9, v11 =>
    let v10 : Int := (j : Int)
    k0 v11
  | x10 :: r, j, v9, v11 => f44L6B n a0 a1 x10 (j : Int) v9 v11 (fun v9 v11 => f44L6F n a0 a1 k0 r (j + 1) v9 v11) k0
theorem f44L6_eq (n : Nat) (a0 : List (Int × Int × List (Int × Int))) (a1 : Int × Int) (k0 : (List (Int × Int × Int × List (Int × Int))) → Option (List (Int × Int × Int × List (Int × Int)))) (hl : a0.length < 4611686018427387904) : ∀ (r : List (Int × Int × List (Int × Int))) (m j : Nat) (v9 : Int) (v11 : List (Int × Int × Int × List (Int × Int))), a0.drop j = r → r.length < m → f44L6 n a0 a1 m v9 (j : Int) v11 k0 = f44L6F n a0 a1 k0 r j v9 v11 := by
  intro r
  induction r with
  | nil =>
    intro m j v9 v11 h hm
    obtain ⟨m, rfl⟩ : ∃ q, m = q + 1 := ⟨m - 1, by omega⟩
    have h1 := drop_none h
    have c1 : decide ((j : Int) < (a0.length : Int)) = false := decide_eq_false (by omega)
    simp only [f44L6, f44L6G, f44L6F, c1, cond_false]
  | cons x r ih =>
    intro m j v9 v11 h hm
    obtain ⟨m, rfl⟩ : ∃ q, m = q + 1 := ⟨m - 1, by omega⟩
    obtain ⟨h1, h2, h3⟩ := drop_cons h
    have hm' : r.length < m := by simp only [List.length_cons] at hm; omega
    have c1 : decide ((j : Int) < (a0.length : Int)) = true := decide_eq_true (by omega)
    have c2 : decide ((0 : Int) ≤ (j : Int)) = true := decide_eq_true (by omega)
    have c3 : IntKind.i64.wrap ((j : Int) + 1) = ((j + 1 : Nat) : Int) := wrap_succ (by omega)
    have ih' := fun v9 v11 => ih m (j + 1) v9 v11 h3 hm'
    simp only [f44L6, f44L6G, f44L6F, f44L6B, c1, c2, c3, cond_true, chk_true, Int.toNat_natCast, h2, ih']
theorem f44L6_at (n : Nat) (a0 : List (Int × Int × List (Int × Int))) (a1 : Int × Int) (k0 : (List (Int × Int × Int × List (Int × Int))) → Option (List (Int × Int × Int × List (Int × Int)))) (hl : a0.length < 4611686018427387904) (hn : a0.length < n + 8) (v9 : Int) (v11 : List (Int × Int × Int × List (Int × Int))) : f44L6 n a0 a1 (n + 8) v9 0 v11 k0 = f44L6F n a0 a1 k0 a0 0 v9 v11 := f44L6_eq n a0 a1 k0 hl a0 (n + 8) 0 v9 v11 rfl hn
def f44G (n : Nat) (a0 : List (Int × Int × List (Int × Int))) (a1 : Int × Int) (lp6 : (List (Int × Int × List (Int × Int))) → (Int × Int) → Int → Int → (List (Int × Int × Int × List (Int × Int))) → (((List (Int × Int × Int × List (Int × Int))) → Option (List (Int × Int × Int × List (Int × Int))))) → Option (List (Int × Int × Int × List (Int × Int)))) : Option (List (Int × Int × Int × List (Int × Int))) :=
  let v1 : Option (Int) := f25 n a0
  chk (v1.isSome) <|
  let v2 : Int := v1.getD (0 : Int)
  bif (v2 != 0) then
    some []
  else
    lp6 a0 a1 (0 : Int) (0 : Int) [] (fun v21 =>
        some v21)
def f44 (n : Nat) (a0 : List (Int × Int × List (Int × Int))) (a1 : Int × Int) : Option (List (Int × Int × Int × List (Int × Int))) := f44G n a0 a1 (fun a0 a1 => f44L6 n a0 a1 (n + 8))
/-! f27: sawmill/solid.Length -/
def f27G (n : Nat) (a0 : List (Int × Int × List (Int × Int))) : Option (Int) :=
  let v1 : Option (List (Int × Int × Int × List (Int × Int))) := f44 n a0 f45
  chk (v1.isSome) <|
  let v2 : List (Int × Int × Int × List (Int × Int)) := v1.getD []
  bif ((v2.length : Int) == 0) then
    some 0
  else
    let v3 : Int := IntKind.i64.wrap ((v2.length : Int) - 1)
    chk (decide ((0 : Int) ≤ v3)) <|
    chk (decide (v3 < (v2.length : Int))) <|
    let v4 : Int × Int × Int × List (Int × Int) := v2.getD (Int.toNat v3) ((0 : Int), (0 : Int), (0 : Int), [])
    some v4.2.1
def f27 (n : Nat) (a0 : List (Int × Int × List (Int × Int))) : Option (Int) := f27G n a0
/-! f61: sawmill/section.valid -/
def f61G (n : Nat) (a0 : Int × List (Int × Int)) : Option (Int × List (Int × Int)) :=
  let v1 : Option (Int) := f43 n a0
  chk (v1.isSome) <|
  let v2 : Int := v1.getD (0 : Int)
  bif (v2 != 0) then
    some (0, [])
  else
    some a0
def f61 (n : Nat) (a0 : Int × List (Int × Int)) : Option (Int × List (Int × Int)) := f61G n a0
/-! f62: sawmill/span.Len -/
def f62 (a0 : Int × Int) : Int :=
  let v1 : Bool := f78 a0
  bif v1 then
    0
  else
    bif decide (a0.1 < 0) then
      let v2 : Int := IntKind.i64.wrap ((9223372036854775807 : Int) + a0.1)
      bif decide (a0.2 > v2) then
        9223372036854775807
      else
        let v3 : Int := IntKind.i64.wrap (a0.2 - a0.1)
        v3
    else
      let v4 : Int := IntKind.i64.wrap (a0.2 - a0.1)
      v4
def f62O (a0 : Int × Int) : Option (Int) :=
  let v1 : Bool := f78 a0
  bif v1 then
    some 0
  else
    bif decide (a0.1 < 0) then
      let v2 : Int := IntKind.i64.wrap ((9223372036854775807 : Int) + a0.1)
      bif decide (a0.2 > v2) then
        some 9223372036854775807
      else
        let v3 : Int := IntKind.i64.wrap (a0.2 - a0.1)
        some v3
    else
      let v4 : Int := IntKind.i64.wrap (a0.2 - a0.1)
      some v4
theorem f62_o (a0 : Int × Int) : f62O a0 = some (f62 a0) := by
  unfold f62O f62
  first | rfl | (simp only [cond_some]) | (simp only [cond_some]; rfl)
/-! f46: sawmill/section.Within -/
def f46L4G (n : Nat) (v2 : Int × List (Int × Int)) (a1 : Int × Int × Int × Int) (v13 : Int) (v14 : Int) (kc : Int → Int → Option (Int)) (k0 : Int → Option (Int)) : Option (Int) :=
  bif decide (v14 < (v2.2.length : Int)) then
    chk (decide ((0 : Int) ≤ v14)) <|
    chk (decide (v14 < (v2.2.length : Int))) <|
    let v15 : Int × Int := v2.2.getD (Int.toNat v14) ((0 : Int), (0 : Int))
    let v16 : Int := IntKind.i64.wrap (v2.1 + v14)
    let v17 : Int := IntKind.i64.wrap ((10 : Int) * v16)
    let v18 : Int × Int := f60 v15 (a1.1, a1.2.1)
    let v19 : Int := f62 v18
    let v20 : Int := IntKind.i64.wrap (v17 + 10)
    let v21 : Int × Int := f60 (v17, v20) a1.2.2
    let v22 : Int := f62 v21
    let v23 : Int := IntKind.i64.wrap (v19 * v22)
    let v24 : Int := IntKind.i64.wrap (v13 + v23)
    let v25 : Int := IntKind.i64.wrap (v14 + 1)
    kc v24 v25
  else
    k0 v13
def f46L4 (n : Nat) (v2 : Int × List (Int × Int)) (a1 : Int × Int × Int × Int) : Nat → Int → Int → ((Int → Option (Int))) → Option (Int)
  | 0, _, _, _ => none
  | m + 1, v13, v14, k0 => f46L4G n v2 a1 v13 v14 (fun v13 v14 => f46L4 n v2 a1 m v13 v14 k0) k0
def f46L4B (n : Nat) (v2 : Int × List (Int × Int)) (a1 : Int × Int × Int × Int) (x14 : Int × Int) (v14 : Int) (v13 : Int) (kc : Int → Option (Int)) (k0 : Int → Option (Int)) : Option (Int) :=
  let v16 : Int := IntKind.i64.wrap (v2.1 + v14)
  let v17 : Int := IntKind.i64.wrap ((10 : Int) * v16)
  let v18 : Int × Int := f60 x14 (a1.1, a1.2.1)
  let v19 : Int := f62 v18
  let v20 : Int := IntKind.i64.wrap (v17 + 10)
  let v21 : Int × Int := f60 (v17, v20) a1.2.2
  let v22 : Int := f62 v21
  let v23 : Int := IntKind.i64.wrap (v19 * v22)
  let v24 : Int := IntKind.i64.wrap (v13 + v23)
  kc v24
def f46L4F (n : Nat) (v2 : Int × List (Int × Int)) (a1 : Int × Int × Int × Int) (k0 : Int → Option (Int)) : List (Int × Int) → Nat → Int → Option (Int)
  | [], j, v13 =>
    let v14 : Int := (j : Int)
    k0 v13
  | x14 :: r, j, v13 => f46L4B n v2 a1 x14 (j : Int) v13 (fun v13 => f46L4F n v2 a1 k0 r (j + 1) v13) k0
theorem f46L4_eq (n : Nat) (v2 : Int × List (Int × Int)) (a1 : Int × Int × Int × Int) (k0 : Int → Option (Int)) (hl : v2.2.length < 4611686018427387904) : ∀ (r : List (Int × Int)) (m j : Nat) (v13 : Int), v2.2.drop j = r → r.length < m → f46L4 n v2 a1 m v13 (j : Int) k0 = f46L4F n v2 a1 k0 r j v13 := by
  intro r
  induction r with
  | nil =>
    intro m j v13 h hm
    obtain ⟨m, rfl⟩ : ∃ q, m = q + 1 := ⟨m - 1, by omega⟩
    have h1 := drop_none h
    have c1 : decide ((j : Int) < (v2.2.length : Int)) = false := decide_eq_false (by omega)
    simp only [f46L4, f46L4G, f46L4F, c1, cond_false]
  | cons x r ih =>
    intro m j v13 h hm
    obtain ⟨m, rfl⟩ : ∃ q, m = q + 1 := ⟨m - 1, by omega⟩
    obtain ⟨h1, h2, h3⟩ := drop_cons h
    have hm' : r.length < m := by simp only [List.length_cons] at hm; omega
    have c1 : decide ((j : Int) < (v2.2.length : Int)) = true := decide_eq_true (by omega)
    have c2 : decide ((0 : Int) ≤ (j : Int)) = true := decide_eq_true (by omega)
    have c3 : IntKind.i64.wrap ((j : Int) + 1) = ((j + 1 : Nat) : Int) := wrap_succ (by omega)
    have ih' := fun v13 => ih m (j + 1) v13 h3 hm'
    simp only [f46L4, f46L4G, f46L4F, f46L4B, c1, c2, c3, cond_true, chk_true, Int.toNat_natCast, h2, ih']
theorem f46L4_at (n : Nat) (v2 : Int × List (Int × Int)) (a1 : Int × Int × Int × Int) (k0 : Int → Option (Int)) (hl : v2.2.length < 4611686018427387904) (hn : v2.2.length < n + 8) (v13 : Int) : f46L4 n v2 a1 (n + 8) v13 0 k0 = f46L4F n v2 a1 k0 v2.2 0 v13 := f46L4_eq n v2 a1 k0 hl v2.2 (n + 8) 0 v13 rfl hn
def f46G (n : Nat) (a0 : Int × List (Int × Int)) (a1 : Int × Int × Int × Int) (lp4 : (Int × List (Int × Int)) → (Int × Int × Int × Int) → Int → Int → ((Int → Option (Int))) → Option (Int)) : Option (Int) :=
  let v1 : Option (Int × List (Int × Int)) := f61 n a0
  chk (v1.isSome) <|
  let v2 : Int × List (Int × Int) := v1.getD ((0 : Int), [])
  lp4 v2 a1 (0 : Int) (0 : Int) (fun v27 =>
      some v27)
def f46 (n : Nat) (a0 : Int × List (Int × Int)) (a1 : Int × Int × Int × Int) : Option (Int) := f46G n a0 a1 (fun v2 a1 => f46L4 n v2 a1 (n + 8))
/-! f33: sawmill/worth.lacks -/
def f33L4G (n : Nat) (v3 : Int) (a0 : List (Int × Int × List (Int × Int))) (a1 : Int × Int × Int × Int) (v15 : Int) (v16 : Int) (v17 : List Int) (v18 : List Int) (kc : Int → Int → (List Int) → (List Int) → Option (List Int × List Int)) (k0 : (List Int) → (List Int) → Option (List Int × List Int)) : Option (List Int × List Int) :=
  bif decide (v16 < (a0.length : Int)) then
    chk (decide ((0 : Int) ≤ v16)) <|
    chk (decide (v16 < (a0.length : Int))) <|
    let v19 : Int × Int × List (Int × Int) := a0.getD (Int.toNat v16) ((0 : Int), (0 : Int), [])
    let v20 : Int := IntKind.i64.wrap (v15 + v19.1)
    chk (decide (v17.length < 68719476736)) <|
    let v21 : List (Int) := v17 ++ [v20]
    let v22 : Option (Int) := f46 n v19.2 a1
    chk (v22.isSome) <|
    let v23 : Int := v22.getD (0 : Int)
    let v24 : Int := IntKind.i64.wrap (v3 - v23)
    let v25 : Int := IntKind.i64.wrap ((1000 : Int) * v24)
    let v26 : Int := IntKind.i64.wrap (v25 + v3)
    let v27 : Int := IntKind.i64.wrap (v26 - 1)
    chk (!decide (v3 = 0)) <|
    let v28 : Int := IntKind.i64.wrap (v27.tdiv v3)
    chk (decide (v18.length < 68719476736)) <|
    let v29 : List (Int) := v18 ++ [v28]
    let v30 : Int := IntKind.i64.wrap (v16 + 1)
    kc v20 v30 v21 v29
  else
    k0 v17 v18
def f33L4 (n : Nat) (v3 : Int) (a0 : List (Int × Int × List (Int × Int))) (a1 : Int × Int × Int × Int) : Nat → Int → Int → (List Int) → (List Int) → (((List Int) → (List Int) → Option (List Int × List Int))) → Option (List Int × List Int)
  | 0, _, _, _, _, _ => none
  | m + 1, v15, v16, v17, v18, k0 => f33L4G n v3 a0 a1 v15 v16 v17 v18 (fun v15 v16 v17 v18 => f33L4 n v3 a0 a1 m v15 v16 v17 v18 k0) k0
def f33L4B (n : Nat) (v3 : Int) (a0 : List (Int × Int × List (Int × Int))) (a1 : Int × Int × Int × Int) (x16 : Int × Int × List (Int × Int)) (v16 : Int) (v15 : Int) (v17 : List Int) (v18 : List Int) (kc : Int → (List Int) → (List Int) → Option (List Int × List Int)) (k0 : (List Int) → (List Int) → Option (List Int × List Int)) : Option (List Int × List Int) :=
  let v20 : Int := IntKind.i64.wrap (v15 + x16.1)
  chk (decide (v17.length < 68719476736)) <|
  let v21 : List (Int) := v17 ++ [v20]
  let v22 : Option (Int) := f46 n x16.2 a1
  chk (v22.isSome) <|
  let v23 : Int := v22.getD (0 : Int)
  let v24 : Int := IntKind.i64.wrap (v3 - v23)
  let v25 : Int := IntKind.i64.wrap ((1000 : Int) * v24)
  let v26 : Int := IntKind.i64.wrap (v25 + v3)
  let v27 : Int := IntKind.i64.wrap (v26 - 1)
  chk (!decide (v3 = 0)) <|
  let v28 : Int := IntKind.i64.wrap (v27.tdiv v3)
  chk (decide (v18.length < 68719476736)) <|
  let v29 : List (Int) := v18 ++ [v28]
  kc v20 v21 v29
def f33L4F (n : Nat) (v3 : Int) (a0 : List (Int × Int × List (Int × Int))) (a1 : Int × Int × Int × Int) (k0 : (List Int) → (List Int) → Option (List Int × List Int)) : List (Int × Int × List (Int × Int)) → Nat → Int → (List Int) → (List Int) → Option (List Int × List Int)
  | [], j, v15, v17, v18 =>
    let v16 : Int := (j : Int)
    k0 v17 v18
  | x16 :: r, j, v15, v17, v18 => f33L4B n v3 a0 a1 x16 (j : Int) v15 v17 v18 (fun v15 v17 v18 => f33L4F n v3 a0 a1 k0 r (j + 1) v15 v17 v18) k0
theorem f33L4_eq (n : Nat) (v3 : Int) (a0 : List (Int × Int × List (Int × Int))) (a1 : Int × Int × Int × Int) (k0 : (List Int) → (List Int) → Option (List Int × List Int)) (hl : a0.length < 4611686018427387904) : ∀ (r : List (Int × Int × List (Int × Int))) (m j : Nat) (v15 : Int) (v17 : List Int) (v18 : List Int), a0.drop j = r → r.length < m → f33L4 n v3 a0 a1 m v15 (j : Int) v17 v18 k0 = f33L4F n v3 a0 a1 k0 r j v15 v17 v18 := by
  intro r
  induction r with
  | nil =>
    intro m j v15 v17 v18 h hm
    obtain ⟨m, rfl⟩ : ∃ q, m = q + 1 := ⟨m - 1, by omega⟩
    have h1 := drop_none h
    have c1 : decide ((j : Int) < (a0.length : Int)) = false := decide_eq_false (by omega)
    simp only [f33L4, f33L4G, f33L4F, c1, cond_false]
  | cons x r ih =>
    intro m j v15 v17 v18 h hm
    obtain ⟨m, rfl⟩ : ∃ q, m = q + 1 := ⟨m - 1, by omega⟩
    obtain ⟨h1, h2, h3⟩ := drop_cons h
    have hm' : r.length < m := by simp only [List.length_cons] at hm; omega
    have c1 : decide ((j : Int) < (a0.length : Int)) = true := decide_eq_true (by omega)
    have c2 : decide ((0 : Int) ≤ (j : Int)) = true := decide_eq_true (by omega)
    have c3 : IntKind.i64.wrap ((j : Int) + 1) = ((j + 1 : Nat) : Int) := wrap_succ (by omega)
    have ih' := fun v15 v17 v18 => ih m (j + 1) v15 v17 v18 h3 hm'
    simp only [f33L4, f33L4G, f33L4F, f33L4B, c1, c2, c3, cond_true, chk_true, Int.toNat_natCast, h2, ih']
theorem f33L4_at (n : Nat) (v3 : Int) (a0 : List (Int × Int × List (Int × Int))) (a1 : Int × Int × Int × Int) (k0 : (List Int) → (List Int) → Option (List Int × List Int)) (hl : a0.length < 4611686018427387904) (hn : a0.length < n + 8) (v15 : Int) (v17 : List Int) (v18 : List Int) : f33L4 n v3 a0 a1 (n + 8) v15 0 v17 v18 k0 = f33L4F n v3 a0 a1 k0 a0 0 v15 v17 v18 := f33L4_eq n v3 a0 a1 k0 hl a0 (n + 8) 0 v15 v17 v18 rfl hn
def f33G (n : Nat) (a0 : List (Int × Int × List (Int × Int))) (a1 : Int × Int × Int × Int) (lp4 : Int → (List (Int × Int × List (Int × Int))) → (Int × Int × Int × Int) → Int → Int → (List Int) → (List Int) → (((List Int) → (List Int) → Option (List Int × List Int))) → Option (List Int × List Int)) : Option (List Int × List Int) :=
  let v1 : Int := IntKind.i64.wrap (a1.2.1 - a1.1)
  let v2 : Int := IntKind.i64.wrap (a1.2.2.2 - a1.2.2.1)
  let v3 : Int := IntKind.i64.wrap (v1 * v2)
  lp4 v3 a0 a1 (0 : Int) (0 : Int) [] [] (fun v33 v34 =>
      some (v33, v34))
def f33 (n : Nat) (a0 : List (Int × Int × List (Int × Int))) (a1 : Int × Int × Int × Int) : Option (List Int × List Int) := f33G n a0 a1 (fun v3 a0 a1 => f33L4 n v3 a0 a1 (n + 8))
/-! f34: sawmill/worth.most -/
def f34L3G (n : Nat) (a1 : List Int) (a0 : List Int) (a2 : Int × Int) (v4 : Int) (v5 : Int) (v6 : Int) (kc : Int → Int → Int → Option (Int)) (k0 : Int → Option (Int)) : Option (Int) :=
  bif decide (v6 < (a0.length : Int)) then
    chk (decide ((0 : Int) ≤ v6)) <|
    chk (decide (v6 < (a0.length : Int))) <|
    let v7 : Int := a0.getD (Int.toNat v6) (0 : Int)
    bif decide (v5 < a2.2) then
      bif decide (a2.1 < v7) then
        chk (decide ((0 : Int) ≤ v6)) <|
        chk (decide (v6 < (a1.length : Int))) <|
        let v8 : Int := a1.getD (Int.toNat v6) (0 : Int)
        let v9 : Int := if v8 > v4 then v8 else v4
        let v10 : Int := IntKind.i64.wrap (v6 + 1)
        kc v9 v7 v10
      else
        let v11 : Int := IntKind.i64.wrap (v6 + 1)
        kc v4 v7 v11
    else
      let v12 : Int := IntKind.i64.wrap (v6 + 1)
      kc v4 v7 v12
  else
    k0 v4
def f34L3 (n : Nat) (a1 : List Int) (a0 : List Int) (a2 : Int × Int) : Nat → Int → Int → Int → ((Int → Option (Int))) → Option (Int)
  | 0, _, _, _, _ => none
  | m + 1, v4, v5, v6, k0 => f34L3G n a1 a0 a2 v4 v5 v6 (fun v4 v5 v6 => f34L3 n a1 a0 a2 m v4 v5 v6 k0) k0
def f34L3B (n : Nat) (a1 : List Int) (a0 : List Int) (a2 : Int × Int) (x6 : Int) (v6 : Int) (v4 : Int) (v5 : Int) (kc : Int → Int → Option (Int)) (k0 : Int → Option (Int)) : Option (Int) :=
  bif decide (v5 < a2.2) then
    bif decide (a2.1 < x6) then
      chk (decide (v6 < (a1.length : Int))) <|
      let v8 : Int := a1.getD (Int.toNat v6) (0 : Int)
      let v9 : Int := if v8 > v4 then v8 else v4
      kc v9 x6
    else
      kc v4 x6
  else
    kc v4 x6
def f34L3F (n : Nat) (a1 : List Int) (a0 : List Int) (a2 : Int × Int) (k0 : Int → Option (Int)) : List (Int) → Nat → Int → Int → Option (Int)
  | [], j, v4, v5 =>
    let v6 : Int := (j : Int)
    k0 v4
  | x6 :: r, j, v4, v5 => f34L3B n a1 a0 a2 x6 (j : Int) v4 v5 (fun v4 v5 => f34L3F n a1 a0 a2 k0 r (j + 1) v4 v5) k0
theorem f34L3_eq (n : Nat) (a1 : List Int) (a0 : List Int) (a2 : Int × Int) (k0 : Int → Option (Int)) (hl : a0.length < 4611686018427387904) : ∀ (r : List (Int)) (m j : Nat) (v4 : Int) (v5 : Int), a0.drop j = r → r.length < m → f34L3 n a1 a0 a2 m v4 v5 (j : Int) k0 = f34L3F n a1 a0 a2 k0 r j v4 v5 := by
  intro r
  induction r with
  | nil =>
    intro m j v4 v5 h hm
    obtain ⟨m, rfl⟩ : ∃ q, m = q + 1 := ⟨m - 1, by omega⟩
    have h1 := drop_none h
    have c1 : decide ((j : Int) < (a0.length : Int)) = false := decide_eq_false (by omega)
    simp only [f34L3, f34L3G, f34L3F, c1, cond_false]
  | cons x r ih =>
    intro m j v4 v5 h hm
    obtain ⟨m, rfl⟩ : ∃ q, m = q + 1 := ⟨m - 1, by omega⟩
    obtain ⟨h1, h2, h3⟩ := drop_cons h
    have hm' : r.length < m := by simp only [List.length_cons] at hm; omega
    have c1 : decide ((j : Int) < (a0.length : Int)) = true := decide_eq_true (by omega)
    have c2 : decide ((0 : Int) ≤ (j : Int)) = true := decide_eq_true (by omega)
    have c3 : IntKind.i64.wrap ((j : Int) + 1) = ((j + 1 : Nat) : Int) := wrap_succ (by omega)
    have ih' := fun v4 v5 => ih m (j + 1) v4 v5 h3 hm'
    simp only [f34L3, f34L3G, f34L3F, f34L3B, c1, c2, c3, cond_true, chk_true, Int.toNat_natCast, h2, ih']
theorem f34L3_at (n : Nat) (a1 : List Int) (a0 : List Int) (a2 : Int × Int) (k0 : Int → Option (Int)) (hl : a0.length < 4611686018427387904) (hn : a0.length < n + 8) (v4 : Int) (v5 : Int) : f34L3 n a1 a0 a2 (n + 8) v4 v5 0 k0 = f34L3F n a1 a0 a2 k0 a0 0 v4 v5 := f34L3_eq n a1 a0 a2 k0 hl a0 (n + 8) 0 v4 v5 rfl hn
def f34G (n : Nat) (a0 : List Int) (a1 : List Int) (a2 : Int × Int) (lp3 : (List Int) → (List Int) → (Int × Int) → Int → Int → Int → ((Int → Option (Int))) → Option (Int)) : Option (Int) :=
  lp3 a1 a0 a2 (0 : Int) (0 : Int) (0 : Int) (fun v14 =>
      some v14)
def f34 (n : Nat) (a0 : List Int) (a1 : List Int) (a2 : Int × Int) : Option (Int) := f34G n a0 a1 a2 (fun a1 a0 a2 => f34L3 n a1 a0 a2 (n + 8))
/-! f15: sawmill/worth.Wane -/
def f15G (n : Nat) (a0 : List (Int × Int × List (Int × Int))) (a1 : Int × Int × Int × Int × Int × Int) : Option (Int) :=
  let v1 : Bool := f32 (a1.1, a1.2.1, a1.2.2.1, a1.2.2.2.1)
  bif (!v1) then
    some 1000
  else
    bif decide (a1.2.2.2.2.1 < 0) then
      some 1000
    else
      bif decide (a1.2.2.2.2.1 ≥ a1.2.2.2.2.2) then
        some 1000
      else
        let v2 : Option (Int) := f25 n a0
        chk (v2.isSome) <|
        let v3 : Int := v2.getD (0 : Int)
        bif (v3 != 0) then
          some 1000
        else
          let v4 : Option (Int) := f27 n a0
          chk (v4.isSome) <|
          let v5 : Int := v4.getD (0 : Int)
          bif decide (a1.2.2.2.2.2 > v5) then
            some 1000
          else
            let v6 : Option (List Int × List Int) := f33 n a0 (a1.1, a1.2.1, a1.2.2.1, a1.2.2.2.1)
            chk (v6.isSome) <|
            let v7 : List Int × List Int := v6.getD ([], [])
            let v8 : Option (Int) := f34 n v7.1 v7.2 a1.2.2.2.2
            chk (v8.isSome) <|
            let v9 : Int := v8.getD (0 : Int)
            some v9
def f15 (n : Nat) (a0 : List (Int × Int × List (Int × Int))) (a1 : Int × Int × Int × Int × Int × Int) : Option (Int) := f15G n a0 a1
/-! f47: sawmill/sawmillref20.across -/
def f47 (a0 : Int × Int) : Bool :=
  bif decide (a0.1 ≥ (-600)) then
    bif decide (a0.1 < a0.2) then
      decide (a0.2 ≤ 600)
    else
      false
  else
    false
def f47O (a0 : Int × Int) : Option (Bool) :=
  bif decide (a0.1 ≥ (-600)) then
    bif decide (a0.1 < a0.2) then
      some (decide (a0.2 ≤ 600))
    else
      some false
  else
    some false
theorem f47_o (a0 : Int × Int) : f47O a0 = some (f47 a0) := by
  unfold f47O f47
  first | rfl | (simp only [cond_some]) | (simp only [cond_some]; rfl)
/-! f88: sawmill/sawmillref10.beyond -/
def f88 (a0 : Int) : Bool :=
  bif decide (a0 < (-600)) then
    true
  else
    decide (a0 > 600)
def f88O (a0 : Int) : Option (Bool) :=
  bif decide (a0 < (-600)) then
    some true
  else
    some (decide (a0 > 600))
theorem f88_o (a0 : Int) : f88O a0 = some (f88 a0) := by
  unfold f88O f88
  first | rfl | (simp only [cond_some]) | (simp only [cond_some]; rfl)
/-! f79: sawmill/sawmillref10.empty -/
def f79 (a0 : Int × Int) : Bool :=
  decide (a0.1 ≥ a0.2)
def f79O (a0 : Int × Int) : Option (Bool) :=
  some (decide (a0.1 ≥ a0.2))
theorem f79_o (a0 : Int × Int) : f79O a0 = some (f79 a0) := by
  unfold f79O f79
  first | rfl | (simp only [cond_some]) | (simp only [cond_some]; rfl)
/-! f73: sawmill/sawmillref10.Check -/
def f73L7G (n : Nat) (a0 : Int × List (Int × Int)) (v6 : Int) (kc : Int → Option (Int)) (kret : Option (Int)) (k0 : Option (Int)) : Option (Int) :=
  bif decide (v6 < (a0.2.length : Int)) then
    chk (decide ((0 : Int) ≤ v6)) <|
    chk (decide (v6 < (a0.2.length : Int))) <|
    let v7 : Int × Int := a0.2.getD (Int.toNat v6) ((0 : Int), (0 : Int))
    let v8 : Bool := f88 v7.1
    bif v8 then
      kret
    else
      chk (decide ((0 : Int) ≤ v6)) <|
      chk (decide (v6 < (a0.2.length : Int))) <|
      let v9 : Int × Int := a0.2.getD (Int.toNat v6) ((0 : Int), (0 : Int))
      let v10 : Bool := f88 v9.2
      bif v10 then
        kret
      else
        let v11 : Int := IntKind.i64.wrap (v6 + 1)
        kc v11
  else
    k0
def f73L7 (n : Nat) (a0 : Int × List (Int × Int)) : Nat → Int → (Option (Int)) → (Option (Int)) → Option (Int)
  | 0, _, _, _ => none
  | m + 1, v6, kret, k0 => f73L7G n a0 v6 (fun v6 => f73L7 n a0 m v6 kret k0) kret k0
def f73L7B (n : Nat) (a0 : Int × List (Int × Int)) (x6 : Int × Int) (v6 : Int) (kc : Option (Int)) (kret : Option (Int)) (k0 : Option (Int)) : Option (Int) :=
  let v8 : Bool := f88 x6.1
  bif v8 then
    kret
  else
    let v10 : Bool := f88 x6.2
    bif v10 then
      kret
    else
      kc
def f73L7F (n : Nat) (a0 : Int × List (Int × Int)) (kret : Option (Int)) (k0 : Option (Int)) : List (Int × Int) → Nat → Option (Int)
  | [], j =>
    let v6 : Int := (j : Int)
    k0
  | x6 :: r, j => f73L7B n a0 x6 (j : Int) (f73L7F n a0 kret k0 r (j + 1)) kret k0
theorem f73L7_eq (n : Nat) (a0 : Int × List (Int × Int)) (kret : Option (Int)) (k0 : Option (Int)) (hl : a0.2.length < 4611686018427387904) : ∀ (r : List (Int × Int)) (m j : Nat), a0.2.drop j = r → r.length < m → f73L7 n a0 m (j : Int) kret k0 = f73L7F n a0 kret k0 r j := by
  intro r
  induction r with
  | nil =>
    intro m j h hm
    obtain ⟨m, rfl⟩ : ∃ q, m = q + 1 := ⟨m - 1, by omega⟩
    have h1 := drop_none h
    have c1 : decide ((j : Int) < (a0.2.length : Int)) = false := decide_eq_false (by omega)
    simp only [f73L7, f73L7G, f73L7F, c1, cond_false]
  | cons x r ih =>
    intro m j h hm
    obtain ⟨m, rfl⟩ : ∃ q, m = q + 1 := ⟨m - 1, by omega⟩
    obtain ⟨h1, h2, h3⟩ := drop_cons h
    have hm' : r.length < m := by simp only [List.length_cons] at hm; omega
    have c1 : decide ((j : Int) < (a0.2.length : Int)) = true := decide_eq_true (by omega)
    have c2 : decide ((0 : Int) ≤ (j : Int)) = true := decide_eq_true (by omega)
    have c3 : IntKind.i64.wrap ((j : Int) + 1) = ((j + 1 : Nat) : Int) := wrap_succ (by omega)
    have ih' := ih m (j + 1) h3 hm'
    simp only [f73L7, f73L7G, f73L7F, f73L7B, c1, c2, c3, cond_true, chk_true, Int.toNat_natCast, h2, ih']
theorem f73L7_at (n : Nat) (a0 : Int × List (Int × Int)) (kret : Option (Int)) (k0 : Option (Int)) (hl : a0.2.length < 4611686018427387904) (hn : a0.2.length < n + 8) : f73L7 n a0 (n + 8) 0 kret k0 = f73L7F n a0 kret k0 a0.2 0 := f73L7_eq n a0 kret k0 hl a0.2 (n + 8) 0 rfl hn
def f73L18G (n : Nat) (a0 : Int × List (Int × Int)) (v20 : Int) (kc : Int → Option (Int)) (kret : Option (Int)) (k2 : Option (Int)) : Option (Int) :=
  bif decide (v20 < (a0.2.length : Int)) then
    chk (decide ((0 : Int) ≤ v20)) <|
    chk (decide (v20 < (a0.2.length : Int))) <|
    let v21 : Int × Int := a0.2.getD (Int.toNat v20) ((0 : Int), (0 : Int))
    let v22 : Bool := f79 v21
    bif v22 then
      chk (decide ((0 : Int) ≤ v20)) <|
      chk (decide (v20 < (a0.2.length : Int))) <|
      let v23 : Int × Int := a0.2.getD (Int.toNat v20) ((0 : Int), (0 : Int))
      bif (!((v23.1 == 0) && ((v23.2 == 0) && true))) then
        kret
      else
        let v24 : Int := IntKind.i64.wrap (v20 + 1)
        kc v24
    else
      let v25 : Int := IntKind.i64.wrap (v20 + 1)
      kc v25
  else
    k2
def f73L18 (n : Nat) (a0 : Int × List (Int × Int)) : Nat → Int → (Option (Int)) → (Option (Int)) → Option (Int)
  | 0, _, _, _ => none
  | m + 1, v20, kret, k2 => f73L18G n a0 v20 (fun v20 => f73L18 n a0 m v20 kret k2) kret k2
def f73L18B (n : Nat) (a0 : Int × List (Int × Int)) (x20 : Int × Int) (v20 : Int) (kc : Option (Int)) (kret : Option (Int)) (k2 : Option (Int)) : Option (Int) :=
  let v22 : Bool := f79 x20
  bif v22 then
    bif (!((x20.1 == 0) && ((x20.2 == 0) && true))) then
      kret
    else
      kc
  else
    kc
def f73L18F (n : Nat) (a0 : Int × List (Int × Int)) (kret : Option (Int)) (k2 : Option (Int)) : List (Int × Int) → Nat → Option (Int)
  | [], j =>
    let v20 : Int := (j : Int)
    k2
  | x20 :: r, j => f73L18B n a0 x20 (j : Int) (f73L18F n a0 kret k2 r (j + 1)) kret k2
theorem f73L18_eq (n : Nat) (a0 : Int × List (Int × Int)) (kret : Option (Int)) (k2 : Option (Int)) (hl : a0.2.length < 4611686018427387904) : ∀ (r : List (Int × Int)) (m j : Nat), a0.2.drop j = r → r.length < m → f73L18 n a0 m (j : Int) kret k2 = f73L18F n a0 kret k2 r j := by
  intro r
  induction r with
  | nil =>
    intro m j h hm
    obtain ⟨m, rfl⟩ : ∃ q, m = q + 1 := ⟨m - 1, by omega⟩
    have h1 := drop_none h
    have c1 : decide ((j : Int) < (a0.2.length : Int)) = false := decide_eq_false (by omega)
    simp only [f73L18, f73L18G, f73L18F, c1, cond_false]
  | cons x r ih =>
    intro m j h hm
    obtain ⟨m, rfl⟩ : ∃ q, m = q + 1 := ⟨m - 1, by omega⟩
    obtain ⟨h1, h2, h3⟩ := drop_cons h
    have hm' : r.length < m := by simp only [List.length_cons] at hm; omega
    have c1 : decide ((j : Int) < (a0.2.length : Int)) = true := decide_eq_true (by omega)
    have c2 : decide ((0 : Int) ≤ (j : Int)) = true := decide_eq_true (by omega)
    have c3 : IntKind.i64.wrap ((j : Int) + 1) = ((j + 1 : Nat) : Int) := wrap_succ (by omega)
    have ih' := ih m (j + 1) h3 hm'
    simp only [f73L18, f73L18G, f73L18F, f73L18B, c1, c2, c3, cond_true, chk_true, Int.toNat_natCast, h2, ih']
theorem f73L18_at (n : Nat) (a0 : Int × List (Int × Int)) (kret : Option (Int)) (k2 : Option (Int)) (hl : a0.2.length < 4611686018427387904) (hn : a0.2.length < n + 8) : f73L18 n a0 (n + 8) 0 kret k2 = f73L18F n a0 kret k2 a0.2 0 := f73L18_eq n a0 kret k2 hl a0.2 (n + 8) 0 rfl hn
def f73G (n : Nat) (a0 : Int × List (Int × Int)) (lp7 : (Int × List (Int × Int)) → Int → (Option (Int)) → (Option (Int)) → Option (Int)) (lp18 : (Int × List (Int × Int)) → Int → (Option (Int)) → (Option (Int)) → Option (Int)) : Option (Int) :=
  bif decide ((a0.2.length : Int) > 120) then
    some 4
  else
    bif decide (a0.1 < (-60)) then
      some 9
    else
      let v1 : Int := IntKind.i64.wrap ((60 : Int) - (a0.2.length : Int))
      bif decide (a0.1 > v1) then
        some 9
      else
        lp7 a0 (0 : Int) (
            some 9) (
            bif ((a0.2.length : Int) == 0) then
              bif (a0.1 != 0) then
                some 19
              else
                some 0
            else
              chk (decide ((0 : Int) < (a0.2.length : Int))) <|
              let v12 : Int × Int := a0.2.getD 0 ((0 : Int), (0 : Int))
              let v13 : Bool := f79 v12
              bif v13 then
                some 19
              else
                let v14 : Int := IntKind.i64.wrap ((a0.2.length : Int) - 1)
                chk (decide ((0 : Int) ≤ v14)) <|
                chk (decide (v14 < (a0.2.length : Int))) <|
                let v15 : Int × Int := a0.2.getD (Int.toNat v14) ((0 : Int), (0 : Int))
                let v16 : Bool := f79 v15
                bif v16 then
                  some 19
                else
                  lp18 a0 (0 : Int) (
                      some 19) (
                      some 0))
def f73 (n : Nat) (a0 : Int × List (Int × Int)) : Option (Int) := f73G n a0 (fun a0 => f73L7 n a0 (n + 8)) (fun a0 => f73L18 n a0 (n + 8))
/-! f54: sawmill/sawmillref11.Check -/
def f54L7G (n : Nat) (a0 : List (Int × Int × List (Int × Int))) (v9 : Int) (v10 : Int) (kc : Int → Int → Option (Int)) (kret : Int → Option (Int)) (k0 : Option (Int)) : Option (Int) :=
  bif decide (v10 < (a0.length : Int)) then
    chk (decide ((0 : Int) ≤ v10)) <|
    chk (decide (v10 < (a0.length : Int))) <|
    let v11 : Int × Int × List (Int × Int) := a0.getD (Int.toNat v10) ((0 : Int), (0 : Int), [])
    let v12 : Option (Int) := f73 n v11.2
    chk (v12.isSome) <|
    let v13 : Int := v12.getD (0 : Int)
    bif (v13 != 0) then
      kret v13
    else
      chk (decide ((0 : Int) ≤ v10)) <|
      chk (decide (v10 < (a0.length : Int))) <|
      let v14 : Int × Int × List (Int × Int) := a0.getD (Int.toNat v10) ((0 : Int), (0 : Int), [])
      bif ((v14.2.2.length : Int) == 0) then
        kret (18 : Int)
      else
        chk (decide ((0 : Int) ≤ v10)) <|
        chk (decide (v10 < (a0.length : Int))) <|
        let v15 : Int × Int × List (Int × Int) := a0.getD (Int.toNat v10) ((0 : Int), (0 : Int), [])
        bif decide (v15.1 < 1) then
          kret (9 : Int)
        else
          chk (decide ((0 : Int) ≤ v10)) <|
          chk (decide (v10 < (a0.length : Int))) <|
          let v16 : Int × Int × List (Int × Int) := a0.getD (Int.toNat v10) ((0 : Int), (0 : Int), [])
          let v17 : Int := IntKind.i64.wrap ((20000 : Int) - v9)
          bif decide (v16.1 > v17) then
            kret (9 : Int)
          else
            chk (decide ((0 : Int) ≤ v10)) <|
            chk (decide (v10 < (a0.length : Int))) <|
            let v18 : Int × Int × List (Int × Int) := a0.getD (Int.toNat v10) ((0 : Int), (0 : Int), [])
            let v19 : Int := IntKind.i64.wrap (v9 + v18.1)
            let v20 : Int := IntKind.i64.wrap (v10 + 1)
            kc v19 v20
  else
    k0
def f54L7 (n : Nat) (a0 : List (Int × Int × List (Int × Int))) : Nat → Int → Int → ((Int → Option (Int))) → (Option (Int)) → Option (Int)
  | 0, _, _, _, _ => none
  | m + 1, v9, v10, kret, k0 => f54L7G n a0 v9 v10 (fun v9 v10 => f54L7 n a0 m v9 v10 kret k0) kret k0
def f54L7B (n : Nat) (a0 : List (Int × Int × List (Int × Int))) (x10 : Int × Int × List (Int × Int)) (v10 : Int) (v9 : Int) (kc : Int → Option (Int)) (kret : Int → Option (Int)) (k0 : Option (Int)) : Option (Int) :=
  let v12 : Option (Int) := f73 n x10.2
  chk (v12.isSome) <|
  let v13 : Int := v12.getD (0 : Int)
  bif (v13 != 0) then
    kret v13
  else
    bif ((x10.2.2.length : Int) == 0) then
      kret (18 : Int)
    else
      bif decide (x10.1 < 1) then
        kret (9 : Int)
      else
        let v17 : Int := IntKind.i64.wrap ((20000 : Int) - v9)
        bif decide (x10.1 > v17) then
          kret (9 : Int)
        else
          let v19 : Int := IntKind.i64.wrap (v9 + x10.1)
          kc v19
def f54L7F (n : Nat) (a0 : List (Int × Int × List (Int × Int))) (kret : Int → Option (Int)) (k0 : Option (Int)) : List (Int × Int × List (Int × Int)) → Nat → Int → Option (Int)
  | [], j, v9 =>
    let v10 : Int := (j : Int)
    k0
  | x10 :: r, j, v9 => f54L7B n a0 x10 (j : Int) v9 (fun v9 => f54L7F n a0 kret k0 r (j + 1) v9) kret k0
theorem f54L7_eq (n : Nat) (a0 : List (Int × Int × List (Int × Int))) (kret : Int → Option (Int)) (k0 : Option (Int)) (hl : a0.length < 4611686018427387904) : ∀ (r : List (Int × Int × List (Int × Int))) (m j : Nat) (v9 : Int), a0.drop j = r → r.length < m → f54L7 n a0 m v9 (j : Int) kret k0 = f54L7F n a0 kret k0 r j v9 := by
  intro r
  induction r with
  | nil =>
    intro m j v9 h hm
    obtain ⟨m, rfl⟩ : ∃ q, m = q + 1 := ⟨m - 1, by omega⟩
    have h1 := drop_none h
    have c1 : decide ((j : Int) < (a0.length : Int)) = false := decide_eq_false (by omega)
    simp only [f54L7, f54L7G, f54L7F, c1, cond_false]
  | cons x r ih =>
    intro m j v9 h hm
    obtain ⟨m, rfl⟩ : ∃ q, m = q + 1 := ⟨m - 1, by omega⟩
    obtain ⟨h1, h2, h3⟩ := drop_cons h
    have hm' : r.length < m := by simp only [List.length_cons] at hm; omega
    have c1 : decide ((j : Int) < (a0.length : Int)) = true := decide_eq_true (by omega)
    have c2 : decide ((0 : Int) ≤ (j : Int)) = true := decide_eq_true (by omega)
    have c3 : IntKind.i64.wrap ((j : Int) + 1) = ((j + 1 : Nat) : Int) := wrap_succ (by omega)
    have ih' := fun v9 => ih m (j + 1) v9 h3 hm'
    simp only [f54L7, f54L7G, f54L7F, f54L7B, c1, c2, c3, cond_true, chk_true, Int.toNat_natCast, h2, ih']
theorem f54L7_at (n : Nat) (a0 : List (Int × Int × List (Int × Int))) (kret : Int → Option (Int)) (k0 : Option (Int)) (hl : a0.length < 4611686018427387904) (hn : a0.length < n + 8) (v9 : Int) : f54L7 n a0 (n + 8) v9 0 kret k0 = f54L7F n a0 kret k0 a0 0 v9 := f54L7_eq n a0 kret k0 hl a0 (n + 8) 0 v9 rfl hn
def f54G (n : Nat) (a0 : List (Int × Int × List (Int × Int))) (lp7 : (List (Int × Int × List (Int × Int))) → Int → Int → ((Int → Option (Int))) → (Option (Int)) → Option (Int)) : Option (Int) :=
  bif ((a0.length : Int) == 0) then
    some 3
  else
    bif decide ((a0.length : Int) > 24) then
      some 4
    else
      lp7 a0 (0 : Int) (0 : Int) (fun v22 =>
          some v22) (
          some 0)
def f54 (n : Nat) (a0 : List (Int × Int × List (Int × Int))) : Option (Int) := f54G n a0 (fun a0 => f54L7 n a0 (n + 8))
/-! f42: sawmill/sawmillref11.Length -/
def f42L5G (n : Nat) (a0 : List (Int × Int × List (Int × Int))) (v5 : Int) (v6 : Int) (kc : Int → Int → Option (Int)) (k0 : Int → Option (Int)) : Option (Int) :=
  bif decide (v6 < (a0.length : Int)) then
    chk (decide ((0 : Int) ≤ v6)) <|
    chk (decide (v6 < (a0.length : Int))) <|
    let v7 : Int × Int × List (Int × Int) := a0.getD (Int.toNat v6) ((0 : Int), (0 : Int), [])
    let v8 : Int := IntKind.i64.wrap (v5 + v7.1)
    let v9 : Int := IntKind.i64.wrap (v6 + 1)
    kc v8 v9
  else
    k0 v5
def f42L5 (n : Nat) (a0 : List (Int × Int × List (Int × Int))) : Nat → Int → Int → ((Int → Option (Int))) → Option (Int)
  | 0, _, _, _ => none
  | m + 1, v5, v6, k0 => f42L5G n a0 v5 v6 (fun v5 v6 => f42L5 n a0 m v5 v6 k0) k0
def f42L5B (n : Nat) (a0 : List (Int × Int × List (Int × Int))) (x6 : Int × Int × List (Int × Int)) (v6 : Int) (v5 : Int) (kc : Int → Option (Int)) (k0 : Int → Option (Int)) : Option (Int) :=
  let v8 : Int := IntKind.i64.wrap (v5 + x6.1)
  kc v8
def f42L5F (n : Nat) (a0 : List (Int × Int × List (Int × Int))) (k0 : Int → Option (Int)) : List (Int × Int × List (Int × Int)) → Nat → Int → Option (Int)
  | [], j, v5 =>
    let v6 : Int := (j : Int)
    k0 v5
  | x6 :: r, j, v5 => f42L5B n a0 x6 (j : Int) v5 (fun v5 => f42L5F n a0 k0 r (j + 1) v5) k0
theorem f42L5_eq (n : Nat) (a0 : List (Int × Int × List (Int × Int))) (k0 : Int → Option (Int)) (hl : a0.length < 4611686018427387904) : ∀ (r : List (Int × Int × List (Int × Int))) (m j : Nat) (v5 : Int), a0.drop j = r → r.length < m → f42L5 n a0 m v5 (j : Int) k0 = f42L5F n a0 k0 r j v5 := by
  intro r
  induction r with
  | nil =>
    intro m j v5 h hm
    obtain ⟨m, rfl⟩ : ∃ q, m = q + 1 := ⟨m - 1, by omega⟩
    have h1 := drop_none h
    have c1 : decide ((j : Int) < (a0.length : Int)) = false := decide_eq_false (by omega)
    simp only [f42L5, f42L5G, f42L5F, c1, cond_false]
  | cons x r ih =>
    intro m j v5 h hm
    obtain ⟨m, rfl⟩ : ∃ q, m = q + 1 := ⟨m - 1, by omega⟩
    obtain ⟨h1, h2, h3⟩ := drop_cons h
    have hm' : r.length < m := by simp only [List.length_cons] at hm; omega
    have c1 : decide ((j : Int) < (a0.length : Int)) = true := decide_eq_true (by omega)
    have c2 : decide ((0 : Int) ≤ (j : Int)) = true := decide_eq_true (by omega)
    have c3 : IntKind.i64.wrap ((j : Int) + 1) = ((j + 1 : Nat) : Int) := wrap_succ (by omega)
    have ih' := fun v5 => ih m (j + 1) v5 h3 hm'
    simp only [f42L5, f42L5G, f42L5F, f42L5B, c1, c2, c3, cond_true, chk_true, Int.toNat_natCast, h2, ih']
theorem f42L5_at (n : Nat) (a0 : List (Int × Int × List (Int × Int))) (k0 : Int → Option (Int)) (hl : a0.length < 4611686018427387904) (hn : a0.length < n + 8) (v5 : Int) : f42L5 n a0 (n + 8) v5 0 k0 = f42L5F n a0 k0 a0 0 v5 := f42L5_eq n a0 k0 hl a0 (n + 8) 0 v5 rfl hn
def f42G (n : Nat) (a0 : List (Int × Int × List (Int × Int))) (lp5 : (List (Int × Int × List (Int × Int))) → Int → Int → ((Int → Option (Int))) → Option (Int)) : Option (Int) :=
  let v1 : Option (Int) := f54 n a0
  chk (v1.isSome) <|
  let v2 : Int := v1.getD (0 : Int)
  bif (v2 != 0) then
    some 0
  else
    lp5 a0 (0 : Int) (0 : Int) (fun v11 =>
        some v11)
def f42 (n : Nat) (a0 : List (Int × Int × List (Int × Int))) : Option (Int) := f42G n a0 (fun a0 => f42L5 n a0 (n + 8))
/-! f35: sawmill/sawmillref20.within -/
def f35G (n : Nat) (a0 : List (Int × Int × List (Int × Int))) (a1 : Int × Int × Int × Int × Int × Int) : Option (Bool) :=
  let v1 : Bool := f47 (a1.1, a1.2.1)
  bif v1 then
    let v2 : Bool := f47 (a1.2.2.1, a1.2.2.2.1)
    bif v2 then
      bif decide (a1.2.2.2.2.1 ≥ 0) then
        bif decide (a1.2.2.2.2.1 < a1.2.2.2.2.2) then
          let v3 : Option (Int) := f42 n a0
          chk (v3.isSome) <|
          let v4 : Int := v3.getD (0 : Int)
          some (decide (a1.2.2.2.2.2 ≤ v4))
        else
          some false
      else
        some false
    else
      some false
  else
    some false
def f35 (n : Nat) (a0 : List (Int × Int × List (Int × Int))) (a1 : Int × Int × Int × Int × Int × Int) : Option (Bool) := f35G n a0 a1
/-! f63: sawmill/sawmillref11.part -/
def f63 (a0 : Int × Int) (a1 : Int) (a2 : Int) : Int :=
  let v1 : Int := if a1 > a0.1 then a1 else a0.1
  let v2 : Int := IntKind.i64.wrap (a1 + a2)
  let v3 : Int := if v2 < a0.2 then v2 else a0.2
  bif decide (v1 ≥ v3) then
    0
  else
    let v4 : Int := IntKind.i64.wrap (v3 - v1)
    v4
def f63O (a0 : Int × Int) (a1 : Int) (a2 : Int) : Option (Int) :=
  let v1 : Int := if a1 > a0.1 then a1 else a0.1
  let v2 : Int := IntKind.i64.wrap (a1 + a2)
  let v3 : Int := if v2 < a0.2 then v2 else a0.2
  bif decide (v1 ≥ v3) then
    some 0
  else
    let v4 : Int := IntKind.i64.wrap (v3 - v1)
    some v4
theorem f63_o (a0 : Int × Int) (a1 : Int) (a2 : Int) : f63O a0 a1 a2 = some (f63 a0 a1 a2) := by
  unfold f63O f63
  first | rfl | (simp only [cond_some]) | (simp only [cond_some]; rfl)
/-! f48: sawmill/sawmillref11.Cut -/
def f48L7G (n : Nat) (a0 : List (Int × Int × List (Int × Int))) (v3 : Int) (v4 : Int) (v13 : Int) (v14 : Int) (v15 : List (Int × Int × List (Int × Int))) (kc : Int → Int → (List (Int × Int × List (Int × Int))) → Option (List (Int × Int × List (Int × Int)))) (k0 : (List (Int × Int × List (Int × Int))) → Option (List (Int × Int × List (Int × Int)))) : Option (List (Int × Int × List (Int × Int))) :=
  bif decide (v14 < (a0.length : Int)) then
    chk (decide ((0 : Int) ≤ v14)) <|
    chk (decide (v14 < (a0.length : Int))) <|
    let v16 : Int × Int × List (Int × Int) := a0.getD (Int.toNat v14) ((0 : Int), (0 : Int), [])
    let v17 : Int := f63 (v3, v4) v13 v16.1
    bif decide (v17 > 0) then
      chk (decide ((0 : Int) ≤ v14)) <|
      chk (decide (v14 < (a0.length : Int))) <|
      let v18 : Int × Int × List (Int × Int) := a0.getD (Int.toNat v14) ((0 : Int), (0 : Int), [])
      chk (decide (v15.length < 68719476736)) <|
      let v19 : List (Int × Int × List (Int × Int)) := v15 ++ [(v17, v18.2.1, v18.2.2)]
      chk (decide ((0 : Int) ≤ v14)) <|
      chk (decide (v14 < (a0.length : Int))) <|
      let v20 : Int × Int × List (Int × Int) := a0.getD (Int.toNat v14) ((0 : Int), (0 : Int), [])
      let v21 : Int := IntKind.i64.wrap (v13 + v20.1)
      let v22 : Int := IntKind.i64.wrap (v14 + 1)
      kc v21 v22 v19
    else
      chk (decide ((0 : Int) ≤ v14)) <|
      chk (decide (v14 < (a0.length : Int))) <|
      let v23 : Int × Int × List (Int × Int) := a0.getD (Int.toNat v14) ((0 : Int), (0 : Int), [])
      let v24 : Int := IntKind.i64.wrap (v13 + v23.1)
      let v25 : Int := IntKind.i64.wrap (v14 + 1)
      kc v24 v25 v15
  else
    k0 v15
def f48L7 (n : Nat) (a0 : List (Int × Int × List (Int × Int))) (v3 : Int) (v4 : Int) : Nat → Int → Int → (List (Int × Int × List (Int × Int))) → (((List (Int × Int × List (Int × Int))) → Option (List (Int × Int × List (Int × Int))))) → Option (List (Int × Int × List (Int × Int)))
  | 0, _, _, _, _ => none
  | m + 1, v13, v14, v15, k0 => f48L7G n a0 v3 v4 v13 v14 v15 (fun v13 v14 v15 => f48L7 n a0 v3 v4 m v13 v14 v15 k0) k0
def f48L7B (n : Nat) (a0 : List (Int × Int × List (Int × Int))) (v3 : Int) (v4 : Int) (x14 : Int × Int × List (Int × Int)) (v14 : Int) (v13 : Int) (v15 : List (Int × Int × List (Int × Int))) (kc : Int → (List (Int × Int × List (Int × Int))) → Option (List (Int × Int × List (Int × Int)))) (k0 : (List (Int × Int × List (Int × Int))) → Option (List (Int × Int × List (Int × Int)))) : Option (List (Int × Int × List (Int × Int))) :=
  let v17 : Int := f63 (v3, v4) v13 x14.1
  bif decide (v17 > 0) then
    chk (decide (v15.length < 68719476736)) <|
    let v19 : List (Int × Int × List (Int × Int)) := v15 ++ [(v17, x14.2.1, x14.2.2)]
    let v21 : Int := IntKind.i64.wrap (v13 + x14.1)
    kc v21 v19
  else
    let v24 : Int := IntKind.i64.wrap (v13 + x14.1)
    kc v24 v15
def f48L7F (n : Nat) (a0 : List (Int × Int × List (Int × Int))) (v3 : Int) (v4 : Int) (k0 : (List (Int × Int × List (Int × Int))) → Option (List (Int × Int × List (Int × Int)))) : List (Int × Int × List (Int × Int)) → Nat → Int → (List (Int × Int × List (Int × Int))) → Option (List (Int × Int × List (Int × Int)))
  | [], j, v13, v15 =>
    let v14 : Int := (j : Int)
    k0 v15
  | x14 :: r, j, v13, v15 => f48L7B n a0 v3 v4 x14 (j : Int) v13 v15 (fun v13 v15 => f48L7F n a0 v3 v4 k0 r (j + 1) v13 v15) k0
theorem f48L7_eq (n : Nat) (a0 : List (Int × Int × List (Int × Int))) (v3 : Int) (v4 : Int) (k0 : (List (Int × Int × List (Int × Int))) → Option (List (Int × Int × List (Int × Int)))) (hl : a0.length < 4611686018427387904) : ∀ (r : List (Int × Int × List (Int × Int))) (m j : Nat) (v13 : Int) (v15 : List (Int × Int × List (Int × Int))), a0.drop j = r → r.length < m → f48L7 n a0 v3 v4 m v13 (j : Int) v15 k0 = f48L7F n a0 v3 v4 k0 r j v13 v15 := by
  intro r
  induction r with
  | nil =>
    intro m j v13 v15 h hm
    obtain ⟨m, rfl⟩ : ∃ q, m = q + 1 := ⟨m - 1, by omega⟩
    have h1 := drop_none h
    have c1 : decide ((j : Int) < (a0.length : Int)) = false := decide_eq_false (by omega)
    simp only [f48L7, f48L7G, f48L7F, c1, cond_false]
  | cons x r ih =>
    intro m j v13 v15 h hm
    obtain ⟨m, rfl⟩ : ∃ q, m = q + 1 := ⟨m - 1, by omega⟩
    obtain ⟨h1, h2, h3⟩ := drop_cons h
    have hm' : r.length < m := by simp only [List.length_cons] at hm; omega
    have c1 : decide ((j : Int) < (a0.length : Int)) = true := decide_eq_true (by omega)
    have c2 : decide ((0 : Int) ≤ (j : Int)) = true := decide_eq_true (by omega)
    have c3 : IntKind.i64.wrap ((j : Int) + 1) = ((j + 1 : Nat) : Int) := wrap_succ (by omega)
    have ih' := fun v13 v15 => ih m (j + 1) v13 v15 h3 hm'
    simp only [f48L7, f48L7G, f48L7F, f48L7B, c1, c2, c3, cond_true, chk_true, Int.toNat_natCast, h2, ih']
theorem f48L7_at (n : Nat) (a0 : List (Int × Int × List (Int × Int))) (v3 : Int) (v4 : Int) (k0 : (List (Int × Int × List (Int × Int))) → Option (List (Int × Int × List (Int × Int)))) (hl : a0.length < 4611686018427387904) (hn : a0.length < n + 8) (v13 : Int) (v15 : List (Int × Int × List (Int × Int))) : f48L7 n a0 v3 v4 (n + 8) v13 0 v15 k0 = f48L7F n a0 v3 v4 k0 a0 0 v13 v15 := f48L7_eq n a0 v3 v4 k0 hl a0 (n + 8) 0 v13 v15 rfl hn
def f48G (n : Nat) (a0 : List (Int × Int × List (Int × Int))) (a1 : Int × Int) (lp7 : (List (Int × Int × List (Int × Int))) → Int → Int → Int → Int → (List (Int × Int × List (Int × Int))) → (((List (Int × Int × List (Int × Int))) → Option (List (Int × Int × List (Int × Int))))) → Option (List (Int × Int × List (Int × Int)))) : Option (List (Int × Int × List (Int × Int))) :=
  let v1 : Option (Int) := f54 n a0
  chk (v1.isSome) <|
  let v2 : Int := v1.getD (0 : Int)
  bif (v2 != 0) then
    some []
  else
    let v3 : Int := if (0 : Int) > a1.1 then 0 else a1.1
    let v4 : Int := if (20000 : Int) < a1.2 then 20000 else a1.2
    lp7 a0 v3 v4 (0 : Int) (0 : Int) [] (fun v27 =>
        some v27)
def f48 (n : Nat) (a0 : List (Int × Int × List (Int × Int))) (a1 : Int × Int) : Option (List (Int × Int × List (Int × Int))) := f48G n a0 a1 (fun a0 v3 v4 => f48L7 n a0 v3 v4 (n + 8))
/-! f64: sawmill/sawmillref10.Valid -/
def f64G (n : Nat) (a0 : Int × List (Int × Int)) : Option (Int × List (Int × Int)) :=
  let v1 : Option (Int) := f73 n a0
  chk (v1.isSome) <|
  let v2 : Int := v1.getD (0 : Int)
  bif (v2 != 0) then
    some (0, [])
  else
    some a0
def f64 (n : Nat) (a0 : Int × List (Int × Int)) : Option (Int × List (Int × Int)) := f64G n a0
/-! f65: sawmill/sawmillref10.common -/
def f65 (a0 : Int × Int) (a1 : Int × Int) : Int :=
  let v1 : Int := if a1.1 > a0.1 then a1.1 else a0.1
  let v2 : Int := if a1.2 < a0.2 then a1.2 else a0.2
  let v3 : Bool := f79 a1
  bif v3 then
    0
  else
    bif decide (v1 ≥ v2) then
      0
    else
      let v4 : Int := IntKind.i64.wrap (v2 - v1)
      v4
def f65O (a0 : Int × Int) (a1 : Int × Int) : Option (Int) :=
  let v1 : Int := if a1.1 > a0.1 then a1.1 else a0.1
  let v2 : Int := if a1.2 < a0.2 then a1.2 else a0.2
  let v3 : Bool := f79 a1
  bif v3 then
    some 0
  else
    bif decide (v1 ≥ v2) then
      some 0
    else
      let v4 : Int := IntKind.i64.wrap (v2 - v1)
      some v4
theorem f65_o (a0 : Int × Int) (a1 : Int × Int) : f65O a0 a1 = some (f65 a0 a1) := by
  unfold f65O f65
  first | rfl | (simp only [cond_some]) | (simp only [cond_some]; rfl)
/-! f66: sawmill/sawmillref10.Heights -/
def f66 (a0 : Int) : Int × Int :=
  let v1 : Int := IntKind.i64.wrap ((10 : Int) * a0)
  let v2 : Int := IntKind.i64.wrap (a0 + 1)
  let v3 : Int := IntKind.i64.wrap ((10 : Int) * v2)
  (v1, v3)
def f66O (a0 : Int) : Option (Int × Int) :=
  let v1 : Int := IntKind.i64.wrap ((10 : Int) * a0)
  let v2 : Int := IntKind.i64.wrap (a0 + 1)
  let v3 : Int := IntKind.i64.wrap ((10 : Int) * v2)
  some (v1, v3)
theorem f66_o (a0 : Int) : f66O a0 = some (f66 a0) := by
  unfold f66O f66
  first | rfl | (simp only [cond_some]) | (simp only [cond_some]; rfl)
/-! f49: sawmill/sawmillref10.Within -/
def f49L4G (n : Nat) (v2 : Int × List (Int × Int)) (a1 : Int × Int × Int × Int) (v10 : Int) (v11 : Int) (kc : Int → Int → Option (Int)) (k0 : Int → Option (Int)) : Option (Int) :=
  bif decide (v11 < (v2.2.length : Int)) then
    chk (decide ((0 : Int) ≤ v11)) <|
    chk (decide (v11 < (v2.2.length : Int))) <|
    let v12 : Int × Int := v2.2.getD (Int.toNat v11) ((0 : Int), (0 : Int))
    let v13 : Int := f65 v12 (a1.1, a1.2.1)
    let v14 : Int := IntKind.i64.wrap (v2.1 + v11)
    let v15 : Int × Int := f66 v14
    let v16 : Int := f65 v15 a1.2.2
    let v17 : Int := IntKind.i64.wrap (v13 * v16)
    let v18 : Int := IntKind.i64.wrap (v10 + v17)
    let v19 : Int := IntKind.i64.wrap (v11 + 1)
    kc v18 v19
  else
    k0 v10
def f49L4 (n : Nat) (v2 : Int × List (Int × Int)) (a1 : Int × Int × Int × Int) : Nat → Int → Int → ((Int → Option (Int))) → Option (Int)
  | 0, _, _, _ => none
  | m + 1, v10, v11, k0 => f49L4G n v2 a1 v10 v11 (fun v10 v11 => f49L4 n v2 a1 m v10 v11 k0) k0
def f49L4B (n : Nat) (v2 : Int × List (Int × Int)) (a1 : Int × Int × Int × Int) (x11 : Int × Int) (v11 : Int) (v10 : Int) (kc : Int → Option (Int)) (k0 : Int → Option (Int)) : Option (Int) :=
  let v13 : Int := f65 x11 (a1.1, a1.2.1)
  let v14 : Int := IntKind.i64.wrap (v2.1 + v11)
  let v15 : Int × Int := f66 v14
  let v16 : Int := f65 v15 a1.2.2
  let v17 : Int := IntKind.i64.wrap (v13 * v16)
  let v18 : Int := IntKind.i64.wrap (v10 + v17)
  kc v18
def f49L4F (n : Nat) (v2 : Int × List (Int × Int)) (a1 : Int × Int × Int × Int) (k0 : Int → Option (Int)) : List (Int × Int) → Nat → Int → Option (Int)
  | [], j, v10 =>
    let v11 : Int := (j : Int)
    k0 v10
  | x11 :: r, j, v10 => f49L4B n v2 a1 x11 (j : Int) v10 (fun v10 => f49L4F n v2 a1 k0 r (j + 1) v10) k0
theorem f49L4_eq (n : Nat) (v2 : Int × List (Int × Int)) (a1 : Int × Int × Int × Int) (k0 : Int → Option (Int)) (hl : v2.2.length < 4611686018427387904) : ∀ (r : List (Int × Int)) (m j : Nat) (v10 : Int), v2.2.drop j = r → r.length < m → f49L4 n v2 a1 m v10 (j : Int) k0 = f49L4F n v2 a1 k0 r j v10 := by
  intro r
  induction r with
  | nil =>
    intro m j v10 h hm
    obtain ⟨m, rfl⟩ : ∃ q, m = q + 1 := ⟨m - 1, by omega⟩
    have h1 := drop_none h
    have c1 : decide ((j : Int) < (v2.2.length : Int)) = false := decide_eq_false (by omega)
    simp only [f49L4, f49L4G, f49L4F, c1, cond_false]
  | cons x r ih =>
    intro m j v10 h hm
    obtain ⟨m, rfl⟩ : ∃ q, m = q + 1 := ⟨m - 1, by omega⟩
    obtain ⟨h1, h2, h3⟩ := drop_cons h
    have hm' : r.length < m := by simp only [List.length_cons] at hm; omega
    have c1 : decide ((j : Int) < (v2.2.length : Int)) = true := decide_eq_true (by omega)
    have c2 : decide ((0 : Int) ≤ (j : Int)) = true := decide_eq_true (by omega)
    have c3 : IntKind.i64.wrap ((j : Int) + 1) = ((j + 1 : Nat) : Int) := wrap_succ (by omega)
    have ih' := fun v10 => ih m (j + 1) v10 h3 hm'
    simp only [f49L4, f49L4G, f49L4F, f49L4B, c1, c2, c3, cond_true, chk_true, Int.toNat_natCast, h2, ih']
theorem f49L4_at (n : Nat) (v2 : Int × List (Int × Int)) (a1 : Int × Int × Int × Int) (k0 : Int → Option (Int)) (hl : v2.2.length < 4611686018427387904) (hn : v2.2.length < n + 8) (v10 : Int) : f49L4 n v2 a1 (n + 8) v10 0 k0 = f49L4F n v2 a1 k0 v2.2 0 v10 := f49L4_eq n v2 a1 k0 hl v2.2 (n + 8) 0 v10 rfl hn
def f49G (n : Nat) (a0 : Int × List (Int × Int)) (a1 : Int × Int × Int × Int) (lp4 : (Int × List (Int × Int)) → (Int × Int × Int × Int) → Int → Int → ((Int → Option (Int))) → Option (Int)) : Option (Int) :=
  let v1 : Option (Int × List (Int × Int)) := f64 n a0
  chk (v1.isSome) <|
  let v2 : Int × List (Int × Int) := v1.getD ((0 : Int), [])
  lp4 v2 a1 (0 : Int) (0 : Int) (fun v21 =>
      some v21)
def f49 (n : Nat) (a0 : Int × List (Int × Int)) (a1 : Int × Int × Int × Int) : Option (Int) := f49G n a0 a1 (fun v2 a1 => f49L4 n v2 a1 (n + 8))
/-! f36: sawmill/sawmillref20.wane -/
def f36L5G (n : Nat) (v2 : List (Int × Int × List (Int × Int))) (v5 : Int) (a1 : Int × Int × Int × Int × Int × Int) (v15 : Int) (v16 : Int) (kc : Int → Int → Option (Int)) (k0 : Int → Option (Int)) : Option (Int) :=
  bif decide (v16 < (v2.length : Int)) then
    chk (decide ((0 : Int) ≤ v16)) <|
    chk (decide (v16 < (v2.length : Int))) <|
    let v17 : Int × Int × List (Int × Int) := v2.getD (Int.toNat v16) ((0 : Int), (0 : Int), [])
    let v18 : Option (Int) := f49 n v17.2 (a1.1, a1.2.1, a1.2.2.1, a1.2.2.2.1)
    chk (v18.isSome) <|
    let v19 : Int := v18.getD (0 : Int)
    let v20 : Int := IntKind.i64.wrap (v5 - v19)
    let v21 : Int := IntKind.i64.wrap ((1000 : Int) * v20)
    let v22 : Int := IntKind.i64.wrap (v21 + v5)
    let v23 : Int := IntKind.i64.wrap (v22 - 1)
    chk (!decide (v5 = 0)) <|
    let v24 : Int := IntKind.i64.wrap (v23.tdiv v5)
    let v25 : Int := if v24 > v15 then v24 else v15
    let v26 : Int := IntKind.i64.wrap (v16 + 1)
    kc v25 v26
  else
    k0 v15
def f36L5 (n : Nat) (v2 : List (Int × Int × List (Int × Int))) (v5 : Int) (a1 : Int × Int × Int × Int × Int × Int) : Nat → Int → Int → ((Int → Option (Int))) → Option (Int)
  | 0, _, _, _ => none
  | m + 1, v15, v16, k0 => f36L5G n v2 v5 a1 v15 v16 (fun v15 v16 => f36L5 n v2 v5 a1 m v15 v16 k0) k0
def f36L5B (n : Nat) (v2 : List (Int × Int × List (Int × Int))) (v5 : Int) (a1 : Int × Int × Int × Int × Int × Int) (x16 : Int × Int × List (Int × Int)) (v16 : Int) (v15 : Int) (kc : Int → Option (Int)) (k0 : Int → Option (Int)) : Option (Int) :=
  let v18 : Option (Int) := f49 n x16.2 (a1.1, a1.2.1, a1.2.2.1, a1.2.2.2.1)
  chk (v18.isSome) <|
  let v19 : Int := v18.getD (0 : Int)
  let v20 : Int := IntKind.i64.wrap (v5 - v19)
  let v21 : Int := IntKind.i64.wrap ((1000 : Int) * v20)
  let v22 : Int := IntKind.i64.wrap (v21 + v5)
  let v23 : Int := IntKind.i64.wrap (v22 - 1)
  chk (!decide (v5 = 0)) <|
  let v24 : Int := IntKind.i64.wrap (v23.tdiv v5)
  let v25 : Int := if v24 > v15 then v24 else v15
  kc v25
def f36L5F (n : Nat) (v2 : List (Int × Int × List (Int × Int))) (v5 : Int) (a1 : Int × Int × Int × Int × Int × Int) (k0 : Int → Option (Int)) : List (Int × Int × List (Int × Int)) → Nat → Int → Option (Int)
  | [], j, v15 =>
    let v16 : Int := (j : Int)
    k0 v15
  | x16 :: r, j, v15 => f36L5B n v2 v5 a1 x16 (j : Int) v15 (fun v15 => f36L5F n v2 v5 a1 k0 r (j + 1) v15) k0
theorem f36L5_eq (n : Nat) (v2 : List (Int × Int × List (Int × Int))) (v5 : Int) (a1 : Int × Int × Int × Int × Int × Int) (k0 : Int → Option (Int)) (hl : v2.length < 4611686018427387904) : ∀ (r : List (Int × Int × List (Int × Int))) (m j : Nat) (v15 : Int), v2.drop j = r → r.length < m → f36L5 n v2 v5 a1 m v15 (j : Int) k0 = f36L5F n v2 v5 a1 k0 r j v15 := by
  intro r
  induction r with
  | nil =>
    intro m j v15 h hm
    obtain ⟨m, rfl⟩ : ∃ q, m = q + 1 := ⟨m - 1, by omega⟩
    have h1 := drop_none h
    have c1 : decide ((j : Int) < (v2.length : Int)) = false := decide_eq_false (by omega)
    simp only [f36L5, f36L5G, f36L5F, c1, cond_false]
  | cons x r ih =>
    intro m j v15 h hm
    obtain ⟨m, rfl⟩ : ∃ q, m = q + 1 := ⟨m - 1, by omega⟩
    obtain ⟨h1, h2, h3⟩ := drop_cons h
    have hm' : r.length < m := by simp only [List.length_cons] at hm; omega
    have c1 : decide ((j : Int) < (v2.length : Int)) = true := decide_eq_true (by omega)
    have c2 : decide ((0 : Int) ≤ (j : Int)) = true := decide_eq_true (by omega)
    have c3 : IntKind.i64.wrap ((j : Int) + 1) = ((j + 1 : Nat) : Int) := wrap_succ (by omega)
    have ih' := fun v15 => ih m (j + 1) v15 h3 hm'
    simp only [f36L5, f36L5G, f36L5F, f36L5B, c1, c2, c3, cond_true, chk_true, Int.toNat_natCast, h2, ih']
theorem f36L5_at (n : Nat) (v2 : List (Int × Int × List (Int × Int))) (v5 : Int) (a1 : Int × Int × Int × Int × Int × Int) (k0 : Int → Option (Int)) (hl : v2.length < 4611686018427387904) (hn : v2.length < n + 8) (v15 : Int) : f36L5 n v2 v5 a1 (n + 8) v15 0 k0 = f36L5F n v2 v5 a1 k0 v2 0 v15 := f36L5_eq n v2 v5 a1 k0 hl v2 (n + 8) 0 v15 rfl hn
def f36G (n : Nat) (a0 : List (Int × Int × List (Int × Int))) (a1 : Int × Int × Int × Int × Int × Int) (lp5 : (List (Int × Int × List (Int × Int))) → Int → (Int × Int × Int × Int × Int × Int) → Int → Int → ((Int → Option (Int))) → Option (Int)) : Option (Int) :=
  let v1 : Option (List (Int × Int × List (Int × Int))) := f48 n a0 a1.2.2.2.2
  chk (v1.isSome) <|
  let v2 : List (Int × Int × List (Int × Int)) := v1.getD []
  let v3 : Int := IntKind.i64.wrap (a1.2.1 - a1.1)
  let v4 : Int := IntKind.i64.wrap (a1.2.2.2.1 - a1.2.2.1)
  let v5 : Int := IntKind.i64.wrap (v3 * v4)
  lp5 v2 v5 a1 (0 : Int) (0 : Int) (fun v28 =>
      some v28)
def f36 (n : Nat) (a0 : List (Int × Int × List (Int × Int))) (a1 : Int × Int × Int × Int × Int × Int) : Option (Int) := f36G n a0 a1 (fun v2 v5 a1 => f36L5 n v2 v5 a1 (n + 8))
/-! f16: sawmill/sawmillref20.Wane -/
def f16G (n : Nat) (a0 : List (Int × Int × List (Int × Int))) (a1 : Int × Int × Int × Int × Int × Int) : Option (Int) :=
  let v1 : Option (Bool) := f35 n a0 a1
  chk (v1.isSome) <|
  let v2 : Bool := v1.getD false
  bif (!v2) then
    some 1000
  else
    let v3 : Option (Int) := f36 n a0 a1
    chk (v3.isSome) <|
    let v4 : Int := v3.getD (0 : Int)
    some v4
def f16 (n : Nat) (a0 : List (Int × Int × List (Int × Int))) (a1 : Int × Int × Int × Int × Int × Int) : Option (Int) := f16G n a0 a1
/-! f4: sawmill/sawmilllaw20.WorthWanes -/
def f4G (n : Nat) (a0 : List (Int × Int × List (Int × Int))) (a1 : Int × Int × Int × Int × Int × Int) : Option (Bool) :=
  let v1 : Option (Bool) := f14 n (a0, [], ByteArray.empty, 0, 0, 0, 0, [], [], 0)
  chk (v1.isSome) <|
  let v2 : Bool := v1.getD false
  bif (!v2) then
    some true
  else
    let v3 : Option (Int) := f15 n a0 a1
    chk (v3.isSome) <|
    let v4 : Int := v3.getD (0 : Int)
    let v5 : Option (Int) := f16 n a0 a1
    chk (v5.isSome) <|
    let v6 : Int := v5.getD (0 : Int)
    bif (v4 == v6) then
      some true
    else
      some false
def f4 (n : Nat) (a0 : List (Int × Int × List (Int × Int))) (a1 : Int × Int × Int × Int × Int × Int) : Option (Bool) := f4G n a0 a1
/-! f91: sawmill/defect.axes -/
def f91 (a0 : Int × Int × Int × Int × Int × Int) : Int × Int × Int × Int × Int × Int :=
  a0
def f91O (a0 : Int × Int × Int × Int × Int × Int) : Option (Int × Int × Int × Int × Int × Int) :=
  some a0
theorem f91_o (a0 : Int × Int × Int × Int × Int × Int) : f91O a0 = some (f91 a0) := by
  unfold f91O f91
  first | rfl | (simp only [cond_some]) | (simp only [cond_some]; rfl)
/-! f92: sawmill/defect.within -/
def f92 (a0 : Int × Int) (a1 : Int) (a2 : Int) : Bool :=
  let v1 : Int := if a0.2 < a0.1 then a0.2 else a0.1
  bif decide (v1 ≥ a1) then
    let v2 : Int := if a0.2 > a0.1 then a0.2 else a0.1
    decide (v2 ≤ a2)
  else
    false
def f92O (a0 : Int × Int) (a1 : Int) (a2 : Int) : Option (Bool) :=
  let v1 : Int := if a0.2 < a0.1 then a0.2 else a0.1
  bif decide (v1 ≥ a1) then
    let v2 : Int := if a0.2 > a0.1 then a0.2 else a0.1
    some (decide (v2 ≤ a2))
  else
    some false
theorem f92_o (a0 : Int × Int) (a1 : Int) (a2 : Int) : f92O a0 a1 a2 = some (f92 a0 a1 a2) := by
  unfold f92O f92
  first | rfl | (simp only [cond_some]) | (simp only [cond_some]; rfl)
/-! f80: sawmill/defect.flawed -/
def f80 (a0 : Int × Int × Int × Int × Int × Int × Int) : Int :=
  bif decide (a0.1 < 1) then
    10
  else
    bif decide (a0.1 > 6) then
      10
    else
      let v1 : Int × Int × Int × Int × Int × Int := f91 a0.2
      bif decide (v1.1 ≥ v1.2.1) then
        19
      else
        bif decide (v1.2.2.1 ≥ v1.2.2.2.1) then
          19
        else
          bif decide (v1.2.2.2.2.1 ≥ v1.2.2.2.2.2) then
            19
          else
            let v2 : Bool := f92 (a0.2.1, a0.2.2.1) (-600) 600
            bif (!v2) then
              9
            else
              let v3 : Bool := f92 (a0.2.2.2.1, a0.2.2.2.2.1) (-600) 600
              bif (!v3) then
                9
              else
                let v4 : Bool := f92 a0.2.2.2.2.2 0 20000
                bif (!v4) then
                  9
                else
                  0
def f80O (a0 : Int × Int × Int × Int × Int × Int × Int) : Option (Int) :=
  bif decide (a0.1 < 1) then
    some 10
  else
    bif decide (a0.1 > 6) then
      some 10
    else
      let v1 : Int × Int × Int × Int × Int × Int := f91 a0.2
      bif decide (v1.1 ≥ v1.2.1) then
        some 19
      else
        bif decide (v1.2.2.1 ≥ v1.2.2.2.1) then
          some 19
        else
          bif decide (v1.2.2.2.2.1 ≥ v1.2.2.2.2.2) then
            some 19
          else
            let v2 : Bool := f92 (a0.2.1, a0.2.2.1) (-600) 600
            bif (!v2) then
              some 9
            else
              let v3 : Bool := f92 (a0.2.2.2.1, a0.2.2.2.2.1) (-600) 600
              bif (!v3) then
                some 9
              else
                let v4 : Bool := f92 a0.2.2.2.2.2 0 20000
                bif (!v4) then
                  some 9
                else
                  some 0
theorem f80_o (a0 : Int × Int × Int × Int × Int × Int × Int) : f80O a0 = some (f80 a0) := by
  unfold f80O f80
  first | rfl | (simp only [cond_some]) | (simp only [cond_some]; rfl)
/-! f67: sawmill/defect.Check -/
def f67L4G (n : Nat) (a0 : List (Int × Int × Int × Int × Int × Int × Int)) (v3 : Int) (kc : Int → Option (Int)) (kret : Int → Option (Int)) (k0 : Option (Int)) : Option (Int) :=
  bif decide (v3 < (a0.length : Int)) then
    chk (decide ((0 : Int) ≤ v3)) <|
    chk (decide (v3 < (a0.length : Int))) <|
    let v4 : Int × Int × Int × Int × Int × Int × Int := a0.getD (Int.toNat v3) ((0 : Int), (0 : Int), (0 : Int), (0 : Int), (0 : Int), (0 : Int), (0 : Int))
    let v5 : Int := f80 v4
    bif (v5 != 0) then
      kret v5
    else
      let v6 : Int := IntKind.i64.wrap (v3 + 1)
      kc v6
  else
    k0
def f67L4 (n : Nat) (a0 : List (Int × Int × Int × Int × Int × Int × Int)) : Nat → Int → ((Int → Option (Int))) → (Option (Int)) → Option (Int)
  | 0, _, _, _ => none
  | m + 1, v3, kret, k0 => f67L4G n a0 v3 (fun v3 => f67L4 n a0 m v3 kret k0) kret k0
def f67L4B (n : Nat) (a0 : List (Int × Int × Int × Int × Int × Int × Int)) (x3 : Int × Int × Int × Int × Int × Int × Int) (v3 : Int) (kc : Option (Int)) (kret : Int → Option (Int)) (k0 : Option (Int)) : Option (Int) :=
  let v5 : Int := f80 x3
  bif (v5 != 0) then
    kret v5
  else
    kc
def f67L4F (n : Nat) (a0 : List (Int × Int × Int × Int × Int × Int × Int)) (kret : Int → Option (Int)) (k0 : Option (Int)) : List (Int × Int × Int × Int × Int × Int × Int) → Nat → Option (Int)
  | [], j =>
    let v3 : Int := (j : Int)
    k0
  | x3 :: r, j => f67L4B n a0 x3 (j : Int) (f67L4F n a0 kret k0 r (j + 1)) kret k0
theorem f67L4_eq (n : Nat) (a0 : List (Int × Int × Int × Int × Int × Int × Int)) (kret : Int → Option (Int)) (k0 : Option (Int)) (hl : a0.length < 4611686018427387904) : ∀ (r : List (Int × Int × Int × Int × Int × Int × Int)) (m j : Nat), a0.drop j = r → r.length < m → f67L4 n a0 m (j : Int) kret k0 = f67L4F n a0 kret k0 r j := by
  intro r
  induction r with
  | nil =>
    intro m j h hm
    obtain ⟨m, rfl⟩ : ∃ q, m = q + 1 := ⟨m - 1, by omega⟩
    have h1 := drop_none h
    have c1 : decide ((j : Int) < (a0.length : Int)) = false := decide_eq_false (by omega)
    simp only [f67L4, f67L4G, f67L4F, c1, cond_false]
  | cons x r ih =>
    intro m j h hm
    obtain ⟨m, rfl⟩ : ∃ q, m = q + 1 := ⟨m - 1, by omega⟩
    obtain ⟨h1, h2, h3⟩ := drop_cons h
    have hm' : r.length < m := by simp only [List.length_cons] at hm; omega
    have c1 : decide ((j : Int) < (a0.length : Int)) = true := decide_eq_true (by omega)
    have c2 : decide ((0 : Int) ≤ (j : Int)) = true := decide_eq_true (by omega)
    have c3 : IntKind.i64.wrap ((j : Int) + 1) = ((j + 1 : Nat) : Int) := wrap_succ (by omega)
    have ih' := ih m (j + 1) h3 hm'
    simp only [f67L4, f67L4G, f67L4F, f67L4B, c1, c2, c3, cond_true, chk_true, Int.toNat_natCast, h2, ih']
theorem f67L4_at (n : Nat) (a0 : List (Int × Int × Int × Int × Int × Int × Int)) (kret : Int → Option (Int)) (k0 : Option (Int)) (hl : a0.length < 4611686018427387904) (hn : a0.length < n + 8) : f67L4 n a0 (n + 8) 0 kret k0 = f67L4F n a0 kret k0 a0 0 := f67L4_eq n a0 kret k0 hl a0 (n + 8) 0 rfl hn
def f67G (n : Nat) (a0 : List (Int × Int × Int × Int × Int × Int × Int)) (lp4 : (List (Int × Int × Int × Int × Int × Int × Int)) → Int → ((Int → Option (Int))) → (Option (Int)) → Option (Int)) : Option (Int) :=
  bif decide ((a0.length : Int) > 64) then
    some 4
  else
    lp4 a0 (0 : Int) (fun v8 =>
        some v8) (
        some 0)
def f67 (n : Nat) (a0 : List (Int × Int × Int × Int × Int × Int × Int)) : Option (Int) := f67G n a0 (fun a0 => f67L4 n a0 (n + 8))
/-! f93: sawmill/ident.digit -/
def f93 (a0 : Int) : Bool :=
  bif decide ((48 : Int) ≤ a0) then
    decide (a0 ≤ 57)
  else
    false
def f93O (a0 : Int) : Option (Bool) :=
  bif decide ((48 : Int) ≤ a0) then
    some (decide (a0 ≤ 57))
  else
    some false
theorem f93_o (a0 : Int) : f93O a0 = some (f93 a0) := by
  unfold f93O f93
  first | rfl | (simp only [cond_some]) | (simp only [cond_some]; rfl)
/-! f81: sawmill/ident.IsName -/
def f81L4G (n : Nat) (a0 : ByteArray) (v6 : Int) (kc : Int → Option (Bool)) (kret : Option (Bool)) (k0 : Option (Bool)) : Option (Bool) :=
  bif decide (v6 < (a0.size : Int)) then
    chk (decide ((0 : Int) ≤ v6)) <|
    chk (decide (v6 < (a0.size : Int))) <|
    let v7 : Int := ((a0.data.getD (Int.toNat v6) 0).toNat : Int)
    let v8 : Bool := f93 v7
    bif (!v8) then
      bif (v7 != 95) then
        bif decide (v7 < 97) then
          kret
        else
          bif decide (v7 > 122) then
            kret
          else
            let v9 : Int := IntKind.i64.wrap (v6 + 1)
            kc v9
      else
        let v10 : Int := IntKind.i64.wrap (v6 + 1)
        kc v10
    else
      let v11 : Int := IntKind.i64.wrap (v6 + 1)
      kc v11
  else
    k0
def f81L4 (n : Nat) (a0 : ByteArray) : Nat → Int → (Option (Bool)) → (Option (Bool)) → Option (Bool)
  | 0, _, _, _ => none
  | m + 1, v6, kret, k0 => f81L4G n a0 v6 (fun v6 => f81L4 n a0 m v6 kret k0) kret k0
def f81G (n : Nat) (a0 : ByteArray) (lp4 : ByteArray → Int → (Option (Bool)) → (Option (Bool)) → Option (Bool)) : Option (Bool) :=
  bif (a0.toList == (⟨#[]⟩ : ByteArray).toList) then
    some false
  else
    bif decide ((a0.size : Int) > 16) then
      some false
    else
      chk (decide ((0 : Int) < (a0.size : Int))) <|
      let v1 : Int := ((a0.data.getD 0 0).toNat : Int)
      let v2 : Bool := f93 v1
      bif v2 then
        some false
      else
        chk (decide ((0 : Int) < (a0.size : Int))) <|
        let v3 : Int := ((a0.data.getD 0 0).toNat : Int)
        bif (v3 == 95) then
          some false
        else
          lp4 a0 (0 : Int) (
              some false) (
              some true)
def f81 (n : Nat) (a0 : ByteArray) : Option (Bool) := f81G n a0 (fun a0 => f81L4 n a0 (n + 8))
/-! f82: sawmill/product.Find -/
def f82L2G (n : Nat) (a1 : ByteArray) (a0 : List (ByteArray × Int × Int × Int × Int × List Int × List Int)) (v2 : Int) (kc : Int → Option (Int × Bool)) (kret : Int → Option (Int × Bool)) (k0 : Option (Int × Bool)) : Option (Int × Bool) :=
  bif decide (v2 < (a0.length : Int)) then
    chk (decide ((0 : Int) ≤ v2)) <|
    chk (decide (v2 < (a0.length : Int))) <|
    let v3 : ByteArray × Int × Int × Int × Int × List Int × List Int := a0.getD (Int.toNat v2) (ByteArray.empty, (0 : Int), (0 : Int), (0 : Int), (0 : Int), [], [])
    bif (v3.1.toList == a1.toList) then
      kret v2
    else
      let v4 : Int := IntKind.i64.wrap (v2 + 1)
      kc v4
  else
    k0
def f82L2 (n : Nat) (a1 : ByteArray) (a0 : List (ByteArray × Int × Int × Int × Int × List Int × List Int)) : Nat → Int → ((Int → Option (Int × Bool))) → (Option (Int × Bool)) → Option (Int × Bool)
  | 0, _, _, _ => none
  | m + 1, v2, kret, k0 => f82L2G n a1 a0 v2 (fun v2 => f82L2 n a1 a0 m v2 kret k0) kret k0
def f82L2B (n : Nat) (a1 : ByteArray) (a0 : List (ByteArray × Int × Int × Int × Int × List Int × List Int)) (x2 : ByteArray × Int × Int × Int × Int × List Int × List Int) (v2 : Int) (kc : Option (Int × Bool)) (kret : Int → Option (Int × Bool)) (k0 : Option (Int × Bool)) : Option (Int × Bool) :=
  bif (x2.1.toList == a1.toList) then
    kret v2
  else
    kc
def f82L2F (n : Nat) (a1 : ByteArray) (a0 : List (ByteArray × Int × Int × Int × Int × List Int × List Int)) (kret : Int → Option (Int × Bool)) (k0 : Option (Int × Bool)) : List (ByteArray × Int × Int × Int × Int × List Int × List Int) → Nat → Option (Int × Bool)
  | [], j =>
    let v2 : Int := (j : Int)
    k0
  | x2 :: r, j => f82L2B n a1 a0 x2 (j : Int) (f82L2F n a1 a0 kret k0 r (j + 1)) kret k0
theorem f82L2_eq (n : Nat) (a1 : ByteArray) (a0 : List (ByteArray × Int × Int × Int × Int × List Int × List Int)) (kret : Int → Option (Int × Bool)) (k0 : Option (Int × Bool)) (hl : a0.length < 4611686018427387904) : ∀ (r : List (ByteArray × Int × Int × Int × Int × List Int × List Int)) (m j : Nat), a0.drop j = r → r.length < m → f82L2 n a1 a0 m (j : Int) kret k0 = f82L2F n a1 a0 kret k0 r j := by
  intro r
  induction r with
  | nil =>
    intro m j h hm
    obtain ⟨m, rfl⟩ : ∃ q, m = q + 1 := ⟨m - 1, by omega⟩
    have h1 := drop_none h
    have c1 : decide ((j : Int) < (a0.length : Int)) = false := decide_eq_false (by omega)
    simp only [f82L2, f82L2G, f82L2F, c1, cond_false]
  | cons x r ih =>
    intro m j h hm
    obtain ⟨m, rfl⟩ : ∃ q, m = q + 1 := ⟨m - 1, by omega⟩
    obtain ⟨h1, h2, h3⟩ := drop_cons h
    have hm' : r.length < m := by simp only [List.length_cons] at hm; omega
    have c1 : decide ((j : Int) < (a0.length : Int)) = true := decide_eq_true (by omega)
    have c2 : decide ((0 : Int) ≤ (j : Int)) = true := decide_eq_true (by omega)
    have c3 : IntKind.i64.wrap ((j : Int) + 1) = ((j + 1 : Nat) : Int) := wrap_succ (by omega)
    have ih' := ih m (j + 1) h3 hm'
    simp only [f82L2, f82L2G, f82L2F, f82L2B, c1, c2, c3, cond_true, chk_true, Int.toNat_natCast, h2, ih']
theorem f82L2_at (n : Nat) (a1 : ByteArray) (a0 : List (ByteArray × Int × Int × Int × Int × List Int × List Int)) (kret : Int → Option (Int × Bool)) (k0 : Option (Int × Bool)) (hl : a0.length < 4611686018427387904) (hn : a0.length < n + 8) : f82L2 n a1 a0 (n + 8) 0 kret k0 = f82L2F n a1 a0 kret k0 a0 0 := f82L2_eq n a1 a0 kret k0 hl a0 (n + 8) 0 rfl hn
def f82G (n : Nat) (a0 : List (ByteArray × Int × Int × Int × Int × List Int × List Int)) (a1 : ByteArray) (lp2 : ByteArray → (List (ByteArray × Int × Int × Int × Int × List Int × List Int)) → Int → ((Int → Option (Int × Bool))) → (Option (Int × Bool)) → Option (Int × Bool)) : Option (Int × Bool) :=
  lp2 a1 a0 (0 : Int) (fun v6 =>
      some (v6, true)) (
      some (0, false))
def f82 (n : Nat) (a0 : List (ByteArray × Int × Int × Int × Int × List Int × List Int)) (a1 : ByteArray) : Option (Int × Bool) := f82G n a0 a1 (fun a1 a0 => f82L2 n a1 a0 (n + 8))
/-! f94: sawmill/units.Floor$1 -/
def f94 (a0 : Int) (a1 : Int) : Bool :=
  false
def f94O (a0 : Int) (a1 : Int) : Option (Bool) :=
  some false
theorem f94_o (a0 : Int) (a1 : Int) : f94O a0 a1 = some (f94 a0 a1) := by
  unfold f94O f94
  first | rfl | (simp only [cond_some]) | (simp only [cond_some]; rfl)
/-! f95i0: (sawmill/units.division).of -/
def f95i0G (a0 : Int) (a1 : Int) : Option (Int × Bool) :=
  bif (a1 == 0) then
    some (0, false)
  else
    bif (a0 == (-9223372036854775808)) then
      bif (a1 == (-1)) then
        some (0, false)
      else
        chk (!decide (a1 = 0)) <|
        let v1 : Int := IntKind.i64.wrap (a0.tdiv a1)
        chk (!decide (a1 = 0)) <|
        let v2 : Int := a0.tmod a1
        bif (v2 != 0) then
          bif (!(decide (v2 < 0) == decide (a1 < 0))) then
            let v3 : Int := IntKind.i64.wrap (v1 - 1)
            let v4 : Int := IntKind.i64.wrap (v2 + a1)
            let v5 : Bool := f94 v4 a1
            bif v5 then
              let v6 : Int := IntKind.i64.wrap (v3 + 1)
              some (v6, true)
            else
              some (v3, true)
          else
            let v7 : Bool := f94 v2 a1
            bif v7 then
              let v8 : Int := IntKind.i64.wrap (v1 + 1)
              some (v8, true)
            else
              some (v1, true)
        else
          let v9 : Bool := f94 v2 a1
          bif v9 then
            let v10 : Int := IntKind.i64.wrap (v1 + 1)
            some (v10, true)
          else
            some (v1, true)
    else
      chk (!decide (a1 = 0)) <|
      let v11 : Int := IntKind.i64.wrap (a0.tdiv a1)
      chk (!decide (a1 = 0)) <|
      let v12 : Int := a0.tmod a1
      bif (v12 != 0) then
        bif (!(decide (v12 < 0) == decide (a1 < 0))) then
          let v13 : Int := IntKind.i64.wrap (v11 - 1)
          let v14 : Int := IntKind.i64.wrap (v12 + a1)
          let v15 : Bool := f94 v14 a1
          bif v15 then
            let v16 : Int := IntKind.i64.wrap (v13 + 1)
            some (v16, true)
          else
            some (v13, true)
        else
          let v17 : Bool := f94 v12 a1
          bif v17 then
            let v18 : Int := IntKind.i64.wrap (v11 + 1)
            some (v18, true)
          else
            some (v11, true)
      else
        let v19 : Bool := f94 v12 a1
        bif v19 then
          let v20 : Int := IntKind.i64.wrap (v11 + 1)
          some (v20, true)
        else
          some (v11, true)
def f95i0 (a0 : Int) (a1 : Int) : Option (Int × Bool) := f95i0G a0 a1
/-! f85: sawmill/units.Floor -/
def f85G (a0 : Int) (a1 : Int) : Option (Int × Bool) :=
  let v1 : Option (Int × Bool) := f95i0 a0 a1
  chk (v1.isSome) <|
  let v2 : Int × Bool := v1.getD ((0 : Int), false)
  some (v2.1, v2.2)
def f85 (a0 : Int) (a1 : Int) : Option (Int × Bool) := f85G a0 a1
/-! f69: sawmill/product.Green -/
def f69G (a0 : ByteArray × Int × Int × Int × Int × List Int × List Int) : Option (Int × Int) :=
  let v1 : Int := if a0.2.2.1 < a0.2.1 then a0.2.2.1 else a0.2.1
  bif decide (v1 < 1) then
    some (0, 0)
  else
    let v2 : Int := if a0.2.2.1 > a0.2.1 then a0.2.2.1 else a0.2.1
    bif decide (v2 > 600) then
      some (0, 0)
    else
      bif decide (a0.2.2.2.1 < 0) then
        some (0, 0)
      else
        bif decide (a0.2.2.2.1 > 200) then
          some (0, 0)
        else
          let v3 : Int := IntKind.i64.wrap ((1000 : Int) + a0.2.2.2.1)
          let v4 : Int := IntKind.i64.wrap (a0.2.1 * v3)
          let v5 : Int := IntKind.i64.wrap (v4 + 1000)
          let v6 : Int := IntKind.i64.wrap (v5 - 1)
          let v7 : Option (Int × Bool) := f85 v6 1000
          chk (v7.isSome) <|
          let v8 : Int × Bool := v7.getD ((0 : Int), false)
          let v9 : Int := IntKind.i64.wrap ((1000 : Int) + a0.2.2.2.1)
          let v10 : Int := IntKind.i64.wrap (a0.2.2.1 * v9)
          let v11 : Int := IntKind.i64.wrap (v10 + 1000)
          let v12 : Int := IntKind.i64.wrap (v11 - 1)
          let v13 : Option (Int × Bool) := f85 v12 1000
          chk (v13.isSome) <|
          let v14 : Int × Bool := v13.getD ((0 : Int), false)
          some (v8.1, v14.1)
def f69 (a0 : ByteArray × Int × Int × Int × Int × List Int × List Int) : Option (Int × Int) := f69G a0
/-! f83: sawmill/product.sized -/
def f83G (a0 : ByteArray × Int × Int × Int × Int × List Int × List Int) : Option (Bool) :=
  bif decide (a0.2.1 < 5) then
    some false
  else
    bif decide (a0.2.1 > 300) then
      some false
    else
      bif decide (a0.2.2.1 < a0.2.1) then
        some false
      else
        bif decide (a0.2.2.1 > 600) then
          some false
        else
          bif decide (a0.2.2.2.1 < 0) then
            some false
          else
            bif decide (a0.2.2.2.1 > 200) then
              some false
            else
              bif decide (a0.2.2.2.2.1 < 0) then
                some false
              else
                bif decide (a0.2.2.2.2.1 > 1000) then
                  some false
                else
                  let v1 : Option (Int × Int) := f69 a0
                  chk (v1.isSome) <|
                  let v2 : Int × Int := v1.getD ((0 : Int), (0 : Int))
                  some (decide (v2.2 ≤ 600))
def f83 (a0 : ByteArray × Int × Int × Int × Int × List Int × List Int) : Option (Bool) := f83G a0
/-! f84: sawmill/product.checkLengths -/
def f84L9G (n : Nat) (a0 : ByteArray × Int × Int × Int × Int × List Int × List Int) (v3 : Int) (kc : Int → Option (Int)) (kret : Int → Option (Int)) (k1 : Option (Int)) : Option (Int) :=
  bif decide (v3 < (a0.2.2.2.2.2.1.length : Int)) then
    chk (decide ((0 : Int) ≤ v3)) <|
    chk (decide (v3 < (a0.2.2.2.2.2.1.length : Int))) <|
    let v4 : Int := a0.2.2.2.2.2.1.getD (Int.toNat v3) (0 : Int)
    bif decide (v4 < 100) then
      kret (9 : Int)
    else
      bif decide (v4 > 20000) then
        kret (9 : Int)
      else
        bif decide (v3 > 0) then
          let v5 : Int := IntKind.i64.wrap (v3 - 1)
          chk (decide ((0 : Int) ≤ v5)) <|
          chk (decide (v5 < (a0.2.2.2.2.2.1.length : Int))) <|
          let v6 : Int := a0.2.2.2.2.2.1.getD (Int.toNat v5) (0 : Int)
          bif decide (v4 ≤ v6) then
            kret (11 : Int)
          else
            let v7 : Int := IntKind.i64.wrap (v3 + 1)
            kc v7
        else
          let v8 : Int := IntKind.i64.wrap (v3 + 1)
          kc v8
  else
    k1
def f84L9 (n : Nat) (a0 : ByteArray × Int × Int × Int × Int × List Int × List Int) : Nat → Int → ((Int → Option (Int))) → (Option (Int)) → Option (Int)
  | 0, _, _, _ => none
  | m + 1, v3, kret, k1 => f84L9G n a0 v3 (fun v3 => f84L9 n a0 m v3 kret k1) kret k1
def f84L9B (n : Nat) (a0 : ByteArray × Int × Int × Int × Int × List Int × List Int) (x3 : Int) (v3 : Int) (kc : Option (Int)) (kret : Int → Option (Int)) (k1 : Option (Int)) : Option (Int) :=
  bif decide (x3 < 100) then
    kret (9 : Int)
  else
    bif decide (x3 > 20000) then
      kret (9 : Int)
    else
      bif decide (v3 > 0) then
        let v5 : Int := IntKind.i64.wrap (v3 - 1)
        chk (decide ((0 : Int) ≤ v5)) <|
        chk (decide (v5 < (a0.2.2.2.2.2.1.length : Int))) <|
        let v6 : Int := a0.2.2.2.2.2.1.getD (Int.toNat v5) (0 : Int)
        bif decide (x3 ≤ v6) then
          kret (11 : Int)
        else
          kc
      else
        kc
def f84L9F (n : Nat) (a0 : ByteArray × Int × Int × Int × Int × List Int × List Int) (kret : Int → Option (Int)) (k1 : Option (Int)) : List (Int) → Nat → Option (Int)
  | [], j =>
    let v3 : Int := (j : Int)
    k1
  | x3 :: r, j => f84L9B n a0 x3 (j : Int) (f84L9F n a0 kret k1 r (j + 1)) kret k1
theorem f84L9_eq (n : Nat) (a0 : ByteArray × Int × Int × Int × Int × List Int × List Int) (kret : Int → Option (Int)) (k1 : Option (Int)) (hl : a0.2.2.2.2.2.1.length < 4611686018427387904) : ∀ (r : List (Int)) (m j : Nat), a0.2.2.2.2.2.1.drop j = r → r.length < m → f84L9 n a0 m (j : Int) kret k1 = f84L9F n a0 kret k1 r j := by
  intro r
  induction r with
  | nil =>
    intro m j h hm
    obtain ⟨m, rfl⟩ : ∃ q, m = q + 1 := ⟨m - 1, by omega⟩
    have h1 := drop_none h
    have c1 : decide ((j : Int) < (a0.2.2.2.2.2.1.length : Int)) = false := decide_eq_false (by omega)
    simp only [f84L9, f84L9G, f84L9F, c1, cond_false]
  | cons x r ih =>
    intro m j h hm
    obtain ⟨m, rfl⟩ : ∃ q, m = q + 1 := ⟨m - 1, by omega⟩
    obtain ⟨h1, h2, h3⟩ := drop_cons h
    have hm' : r.length < m := by simp only [List.length_cons] at hm; omega
    have c1 : decide ((j : Int) < (a0.2.2.2.2.2.1.length : Int)) = true := decide_eq_true (by omega)
    have c2 : decide ((0 : Int) ≤ (j : Int)) = true := decide_eq_true (by omega)
    have c3 : IntKind.i64.wrap ((j : Int) + 1) = ((j + 1 : Nat) : Int) := wrap_succ (by omega)
    have ih' := ih m (j + 1) h3 hm'
    simp only [f84L9, f84L9G, f84L9F, f84L9B, c1, c2, c3, cond_true, chk_true, Int.toNat_natCast, h2, ih']
theorem f84L9_at (n : Nat) (a0 : ByteArray × Int × Int × Int × Int × List Int × List Int) (kret : Int → Option (Int)) (k1 : Option (Int)) (hl : a0.2.2.2.2.2.1.length < 4611686018427387904) (hn : a0.2.2.2.2.2.1.length < n + 8) : f84L9 n a0 (n + 8) 0 kret k1 = f84L9F n a0 kret k1 a0.2.2.2.2.2.1 0 := f84L9_eq n a0 kret k1 hl a0.2.2.2.2.2.1 (n + 8) 0 rfl hn
def f84L17G (n : Nat) (a0 : ByteArray × Int × Int × Int × Int × List Int × List Int) (v12 : Int) (kc : Int → Option (Int)) (kret : Option (Int)) (k3 : Option (Int)) : Option (Int) :=
  bif decide (v12 < (a0.2.2.2.2.2.2.length : Int)) then
    chk (decide ((0 : Int) ≤ v12)) <|
    chk (decide (v12 < (a0.2.2.2.2.2.2.length : Int))) <|
    let v13 : Int := a0.2.2.2.2.2.2.getD (Int.toNat v12) (0 : Int)
    bif decide (v13 < 0) then
      kret
    else
      bif decide (v13 > 1000000) then
        kret
      else
        let v14 : Int := IntKind.i64.wrap (v12 + 1)
        kc v14
  else
    k3
def f84L17 (n : Nat) (a0 : ByteArray × Int × Int × Int × Int × List Int × List Int) : Nat → Int → (Option (Int)) → (Option (Int)) → Option (Int)
  | 0, _, _, _ => none
  | m + 1, v12, kret, k3 => f84L17G n a0 v12 (fun v12 => f84L17 n a0 m v12 kret k3) kret k3
def f84L17B (n : Nat) (a0 : ByteArray × Int × Int × Int × Int × List Int × List Int) (x12 : Int) (v12 : Int) (kc : Option (Int)) (kret : Option (Int)) (k3 : Option (Int)) : Option (Int) :=
  bif decide (x12 < 0) then
    kret
  else
    bif decide (x12 > 1000000) then
      kret
    else
      kc
def f84L17F (n : Nat) (a0 : ByteArray × Int × Int × Int × Int × List Int × List Int) (kret : Option (Int)) (k3 : Option (Int)) : List (Int) → Nat → Option (Int)
  | [], j =>
    let v12 : Int := (j : Int)
    k3
  | x12 :: r, j => f84L17B n a0 x12 (j : Int) (f84L17F n a0 kret k3 r (j + 1)) kret k3
theorem f84L17_eq (n : Nat) (a0 : ByteArray × Int × Int × Int × Int × List Int × List Int) (kret : Option (Int)) (k3 : Option (Int)) (hl : a0.2.2.2.2.2.2.length < 4611686018427387904) : ∀ (r : List (Int)) (m j : Nat), a0.2.2.2.2.2.2.drop j = r → r.length < m → f84L17 n a0 m (j : Int) kret k3 = f84L17F n a0 kret k3 r j := by
  intro r
  induction r with
  | nil =>
    intro m j h hm
    obtain ⟨m, rfl⟩ : ∃ q, m = q + 1 := ⟨m - 1, by omega⟩
    have h1 := drop_none h
    have c1 : decide ((j : Int) < (a0.2.2.2.2.2.2.length : Int)) = false := decide_eq_false (by omega)
    simp only [f84L17, f84L17G, f84L17F, c1, cond_false]
  | cons x r ih =>
    intro m j h hm
    obtain ⟨m, rfl⟩ : ∃ q, m = q + 1 := ⟨m - 1, by omega⟩
    obtain ⟨h1, h2, h3⟩ := drop_cons h
    have hm' : r.length < m := by simp only [List.length_cons] at hm; omega
    have c1 : decide ((j : Int) < (a0.2.2.2.2.2.2.length : Int)) = true := decide_eq_true (by omega)
    have c2 : decide ((0 : Int) ≤ (j : Int)) = true := decide_eq_true (by omega)
    have c3 : IntKind.i64.wrap ((j : Int) + 1) = ((j + 1 : Nat) : Int) := wrap_succ (by omega)
    have ih' := ih m (j + 1) h3 hm'
    simp only [f84L17, f84L17G, f84L17F, f84L17B, c1, c2, c3, cond_true, chk_true, Int.toNat_natCast, h2, ih']
theorem f84L17_at (n : Nat) (a0 : ByteArray × Int × Int × Int × Int × List Int × List Int) (kret : Option (Int)) (k3 : Option (Int)) (hl : a0.2.2.2.2.2.2.length < 4611686018427387904) (hn : a0.2.2.2.2.2.2.length < n + 8) : f84L17 n a0 (n + 8) 0 kret k3 = f84L17F n a0 kret k3 a0.2.2.2.2.2.2 0 := f84L17_eq n a0 kret k3 hl a0.2.2.2.2.2.2 (n + 8) 0 rfl hn
def f84G (n : Nat) (a0 : ByteArray × Int × Int × Int × Int × List Int × List Int) (lp9 : (ByteArray × Int × Int × Int × Int × List Int × List Int) → Int → ((Int → Option (Int))) → (Option (Int)) → Option (Int)) (lp17 : (ByteArray × Int × Int × Int × Int × List Int × List Int) → Int → (Option (Int)) → (Option (Int)) → Option (Int)) : Option (Int) :=
  bif ((a0.2.2.2.2.2.1.length : Int) == 0) then
    some 3
  else
    bif decide ((a0.2.2.2.2.2.1.length : Int) > 8) then
      some 4
    else
      let v1 : Bool := ((a0.2.2.2.2.2.1.length : Int) != (a0.2.2.2.2.2.2.length : Int))
      bif v1 then
        some 19
      else
        lp9 a0 (0 : Int) (fun v10 =>
            some v10) (
            lp17 a0 (0 : Int) (
                some 9) (
                some 0))
def f84 (n : Nat) (a0 : ByteArray × Int × Int × Int × Int × List Int × List Int) : Option (Int) := f84G n a0 (fun a0 => f84L9 n a0 (n + 8)) (fun a0 => f84L17 n a0 (n + 8))
/-! f68: sawmill/product.Check -/
def f68L4G (n : Nat) (a0 : List (ByteArray × Int × Int × Int × Int × List Int × List Int)) (v11 : Int) (kc : Int → Option (Int)) (kret : Int → Option (Int)) (k0 : Option (Int)) : Option (Int) :=
  bif decide (v11 < (a0.length : Int)) then
    chk (decide ((0 : Int) ≤ v11)) <|
    chk (decide (v11 < (a0.length : Int))) <|
    let v12 : ByteArray × Int × Int × Int × Int × List Int × List Int := a0.getD (Int.toNat v11) (ByteArray.empty, (0 : Int), (0 : Int), (0 : Int), (0 : Int), [], [])
    let v13 : Option (Bool) := f81 n v12.1
    chk (v13.isSome) <|
    let v14 : Bool := v13.getD false
    bif (!v14) then
      kret (6 : Int)
    else
      chk (decide ((0 : Int) ≤ v11)) <|
      chk (decide (v11 ≤ (a0.length : Int))) <|
      let v15 : List (ByteArray × Int × Int × Int × Int × List Int × List Int) := (a0.take (Int.toNat v11)).drop 0
      let v16 : Option (Int × Bool) := f82 n v15 v12.1
      chk (v16.isSome) <|
      let v17 : Int × Bool := v16.getD ((0 : Int), false)
      bif v17.2 then
        kret (7 : Int)
      else
        let v18 : Option (Bool) := f83 v12
        chk (v18.isSome) <|
        let v19 : Bool := v18.getD false
        bif (!v19) then
          kret (9 : Int)
        else
          let v20 : Option (Int) := f84 n v12
          chk (v20.isSome) <|
          let v21 : Int := v20.getD (0 : Int)
          bif (v21 != 0) then
            kret v21
          else
            let v22 : Int := IntKind.i64.wrap (v11 + 1)
            kc v22
  else
    k0
def f68L4 (n : Nat) (a0 : List (ByteArray × Int × Int × Int × Int × List Int × List Int)) : Nat → Int → ((Int → Option (Int))) → (Option (Int)) → Option (Int)
  | 0, _, _, _ => none
  | m + 1, v11, kret, k0 => f68L4G n a0 v11 (fun v11 => f68L4 n a0 m v11 kret k0) kret k0
def f68L4B (n : Nat) (a0 : List (ByteArray × Int × Int × Int × Int × List Int × List Int)) (x11 : ByteArray × Int × Int × Int × Int × List Int × List Int) (v11 : Int) (kc : Option (Int)) (kret : Int → Option (Int)) (k0 : Option (Int)) : Option (Int) :=
  let v13 : Option (Bool) := f81 n x11.1
  chk (v13.isSome) <|
  let v14 : Bool := v13.getD false
  bif (!v14) then
    kret (6 : Int)
  else
    chk (decide (v11 ≤ (a0.length : Int))) <|
    let v15 : List (ByteArray × Int × Int × Int × Int × List Int × List Int) := (a0.take (Int.toNat v11)).drop 0
    let v16 : Option (Int × Bool) := f82 n v15 x11.1
    chk (v16.isSome) <|
    let v17 : Int × Bool := v16.getD ((0 : Int), false)
    bif v17.2 then
      kret (7 : Int)
    else
      let v18 : Option (Bool) := f83 x11
      chk (v18.isSome) <|
      let v19 : Bool := v18.getD false
      bif (!v19) then
        kret (9 : Int)
      else
        let v20 : Option (Int) := f84 n x11
        chk (v20.isSome) <|
        let v21 : Int := v20.getD (0 : Int)
        bif (v21 != 0) then
          kret v21
        else
          kc
def f68L4F (n : Nat) (a0 : List (ByteArray × Int × Int × Int × Int × List Int × List Int)) (kret : Int → Option (Int)) (k0 : Option (Int)) : List (ByteArray × Int × Int × Int × Int × List Int × List Int) → Nat → Option (Int)
  | [], j =>
    let v11 : Int := (j : Int)
    k0
  | x11 :: r, j => f68L4B n a0 x11 (j : Int) (f68L4F n a0 kret k0 r (j + 1)) kret k0
theorem f68L4_eq (n : Nat) (a0 : List (ByteArray × Int × Int × Int × Int × List Int × List Int)) (kret : Int → Option (Int)) (k0 : Option (Int)) (hl : a0.length < 4611686018427387904) : ∀ (r : List (ByteArray × Int × Int × Int × Int × List Int × List Int)) (m j : Nat), a0.drop j = r → r.length < m → f68L4 n a0 m (j : Int) kret k0 = f68L4F n a0 kret k0 r j := by
  intro r
  induction r with
  | nil =>
    intro m j h hm
    obtain ⟨m, rfl⟩ : ∃ q, m = q + 1 := ⟨m - 1, by omega⟩
    have h1 := drop_none h
    have c1 : decide ((j : Int) < (a0.length : Int)) = false := decide_eq_false (by omega)
    simp only [f68L4, f68L4G, f68L4F, c1, cond_false]
  | cons x r ih =>
    intro m j h hm
    obtain ⟨m, rfl⟩ : ∃ q, m = q + 1 := ⟨m - 1, by omega⟩
    obtain ⟨h1, h2, h3⟩ := drop_cons h
    have hm' : r.length < m := by simp only [List.length_cons] at hm; omega
    have c1 : decide ((j : Int) < (a0.length : Int)) = true := decide_eq_true (by omega)
    have c2 : decide ((0 : Int) ≤ (j : Int)) = true := decide_eq_true (by omega)
    have c3 : IntKind.i64.wrap ((j : Int) + 1) = ((j + 1 : Nat) : Int) := wrap_succ (by omega)
    have ih' := ih m (j + 1) h3 hm'
    simp only [f68L4, f68L4G, f68L4F, f68L4B, c1, c2, c3, cond_true, chk_true, Int.toNat_natCast, h2, ih']
theorem f68L4_at (n : Nat) (a0 : List (ByteArray × Int × Int × Int × Int × List Int × List Int)) (kret : Int → Option (Int)) (k0 : Option (Int)) (hl : a0.length < 4611686018427387904) (hn : a0.length < n + 8) : f68L4 n a0 (n + 8) 0 kret k0 = f68L4F n a0 kret k0 a0 0 := f68L4_eq n a0 kret k0 hl a0 (n + 8) 0 rfl hn
def f68G (n : Nat) (a0 : List (ByteArray × Int × Int × Int × Int × List Int × List Int)) (lp4 : (List (ByteArray × Int × Int × Int × Int × List Int × List Int)) → Int → ((Int → Option (Int))) → (Option (Int)) → Option (Int)) : Option (Int) :=
  bif decide ((a0.length : Int) > 16) then
    some 4
  else
    lp4 a0 (0 : Int) (fun v24 =>
        some v24) (
        some 0)
def f68 (n : Nat) (a0 : List (ByteArray × Int × Int × Int × Int × List Int × List Int)) : Option (Int) := f68G n a0 (fun a0 => f68L4 n a0 (n + 8))
/-! f50: sawmill/worth.look -/
def f50G (n : Nat) (a0 : List (Int × Int × List (Int × Int))) (a1 : List (Int × Int × Int × Int × Int × Int × Int)) (a2 : ByteArray × Int × Int × Int × Int × List Int × List Int) (a3 : Int × Int × Int × Int) : Option ((List (Int × Int × Int × Int × Int × Int × Int) × ByteArray × Int × Int × Int × Int × List Int × List Int × Int × Int × Int × Int × Int × List Int × List Int) × Bool) :=
  let v1 : Option (Int) := f67 n a1
  chk (v1.isSome) <|
  let v2 : Int := v1.getD (0 : Int)
  bif (v2 != 0) then
    some (([], ByteArray.empty, 0, 0, 0, 0, [], [], 0, 0, 0, 0, 0, [], []), false)
  else
    let v3 : Option (Int) := f68 n [a2]
    chk (v3.isSome) <|
    let v4 : Int := v3.getD (0 : Int)
    bif (v4 != 0) then
      some (([], ByteArray.empty, 0, 0, 0, 0, [], [], 0, 0, 0, 0, 0, [], []), false)
    else
      let v5 : Option (Int) := f25 n a0
      chk (v5.isSome) <|
      let v6 : Int := v5.getD (0 : Int)
      bif (v6 != 0) then
        some (([], ByteArray.empty, 0, 0, 0, 0, [], [], 0, 0, 0, 0, 0, [], []), false)
      else
        let v7 : Bool := f32 a3
        bif (!v7) then
          some (([], ByteArray.empty, 0, 0, 0, 0, [], [], 0, 0, 0, 0, 0, [], []), false)
        else
          let v8 : Option (Int × Int) := f69 a2
          chk (v8.isSome) <|
          let v9 : Int × Int := v8.getD ((0 : Int), (0 : Int))
          let v10 : Int := IntKind.i64.wrap (a3.2.1 - a3.1)
          let v11 : Int := IntKind.i64.wrap (a3.2.2.2 - a3.2.2.1)
          bif (!((v10 == v9.1) && ((v11 == v9.2) && true))) then
            bif (!((v10 == v9.2) && ((v11 == v9.1) && true))) then
              some (([], ByteArray.empty, 0, 0, 0, 0, [], [], 0, 0, 0, 0, 0, [], []), false)
            else
              let v12 : Option (Int) := f27 n a0
              chk (v12.isSome) <|
              let v13 : Int := v12.getD (0 : Int)
              let v14 : Option (List Int × List Int) := f33 n a0 a3
              chk (v14.isSome) <|
              let v15 : List Int × List Int := v14.getD ([], [])
              some ((a1, a2.1, a2.2.1, a2.2.2.1, a2.2.2.2.1, a2.2.2.2.2.1, a2.2.2.2.2.2.1, a2.2.2.2.2.2.2, a3.1, a3.2.1, a3.2.2.1, a3.2.2.2, v13, v15.1, v15.2), true)
          else
            let v16 : Option (Int) := f27 n a0
            chk (v16.isSome) <|
            let v17 : Int := v16.getD (0 : Int)
            let v18 : Option (List Int × List Int) := f33 n a0 a3
            chk (v18.isSome) <|
            let v19 : List Int × List Int := v18.getD ([], [])
            some ((a1, a2.1, a2.2.1, a2.2.2.1, a2.2.2.2.1, a2.2.2.2.2.1, a2.2.2.2.2.2.1, a2.2.2.2.2.2.2, a3.1, a3.2.1, a3.2.2.1, a3.2.2.2, v17, v19.1, v19.2), true)
def f50 (n : Nat) (a0 : List (Int × Int × List (Int × Int))) (a1 : List (Int × Int × Int × Int × Int × Int × Int)) (a2 : ByteArray × Int × Int × Int × Int × List Int × List Int) (a3 : Int × Int × Int × Int) : Option ((List (Int × Int × Int × Int × Int × Int × Int) × ByteArray × Int × Int × Int × Int × List Int × List Int × Int × Int × Int × Int × Int × List Int × List Int) × Bool) := f50G n a0 a1 a2 a3
/-! f29: sawmill/worth.from -/
def f29 (a0 : Int) (a1 : Int) (a2 : Int) : Bool :=
  bif decide (a1 ≤ a0) then
    decide (a0 ≤ a2)
  else
    false
def f29O (a0 : Int) (a1 : Int) (a2 : Int) : Option (Bool) :=
  bif decide (a1 ≤ a0) then
    some (decide (a0 ≤ a2))
  else
    some false
theorem f29_o (a0 : Int) (a1 : Int) (a2 : Int) : f29O a0 a1 a2 = some (f29 a0 a1 a2) := by
  unfold f29O f29
  first | rfl | (simp only [cond_some]) | (simp only [cond_some]; rfl)
/-! f24: sawmill/product.Price -/
def f24L2G (n : Nat) (a1 : Int) (a0 : ByteArray × Int × Int × Int × Int × List Int × List Int) (v3 : Int) (kc : Int → Option (Int × Bool)) (kret : Int → Bool → Option (Int × Bool)) (k0 : Option (Int × Bool)) : Option (Int × Bool) :=
  bif decide (v3 < (a0.2.2.2.2.2.1.length : Int)) then
    chk (decide ((0 : Int) ≤ v3)) <|
    chk (decide (v3 < (a0.2.2.2.2.2.1.length : Int))) <|
    let v4 : Int := a0.2.2.2.2.2.1.getD (Int.toNat v3) (0 : Int)
    bif (v4 == a1) then
      bif decide (v3 ≥ (a0.2.2.2.2.2.2.length : Int)) then
        kret (0 : Int) false
      else
        chk (decide ((0 : Int) ≤ v3)) <|
        chk (decide (v3 < (a0.2.2.2.2.2.2.length : Int))) <|
        let v5 : Int := a0.2.2.2.2.2.2.getD (Int.toNat v3) (0 : Int)
        kret v5 true
    else
      let v6 : Int := IntKind.i64.wrap (v3 + 1)
      kc v6
  else
    k0
def f24L2 (n : Nat) (a1 : Int) (a0 : ByteArray × Int × Int × Int × Int × List Int × List Int) : Nat → Int → ((Int → Bool → Option (Int × Bool))) → (Option (Int × Bool)) → Option (Int × Bool)
  | 0, _, _, _ => none
  | m + 1, v3, kret, k0 => f24L2G n a1 a0 v3 (fun v3 => f24L2 n a1 a0 m v3 kret k0) kret k0
def f24L2B (n : Nat) (a1 : Int) (a0 : ByteArray × Int × Int × Int × Int × List Int × List Int) (x3 : Int) (v3 : Int) (kc : Option (Int × Bool)) (kret : Int → Bool → Option (Int × Bool)) (k0 : Option (Int × Bool)) : Option (Int × Bool) :=
  bif (x3 == a1) then
    bif decide (v3 ≥ (a0.2.2.2.2.2.2.length : Int)) then
      kret (0 : Int) false
    else
      chk (decide (v3 < (a0.2.2.2.2.2.2.length : Int))) <|
      let v5 : Int := a0.2.2.2.2.2.2.getD (Int.toNat v3) (0 : Int)
      kret v5 true
  else
    kc
def f24L2F (n : Nat) (a1 : Int) (a0 : ByteArray × Int × Int × Int × Int × List Int × List Int) (kret : Int → Bool → Option (Int × Bool)) (k0 : Option (Int × Bool)) : List (Int) → Nat → Option (Int × Bool)
  | [], j =>
    let v3 : Int := (j : Int)
    k0
  | x3 :: r, j => f24L2B n a1 a0 x3 (j : Int) (f24L2F n a1 a0 kret k0 r (j + 1)) kret k0
theorem f24L2_eq (n : Nat) (a1 : Int) (a0 : ByteArray × Int × Int × Int × Int × List Int × List Int) (kret : Int → Bool → Option (Int × Bool)) (k0 : Option (Int × Bool)) (hl : a0.2.2.2.2.2.1.length < 4611686018427387904) : ∀ (r : List (Int)) (m j : Nat), a0.2.2.2.2.2.1.drop j = r → r.length < m → f24L2 n a1 a0 m (j : Int) kret k0 = f24L2F n a1 a0 kret k0 r j := by
  intro r
  induction r with
  | nil =>
    intro m j h hm
    obtain ⟨m, rfl⟩ : ∃ q, m = q + 1 := ⟨m - 1, by omega⟩
    have h1 := drop_none h
    have c1 : decide ((j : Int) < (a0.2.2.2.2.2.1.length : Int)) = false := decide_eq_false (by omega)
    simp only [f24L2, f24L2G, f24L2F, c1, cond_false]
  | cons x r ih =>
    intro m j h hm
    obtain ⟨m, rfl⟩ : ∃ q, m = q + 1 := ⟨m - 1, by omega⟩
    obtain ⟨h1, h2, h3⟩ := drop_cons h
    have hm' : r.length < m := by simp only [List.length_cons] at hm; omega
    have c1 : decide ((j : Int) < (a0.2.2.2.2.2.1.length : Int)) = true := decide_eq_true (by omega)
    have c2 : decide ((0 : Int) ≤ (j : Int)) = true := decide_eq_true (by omega)
    have c3 : IntKind.i64.wrap ((j : Int) + 1) = ((j + 1 : Nat) : Int) := wrap_succ (by omega)
    have ih' := ih m (j + 1) h3 hm'
    simp only [f24L2, f24L2G, f24L2F, f24L2B, c1, c2, c3, cond_true, chk_true, Int.toNat_natCast, h2, ih']
theorem f24L2_at (n : Nat) (a1 : Int) (a0 : ByteArray × Int × Int × Int × Int × List Int × List Int) (kret : Int → Bool → Option (Int × Bool)) (k0 : Option (Int × Bool)) (hl : a0.2.2.2.2.2.1.length < 4611686018427387904) (hn : a0.2.2.2.2.2.1.length < n + 8) : f24L2 n a1 a0 (n + 8) 0 kret k0 = f24L2F n a1 a0 kret k0 a0.2.2.2.2.2.1 0 := f24L2_eq n a1 a0 kret k0 hl a0.2.2.2.2.2.1 (n + 8) 0 rfl hn
def f24G (n : Nat) (a0 : ByteArray × Int × Int × Int × Int × List Int × List Int) (a1 : Int) (lp2 : Int → (ByteArray × Int × Int × Int × Int × List Int × List Int) → Int → ((Int → Bool → Option (Int × Bool))) → (Option (Int × Bool)) → Option (Int × Bool)) : Option (Int × Bool) :=
  lp2 a1 a0 (0 : Int) (fun v9 v10 =>
      some (v9, v10)) (
      some (0, false))
def f24 (n : Nat) (a0 : ByteArray × Int × Int × Int × Int × List Int × List Int) (a1 : Int) : Option (Int × Bool) := f24G n a0 a1 (fun a1 a0 => f24L2 n a1 a0 (n + 8))
/-! f96: sawmill/defect.boxOf -/
def f96 (a0 : Int × Int × Int × Int × Int × Int) : Int × Int × Int × Int × Int × Int :=
  a0
def f96O (a0 : Int × Int × Int × Int × Int × Int) : Option (Int × Int × Int × Int × Int × Int) :=
  some a0
theorem f96_o (a0 : Int × Int × Int × Int × Int × Int) : f96O a0 = some (f96 a0) := by
  unfold f96O f96
  first | rfl | (simp only [cond_some]) | (simp only [cond_some]; rfl)
/-! f86: sawmill/defect.common -/
def f86 (a0 : Int × Int × Int × Int × Int × Int) (a1 : Int × Int × Int × Int × Int × Int) : (Int × Int × Int × Int × Int × Int) × Bool :=
  let v1 : Int × Int × Int × Int × Int × Int := f91 a0
  let v2 : Int × Int × Int × Int × Int × Int := f91 a1
  let v3 : Int × Int := f60 (v1.1, v1.2.1) (v2.1, v2.2.1)
  bif decide (v3.1 ≥ v3.2) then
    ((0, 0, 0, 0, 0, 0), false)
  else
    let v4 : Int × Int := f60 (v1.2.2.1, v1.2.2.2.1) (v2.2.2.1, v2.2.2.2.1)
    bif decide (v4.1 ≥ v4.2) then
      ((0, 0, 0, 0, 0, 0), false)
    else
      let v5 : Int × Int := f60 v1.2.2.2.2 v2.2.2.2.2
      bif decide (v5.1 ≥ v5.2) then
        ((0, 0, 0, 0, 0, 0), false)
      else
        let v6 : Int × Int × Int × Int × Int × Int := f96 (v3.1, v3.2, v4.1, v4.2, v5.1, v5.2)
        (v6, true)
def f86O (a0 : Int × Int × Int × Int × Int × Int) (a1 : Int × Int × Int × Int × Int × Int) : Option ((Int × Int × Int × Int × Int × Int) × Bool) :=
  let v1 : Int × Int × Int × Int × Int × Int := f91 a0
  let v2 : Int × Int × Int × Int × Int × Int := f91 a1
  let v3 : Int × Int := f60 (v1.1, v1.2.1) (v2.1, v2.2.1)
  bif decide (v3.1 ≥ v3.2) then
    some ((0, 0, 0, 0, 0, 0), false)
  else
    let v4 : Int × Int := f60 (v1.2.2.1, v1.2.2.2.1) (v2.2.2.1, v2.2.2.2.1)
    bif decide (v4.1 ≥ v4.2) then
      some ((0, 0, 0, 0, 0, 0), false)
    else
      let v5 : Int × Int := f60 v1.2.2.2.2 v2.2.2.2.2
      bif decide (v5.1 ≥ v5.2) then
        some ((0, 0, 0, 0, 0, 0), false)
      else
        let v6 : Int × Int × Int × Int × Int × Int := f96 (v3.1, v3.2, v4.1, v4.2, v5.1, v5.2)
        some (v6, true)
theorem f86_o (a0 : Int × Int × Int × Int × Int × Int) (a1 : Int × Int × Int × Int × Int × Int) : f86O a0 a1 = some (f86 a0 a1) := by
  unfold f86O f86
  first | rfl | (simp only [cond_some]) | (simp only [cond_some]; rfl)
/-! f70: sawmill/defect.Touches -/
def f70 (a0 : Int × Int × Int × Int × Int × Int × Int) (a1 : Int × Int × Int × Int × Int × Int) : Bool :=
  let v1 : (Int × Int × Int × Int × Int × Int) × Bool := f86 a0.2 a1
  v1.2
def f70O (a0 : Int × Int × Int × Int × Int × Int × Int) (a1 : Int × Int × Int × Int × Int × Int) : Option (Bool) :=
  let v1 : (Int × Int × Int × Int × Int × Int) × Bool := f86 a0.2 a1
  some v1.2
theorem f70_o (a0 : Int × Int × Int × Int × Int × Int × Int) (a1 : Int × Int × Int × Int × Int × Int) : f70O a0 a1 = some (f70 a0 a1) := by
  unfold f70O f70
  first | rfl | (simp only [cond_some]) | (simp only [cond_some]; rfl)
/-! f51: (sawmill/worth.looker).worth -/
def f51L7G (n : Nat) (a2 : Int) (a0 : List (Int × Int × Int × Int × Int × Int × Int) × ByteArray × Int × Int × Int × Int × List Int × List Int × Int × Int × Int × Int × Int × List Int × List Int) (a1 : Int × Int) (v9 : Int) (v10 : Int) (kc : Int → Int → Option (Int × Bool)) (kret : Option (Int × Bool)) (k0 : Int → Option (Int × Bool)) : Option (Int × Bool) :=
  bif decide (v10 < (a0.1.length : Int)) then
    chk (decide ((0 : Int) ≤ v10)) <|
    chk (decide (v10 < (a0.1.length : Int))) <|
    let v11 : Int × Int × Int × Int × Int × Int × Int := a0.1.getD (Int.toNat v10) ((0 : Int), (0 : Int), (0 : Int), (0 : Int), (0 : Int), (0 : Int), (0 : Int))
    let v12 : Bool := f70 v11 (a0.2.2.2.2.2.2.2.2.1, a0.2.2.2.2.2.2.2.2.2.1, a0.2.2.2.2.2.2.2.2.2.2.1, a0.2.2.2.2.2.2.2.2.2.2.2.1, a1.1, a1.2)
    bif (!v12) then
      let v13 : Int := IntKind.i64.wrap (v10 + 1)
      kc v9 v13
    else
      bif (v11.1 == 3) then
        kret
      else
        let v14 : Int := IntKind.i64.wrap (v9 - a2)
        let v15 : Int := IntKind.i64.wrap (v10 + 1)
        kc v14 v15
  else
    k0 v9
def f51L7 (n : Nat) (a2 : Int) (a0 : List (Int × Int × Int × Int × Int × Int × Int) × ByteArray × Int × Int × Int × Int × List Int × List Int × Int × Int × Int × Int × Int × List Int × List Int) (a1 : Int × Int) : Nat → Int → Int → (Option (Int × Bool)) → ((Int → Option (Int × Bool))) → Option (Int × Bool)
  | 0, _, _, _, _ => none
  | m + 1, v9, v10, kret, k0 => f51L7G n a2 a0 a1 v9 v10 (fun v9 v10 => f51L7 n a2 a0 a1 m v9 v10 kret k0) kret k0
def f51L7B (n : Nat) (a2 : Int) (a0 : List (Int × Int × Int × Int × Int × Int × Int) × ByteArray × Int × Int × Int × Int × List Int × List Int × Int × Int × Int × Int × Int × List Int × List Int) (a1 : Int × Int) (x10 : Int × Int × Int × Int × Int × Int × Int) (v10 : Int) (v9 : Int) (kc : Int → Option (Int × Bool)) (kret : Option (Int × Bool)) (k0 : Int → Option (Int × Bool)) : Option (Int × Bool) :=
  let v12 : Bool := f70 x10 (a0.2.2.2.2.2.2.2.2.1, a0.2.2.2.2.2.2.2.2.2.1, a0.2.2.2.2.2.2.2.2.2.2.1, a0.2.2.2.2.2.2.2.2.2.2.2.1, a1.1, a1.2)
  bif (!v12) then
    kc v9
  else
    bif (x10.1 == 3) then
      kret
    else
      let v14 : Int := IntKind.i64.wrap (v9 - a2)
      kc v14
def f51L7F (n : Nat) (a2 : Int) (a0 : List (Int × Int × Int × Int × Int × Int × Int) × ByteArray × Int × Int × Int × Int × List Int × List Int × Int × Int × Int × Int × Int × List Int × List Int) (a1 : Int × Int) (kret : Option (Int × Bool)) (k0 : Int → Option (Int × Bool)) : List (Int × Int × Int × Int × Int × Int × Int) → Nat → Int → Option (Int × Bool)
  | [], j, v9 =>
    let v10 : Int := (j : Int)
    k0 v9
  | x10 :: r, j, v9 => f51L7B n a2 a0 a1 x10 (j : Int) v9 (fun v9 => f51L7F n a2 a0 a1 kret k0 r (j + 1) v9) kret k0
theorem f51L7_eq (n : Nat) (a2 : Int) (a0 : List (Int × Int × Int × Int × Int × Int × Int) × ByteArray × Int × Int × Int × Int × List Int × List Int × Int × Int × Int × Int × Int × List Int × List Int) (a1 : Int × Int) (kret : Option (Int × Bool)) (k0 : Int → Option (Int × Bool)) (hl : a0.1.length < 4611686018427387904) : ∀ (r : List (Int × Int × Int × Int × Int × Int × Int)) (m j : Nat) (v9 : Int), a0.1.drop j = r → r.length < m → f51L7 n a2 a0 a1 m v9 (j : Int) kret k0 = f51L7F n a2 a0 a1 kret k0 r j v9 := by
  intro r
  induction r with
  | nil =>
    intro m j v9 h hm
    obtain ⟨m, rfl⟩ : ∃ q, m = q + 1 := ⟨m - 1, by omega⟩
    have h1 := drop_none h
    have c1 : decide ((j : Int) < (a0.1.length : Int)) = false := decide_eq_false (by omega)
    simp only [f51L7, f51L7G, f51L7F, c1, cond_false]
  | cons x r ih =>
    intro m j v9 h hm
    obtain ⟨m, rfl⟩ : ∃ q, m = q + 1 := ⟨m - 1, by omega⟩
    obtain ⟨h1, h2, h3⟩ := drop_cons h
    have hm' : r.length < m := by simp only [List.length_cons] at hm; omega
    have c1 : decide ((j : Int) < (a0.1.length : Int)) = true := decide_eq_true (by omega)
    have c2 : decide ((0 : Int) ≤ (j : Int)) = true := decide_eq_true (by omega)
    have c3 : IntKind.i64.wrap ((j : Int) + 1) = ((j + 1 : Nat) : Int) := wrap_succ (by omega)
    have ih' := fun v9 => ih m (j + 1) v9 h3 hm'
    simp only [f51L7, f51L7G, f51L7F, f51L7B, c1, c2, c3, cond_true, chk_true, Int.toNat_natCast, h2, ih']
theorem f51L7_at (n : Nat) (a2 : Int) (a0 : List (Int × Int × Int × Int × Int × Int × Int) × ByteArray × Int × Int × Int × Int × List Int × List Int × Int × Int × Int × Int × Int × List Int × List Int) (a1 : Int × Int) (kret : Option (Int × Bool)) (k0 : Int → Option (Int × Bool)) (hl : a0.1.length < 4611686018427387904) (hn : a0.1.length < n + 8) (v9 : Int) : f51L7 n a2 a0 a1 (n + 8) v9 0 kret k0 = f51L7F n a2 a0 a1 kret k0 a0.1 0 v9 := f51L7_eq n a2 a0 a1 kret k0 hl a0.1 (n + 8) 0 v9 rfl hn
def f51G (n : Nat) (a0 : List (Int × Int × Int × Int × Int × Int × Int) × ByteArray × Int × Int × Int × Int × List Int × List Int × Int × Int × Int × Int × Int × List Int × List Int) (a1 : Int × Int) (a2 : Int) (lp7 : Int → (List (Int × Int × Int × Int × Int × Int × Int) × ByteArray × Int × Int × Int × Int × List Int × List Int × Int × Int × Int × Int × Int × List Int × List Int) → (Int × Int) → Int → Int → (Option (Int × Bool)) → ((Int → Option (Int × Bool))) → Option (Int × Bool)) : Option (Int × Bool) :=
  bif decide (a1.1 < 0) then
    some (0, false)
  else
    bif decide (a1.1 ≥ a1.2) then
      some (0, false)
    else
      bif decide (a1.2 > a0.2.2.2.2.2.2.2.2.2.2.2.2.1) then
        some (0, false)
      else
        let v1 : Int := IntKind.i64.wrap (a1.2 - a1.1)
        let v2 : Option (Int × Bool) := f24 n (a0.2.1, a0.2.2.1, a0.2.2.2.1, a0.2.2.2.2.1, a0.2.2.2.2.2.1, a0.2.2.2.2.2.2.1, a0.2.2.2.2.2.2.2.1) v1
        chk (v2.isSome) <|
        let v3 : Int × Bool := v2.getD ((0 : Int), false)
        bif (!v3.2) then
          some (0, false)
        else
          let v4 : Option (Int) := f34 n a0.2.2.2.2.2.2.2.2.2.2.2.2.2.1 a0.2.2.2.2.2.2.2.2.2.2.2.2.2.2 a1
          chk (v4.isSome) <|
          let v5 : Int := v4.getD (0 : Int)
          bif decide (v5 > a0.2.2.2.2.2.1) then
            some (0, false)
          else
            lp7 a2 a0 a1 v3.1 (0 : Int) (
                some (0, false)) (fun v17 =>
                let v18 : Int := if v17 > 0 then v17 else 0
                some (v18, true))
def f51 (n : Nat) (a0 : List (Int × Int × Int × Int × Int × Int × Int) × ByteArray × Int × Int × Int × Int × List Int × List Int × Int × Int × Int × Int × Int × List Int × List Int) (a1 : Int × Int) (a2 : Int) : Option (Int × Bool) := f51G n a0 a1 a2 (fun a2 a0 a1 => f51L7 n a2 a0 a1 (n + 8))
/-! f37: sawmill/worth.Worth -/
def f37G (n : Nat) (a0 : List (Int × Int × List (Int × Int))) (a1 : List (Int × Int × Int × Int × Int × Int × Int)) (a2 : ByteArray × Int × Int × Int × Int × List Int × List Int) (a3 : Int × Int × Int × Int × Int × Int) (a4 : Int) : Option (Int × Bool) :=
  let v1 : Option ((List (Int × Int × Int × Int × Int × Int × Int) × ByteArray × Int × Int × Int × Int × List Int × List Int × Int × Int × Int × Int × Int × List Int × List Int) × Bool) := f50 n a0 a1 a2 (a3.1, a3.2.1, a3.2.2.1, a3.2.2.2.1)
  chk (v1.isSome) <|
  let v2 : (List (Int × Int × Int × Int × Int × Int × Int) × ByteArray × Int × Int × Int × Int × List Int × List Int × Int × Int × Int × Int × Int × List Int × List Int) × Bool := v1.getD (([], ByteArray.empty, (0 : Int), (0 : Int), (0 : Int), (0 : Int), [], [], (0 : Int), (0 : Int), (0 : Int), (0 : Int), (0 : Int), [], []), false)
  bif (!v2.2) then
    some (0, false)
  else
    let v3 : Bool := f29 a4 0 1000000
    bif (!v3) then
      some (0, false)
    else
      let v4 : Option (Int × Bool) := f51 n v2.1 a3.2.2.2.2 a4
      chk (v4.isSome) <|
      let v5 : Int × Bool := v4.getD ((0 : Int), false)
      some (v5.1, v5.2)
def f37 (n : Nat) (a0 : List (Int × Int × List (Int × Int))) (a1 : List (Int × Int × Int × Int × Int × Int × Int)) (a2 : ByteArray × Int × Int × Int × Int × List Int × List Int) (a3 : Int × Int × Int × Int × Int × Int) (a4 : Int) : Option (Int × Bool) := f37G n a0 a1 a2 a3 a4
/-! f17: sawmill/sawmilllaw20.of -/
def f17G (n : Nat) (a0 : List (Int × Int × List (Int × Int)) × List (Int × Int × Int × Int × Int × Int × Int) × ByteArray × Int × Int × Int × Int × List Int × List Int × Int) (a1 : Int × Int × Int × Int × Int × Int) : Option (Int × Bool) :=
  let v1 : Option (Int × Bool) := f37 n a0.1 a0.2.1 (a0.2.2.1, a0.2.2.2.1, a0.2.2.2.2.1, a0.2.2.2.2.2.1, a0.2.2.2.2.2.2.1, a0.2.2.2.2.2.2.2.1, a0.2.2.2.2.2.2.2.2.1) a1 a0.2.2.2.2.2.2.2.2.2
  chk (v1.isSome) <|
  let v2 : Int × Bool := v1.getD ((0 : Int), false)
  some (v2.1, v2.2)
def f17 (n : Nat) (a0 : List (Int × Int × List (Int × Int)) × List (Int × Int × Int × Int × Int × Int × Int) × ByteArray × Int × Int × Int × Int × List Int × List Int × Int) (a1 : Int × Int × Int × Int × Int × Int) : Option (Int × Bool) := f17G n a0 a1
/-! f30: sawmill/sawmillref20.from -/
def f30 (a0 : Int) (a1 : Int) (a2 : Int) : Bool :=
  bif decide (a0 ≥ a1) then
    decide (a0 ≤ a2)
  else
    false
def f30O (a0 : Int) (a1 : Int) (a2 : Int) : Option (Bool) :=
  bif decide (a0 ≥ a1) then
    some (decide (a0 ≤ a2))
  else
    some false
theorem f30_o (a0 : Int) (a1 : Int) (a2 : Int) : f30O a0 a1 a2 = some (f30 a0 a1 a2) := by
  unfold f30O f30
  first | rfl | (simp only [cond_some]) | (simp only [cond_some]; rfl)
/-! f71: sawmill/sawmillref13.Empty -/
def f71 (a0 : Int × Int × Int × Int × Int × Int) : Bool :=
  bif decide (a0.1 ≥ a0.2.1) then
    true
  else
    bif decide (a0.2.2.1 ≥ a0.2.2.2.1) then
      true
    else
      decide (a0.2.2.2.2.1 ≥ a0.2.2.2.2.2)
def f71O (a0 : Int × Int × Int × Int × Int × Int) : Option (Bool) :=
  bif decide (a0.1 ≥ a0.2.1) then
    some true
  else
    bif decide (a0.2.2.1 ≥ a0.2.2.2.1) then
      some true
    else
      some (decide (a0.2.2.2.2.1 ≥ a0.2.2.2.2.2))
theorem f71_o (a0 : Int × Int × Int × Int × Int × Int) : f71O a0 = some (f71 a0) := by
  unfold f71O f71
  first | rfl | (simp only [cond_some]) | (simp only [cond_some]; rfl)
/-! f89: sawmill/sawmillref13.in -/
def f89 (a0 : Int × Int) (a1 : Int) (a2 : Int) : Bool :=
  bif decide (a1 ≤ a0.1) then
    decide (a0.2 ≤ a2)
  else
    false
def f89O (a0 : Int × Int) (a1 : Int) (a2 : Int) : Option (Bool) :=
  bif decide (a1 ≤ a0.1) then
    some (decide (a0.2 ≤ a2))
  else
    some false
theorem f89_o (a0 : Int × Int) (a1 : Int) (a2 : Int) : f89O a0 a1 a2 = some (f89 a0 a1 a2) := by
  unfold f89O f89
  first | rfl | (simp only [cond_some]) | (simp only [cond_some]; rfl)
/-! f74: sawmill/sawmillref13.Ranged -/
def f74 (a0 : Int × Int × Int × Int × Int × Int) : Bool :=
  let v1 : Bool := f89 (a0.1, a0.2.1) (-600) 600
  bif v1 then
    let v2 : Bool := f89 (a0.2.2.1, a0.2.2.2.1) (-600) 600
    bif v2 then
      let v3 : Bool := f89 a0.2.2.2.2 0 20000
      v3
    else
      false
  else
    false
def f74O (a0 : Int × Int × Int × Int × Int × Int) : Option (Bool) :=
  let v1 : Bool := f89 (a0.1, a0.2.1) (-600) 600
  bif v1 then
    let v2 : Bool := f89 (a0.2.2.1, a0.2.2.2.1) (-600) 600
    bif v2 then
      let v3 : Bool := f89 a0.2.2.2.2 0 20000
      some v3
    else
      some false
  else
    some false
theorem f74_o (a0 : Int × Int × Int × Int × Int × Int) : f74O a0 = some (f74 a0) := by
  unfold f74O f74
  first | rfl | (simp only [cond_some]) | (simp only [cond_some]; rfl)
/-! f55: sawmill/sawmillref13.Check -/
def f55L4G (n : Nat) (a0 : List (Int × Int × Int × Int × Int × Int × Int)) (v7 : Int) (kc : Int → Option (Int)) (kret : Int → Option (Int)) (k0 : Option (Int)) : Option (Int) :=
  bif decide (v7 < (a0.length : Int)) then
    chk (decide ((0 : Int) ≤ v7)) <|
    chk (decide (v7 < (a0.length : Int))) <|
    let v8 : Int × Int × Int × Int × Int × Int × Int := a0.getD (Int.toNat v7) ((0 : Int), (0 : Int), (0 : Int), (0 : Int), (0 : Int), (0 : Int), (0 : Int))
    bif decide (v8.1 < 1) then
      kret (10 : Int)
    else
      chk (decide ((0 : Int) ≤ v7)) <|
      chk (decide (v7 < (a0.length : Int))) <|
      let v9 : Int × Int × Int × Int × Int × Int × Int := a0.getD (Int.toNat v7) ((0 : Int), (0 : Int), (0 : Int), (0 : Int), (0 : Int), (0 : Int), (0 : Int))
      bif decide (v9.1 > 6) then
        kret (10 : Int)
      else
        chk (decide ((0 : Int) ≤ v7)) <|
        chk (decide (v7 < (a0.length : Int))) <|
        let v10 : Int × Int × Int × Int × Int × Int × Int := a0.getD (Int.toNat v7) ((0 : Int), (0 : Int), (0 : Int), (0 : Int), (0 : Int), (0 : Int), (0 : Int))
        let v11 : Bool := f71 v10.2
        bif v11 then
          kret (19 : Int)
        else
          chk (decide ((0 : Int) ≤ v7)) <|
          chk (decide (v7 < (a0.length : Int))) <|
          let v12 : Int × Int × Int × Int × Int × Int × Int := a0.getD (Int.toNat v7) ((0 : Int), (0 : Int), (0 : Int), (0 : Int), (0 : Int), (0 : Int), (0 : Int))
          let v13 : Bool := f74 v12.2
          bif (!v13) then
            kret (9 : Int)
          else
            let v14 : Int := IntKind.i64.wrap (v7 + 1)
            kc v14
  else
    k0
def f55L4 (n : Nat) (a0 : List (Int × Int × Int × Int × Int × Int × Int)) : Nat → Int → ((Int → Option (Int))) → (Option (Int)) → Option (Int)
  | 0, _, _, _ => none
  | m + 1, v7, kret, k0 => f55L4G n a0 v7 (fun v7 => f55L4 n a0 m v7 kret k0) kret k0
def f55L4B (n : Nat) (a0 : List (Int × Int × Int × Int × Int × Int × Int)) (x7 : Int × Int × Int × Int × Int × Int × Int) (v7 : Int) (kc : Option (Int)) (kret : Int → Option (Int)) (k0 : Option (Int)) : Option (Int) :=
  bif decide (x7.1 < 1) then
    kret (10 : Int)
  else
    bif decide (x7.1 > 6) then
      kret (10 : Int)
    else
      let v11 : Bool := f71 x7.2
      bif v11 then
        kret (19 : Int)
      else
        let v13 : Bool := f74 x7.2
        bif (!v13) then
          kret (9 : Int)
        else
          kc
def f55L4F (n : Nat) (a0 : List (Int × Int × Int × Int × Int × Int × Int)) (kret : Int → Option (Int)) (k0 : Option (Int)) : List (Int × Int × Int × Int × Int × Int × Int) → Nat → Option (Int)
  | [], j =>
    let v7 : Int := (j : Int)
    k0
  | x7 :: r, j => f55L4B n a0 x7 (j : Int) (f55L4F n a0 kret k0 r (j + 1)) kret k0
theorem f55L4_eq (n : Nat) (a0 : List (Int × Int × Int × Int × Int × Int × Int)) (kret : Int → Option (Int)) (k0 : Option (Int)) (hl : a0.length < 4611686018427387904) : ∀ (r : List (Int × Int × Int × Int × Int × Int × Int)) (m j : Nat), a0.drop j = r → r.length < m → f55L4 n a0 m (j : Int) kret k0 = f55L4F n a0 kret k0 r j := by
  intro r
  induction r with
  | nil =>
    intro m j h hm
    obtain ⟨m, rfl⟩ : ∃ q, m = q + 1 := ⟨m - 1, by omega⟩
    have h1 := drop_none h
    have c1 : decide ((j : Int) < (a0.length : Int)) = false := decide_eq_false (by omega)
    simp only [f55L4, f55L4G, f55L4F, c1, cond_false]
  | cons x r ih =>
    intro m j h hm
    obtain ⟨m, rfl⟩ : ∃ q, m = q + 1 := ⟨m - 1, by omega⟩
    obtain ⟨h1, h2, h3⟩ := drop_cons h
    have hm' : r.length < m := by simp only [List.length_cons] at hm; omega
    have c1 : decide ((j : Int) < (a0.length : Int)) = true := decide_eq_true (by omega)
    have c2 : decide ((0 : Int) ≤ (j : Int)) = true := decide_eq_true (by omega)
    have c3 : IntKind.i64.wrap ((j : Int) + 1) = ((j + 1 : Nat) : Int) := wrap_succ (by omega)
    have ih' := ih m (j + 1) h3 hm'
    simp only [f55L4, f55L4G, f55L4F, f55L4B, c1, c2, c3, cond_true, chk_true, Int.toNat_natCast, h2, ih']
theorem f55L4_at (n : Nat) (a0 : List (Int × Int × Int × Int × Int × Int × Int)) (kret : Int → Option (Int)) (k0 : Option (Int)) (hl : a0.length < 4611686018427387904) (hn : a0.length < n + 8) : f55L4 n a0 (n + 8) 0 kret k0 = f55L4F n a0 kret k0 a0 0 := f55L4_eq n a0 kret k0 hl a0 (n + 8) 0 rfl hn
def f55G (n : Nat) (a0 : List (Int × Int × Int × Int × Int × Int × Int)) (lp4 : (List (Int × Int × Int × Int × Int × Int × Int)) → Int → ((Int → Option (Int))) → (Option (Int)) → Option (Int)) : Option (Int) :=
  bif decide ((a0.length : Int) > 64) then
    some 4
  else
    lp4 a0 (0 : Int) (fun v16 =>
        some v16) (
        some 0)
def f55 (n : Nat) (a0 : List (Int × Int × Int × Int × Int × Int × Int)) : Option (Int) := f55G n a0 (fun a0 => f55L4 n a0 (n + 8))
/-! f90: sawmill/sawmillref02.digit -/
def f90 (a0 : Int) : Bool :=
  bif decide (a0 ≥ 48) then
    decide (a0 ≤ 57)
  else
    false
def f90O (a0 : Int) : Option (Bool) :=
  bif decide (a0 ≥ 48) then
    some (decide (a0 ≤ 57))
  else
    some false
theorem f90_o (a0 : Int) : f90O a0 = some (f90 a0) := by
  unfold f90O f90
  first | rfl | (simp only [cond_some]) | (simp only [cond_some]; rfl)
/-! f75: sawmill/sawmillref02.IsName -/
def f75L4G (n : Nat) (a0 : ByteArray) (v3 : Int) (kc : Int → Option (Bool)) (kret : Option (Bool)) (k0 : Option (Bool)) : Option (Bool) :=
  bif decide (v3 < (a0.size : Int)) then
    chk (decide ((0 : Int) ≤ v3)) <|
    chk (decide (v3 < (a0.size : Int))) <|
    let v4 : Int := ((a0.data.getD (Int.toNat v3) 0).toNat : Int)
    bif decide (v4 ≥ 97) then
      chk (decide ((0 : Int) ≤ v3)) <|
      chk (decide (v3 < (a0.size : Int))) <|
      let v5 : Int := ((a0.data.getD (Int.toNat v3) 0).toNat : Int)
      bif (!(decide (v5 ≤ 122))) then
        bif (v3 == 0) then
          kret
        else
          chk (decide ((0 : Int) ≤ v3)) <|
          chk (decide (v3 < (a0.size : Int))) <|
          let v6 : Int := ((a0.data.getD (Int.toNat v3) 0).toNat : Int)
          bif (v6 != 95) then
            chk (decide ((0 : Int) ≤ v3)) <|
            chk (decide (v3 < (a0.size : Int))) <|
            let v7 : Int := ((a0.data.getD (Int.toNat v3) 0).toNat : Int)
            let v8 : Bool := f90 v7
            bif (!v8) then
              kret
            else
              let v9 : Int := IntKind.i64.wrap (v3 + 1)
              kc v9
          else
            let v10 : Int := IntKind.i64.wrap (v3 + 1)
            kc v10
      else
        let v11 : Int := IntKind.i64.wrap (v3 + 1)
        kc v11
    else
      bif (v3 == 0) then
        kret
      else
        chk (decide ((0 : Int) ≤ v3)) <|
        chk (decide (v3 < (a0.size : Int))) <|
        let v12 : Int := ((a0.data.getD (Int.toNat v3) 0).toNat : Int)
        bif (v12 != 95) then
          chk (decide ((0 : Int) ≤ v3)) <|
          chk (decide (v3 < (a0.size : Int))) <|
          let v13 : Int := ((a0.data.getD (Int.toNat v3) 0).toNat : Int)
          let v14 : Bool := f90 v13
          bif (!v14) then
            kret
          else
            let v15 : Int := IntKind.i64.wrap (v3 + 1)
            kc v15
        else
          let v16 : Int := IntKind.i64.wrap (v3 + 1)
          kc v16
  else
    k0
def f75L4 (n : Nat) (a0 : ByteArray) : Nat → Int → (Option (Bool)) → (Option (Bool)) → Option (Bool)
  | 0, _, _, _ => none
  | m + 1, v3, kret, k0 => f75L4G n a0 v3 (fun v3 => f75L4 n a0 m v3 kret k0) kret k0
def f75G (n : Nat) (a0 : ByteArray) (lp4 : ByteArray → Int → (Option (Bool)) → (Option (Bool)) → Option (Bool)) : Option (Bool) :=
  bif decide ((a0.size : Int) < 1) then
    some false
  else
    bif decide ((a0.size : Int) > 16) then
      some false
    else
      lp4 a0 (0 : Int) (
          some false) (
          some true)
def f75 (n : Nat) (a0 : ByteArray) : Option (Bool) := f75G n a0 (fun a0 => f75L4 n a0 (n + 8))
/-! f77: sawmill/sawmillref19.sized -/
def f77 (a0 : ByteArray × Int × Int × Int × Int × List Int × List Int) : Bool :=
  bif decide (a0.2.1 ≥ 1) then
    bif decide (a0.2.1 ≤ 600) then
      bif decide (a0.2.2.1 ≥ 1) then
        decide (a0.2.2.1 ≤ 600)
      else
        false
    else
      false
  else
    false
def f77O (a0 : ByteArray × Int × Int × Int × Int × List Int × List Int) : Option (Bool) :=
  bif decide (a0.2.1 ≥ 1) then
    bif decide (a0.2.1 ≤ 600) then
      bif decide (a0.2.2.1 ≥ 1) then
        some (decide (a0.2.2.1 ≤ 600))
      else
        some false
    else
      some false
  else
    some false
theorem f77_o (a0 : ByteArray × Int × Int × Int × Int × List Int × List Int) : f77O a0 = some (f77 a0) := by
  unfold f77O f77
  first | rfl | (simp only [cond_some]) | (simp only [cond_some]; rfl)
/-! f57: sawmill/sawmillref19.Green -/
def f57 (a0 : ByteArray × Int × Int × Int × Int × List Int × List Int) : Int × Int :=
  let v1 : Bool := f77 a0
  bif (!v1) then
    (0, 0)
  else
    bif decide (a0.2.2.2.1 < 0) then
      (0, 0)
    else
      bif decide (a0.2.2.2.1 > 200) then
        (0, 0)
      else
        let v2 : Int := IntKind.i64.wrap ((1000 : Int) + a0.2.2.2.1)
        let v3 : Int := IntKind.i64.wrap (a0.2.1 * v2)
        let v4 : Int := IntKind.i64.wrap (v3 + 999)
        let v5 : Int := IntKind.i64.wrap (v4.tdiv 1000)
        let v6 : Int := IntKind.i64.wrap ((1000 : Int) + a0.2.2.2.1)
        let v7 : Int := IntKind.i64.wrap (a0.2.2.1 * v6)
        let v8 : Int := IntKind.i64.wrap (v7 + 999)
        let v9 : Int := IntKind.i64.wrap (v8.tdiv 1000)
        (v5, v9)
def f57O (a0 : ByteArray × Int × Int × Int × Int × List Int × List Int) : Option (Int × Int) :=
  let v1 : Bool := f77 a0
  bif (!v1) then
    some (0, 0)
  else
    bif decide (a0.2.2.2.1 < 0) then
      some (0, 0)
    else
      bif decide (a0.2.2.2.1 > 200) then
        some (0, 0)
      else
        let v2 : Int := IntKind.i64.wrap ((1000 : Int) + a0.2.2.2.1)
        let v3 : Int := IntKind.i64.wrap (a0.2.1 * v2)
        let v4 : Int := IntKind.i64.wrap (v3 + 999)
        let v5 : Int := IntKind.i64.wrap (v4.tdiv 1000)
        let v6 : Int := IntKind.i64.wrap ((1000 : Int) + a0.2.2.2.1)
        let v7 : Int := IntKind.i64.wrap (a0.2.2.1 * v6)
        let v8 : Int := IntKind.i64.wrap (v7 + 999)
        let v9 : Int := IntKind.i64.wrap (v8.tdiv 1000)
        some (v5, v9)
theorem f57_o (a0 : ByteArray × Int × Int × Int × Int × List Int × List Int) : f57O a0 = some (f57 a0) := by
  unfold f57O f57
  first | rfl | (simp only [cond_some]) | (simp only [cond_some]; rfl)
/-! f76: sawmill/sawmillref19.checkLengths -/
def f76L8G (n : Nat) (a0 : ByteArray × Int × Int × Int × Int × List Int × List Int) (v4 : Int) (kc : Int → Option (Int)) (kret : Int → Option (Int)) (k0 : Option (Int)) : Option (Int) :=
  bif decide (v4 < (a0.2.2.2.2.2.1.length : Int)) then
    chk (decide ((0 : Int) ≤ v4)) <|
    chk (decide (v4 < (a0.2.2.2.2.2.1.length : Int))) <|
    let v5 : Int := a0.2.2.2.2.2.1.getD (Int.toNat v4) (0 : Int)
    bif decide (v5 < 100) then
      kret (9 : Int)
    else
      chk (decide ((0 : Int) ≤ v4)) <|
      chk (decide (v4 < (a0.2.2.2.2.2.1.length : Int))) <|
      let v6 : Int := a0.2.2.2.2.2.1.getD (Int.toNat v4) (0 : Int)
      bif decide (v6 > 20000) then
        kret (9 : Int)
      else
        bif decide (v4 > 0) then
          chk (decide ((0 : Int) ≤ v4)) <|
          chk (decide (v4 < (a0.2.2.2.2.2.1.length : Int))) <|
          let v7 : Int := a0.2.2.2.2.2.1.getD (Int.toNat v4) (0 : Int)
          let v8 : Int := IntKind.i64.wrap (v4 - 1)
          chk (decide ((0 : Int) ≤ v8)) <|
          chk (decide (v8 < (a0.2.2.2.2.2.1.length : Int))) <|
          let v9 : Int := a0.2.2.2.2.2.1.getD (Int.toNat v8) (0 : Int)
          bif decide (v7 ≤ v9) then
            kret (11 : Int)
          else
            let v10 : Int := IntKind.i64.wrap (v4 + 1)
            kc v10
        else
          let v11 : Int := IntKind.i64.wrap (v4 + 1)
          kc v11
  else
    k0
def f76L8 (n : Nat) (a0 : ByteArray × Int × Int × Int × Int × List Int × List Int) : Nat → Int → ((Int → Option (Int))) → (Option (Int)) → Option (Int)
  | 0, _, _, _ => none
  | m + 1, v4, kret, k0 => f76L8G n a0 v4 (fun v4 => f76L8 n a0 m v4 kret k0) kret k0
def f76L8B (n : Nat) (a0 : ByteArray × Int × Int × Int × Int × List Int × List Int) (x4 : Int) (v4 : Int) (kc : Option (Int)) (kret : Int → Option (Int)) (k0 : Option (Int)) : Option (Int) :=
  bif decide (x4 < 100) then
    kret (9 : Int)
  else
    bif decide (x4 > 20000) then
      kret (9 : Int)
    else
      bif decide (v4 > 0) then
        let v8 : Int := IntKind.i64.wrap (v4 - 1)
        chk (decide ((0 : Int) ≤ v8)) <|
        chk (decide (v8 < (a0.2.2.2.2.2.1.length : Int))) <|
        let v9 : Int := a0.2.2.2.2.2.1.getD (Int.toNat v8) (0 : Int)
        bif decide (x4 ≤ v9) then
          kret (11 : Int)
        else
          kc
      else
        kc
def f76L8F (n : Nat) (a0 : ByteArray × Int × Int × Int × Int × List Int × List Int) (kret : Int → Option (Int)) (k0 : Option (Int)) : List (Int) → Nat → Option (Int)
  | [], j =>
    let v4 : Int := (j : Int)
    k0
  | x4 :: r, j => f76L8B n a0 x4 (j : Int) (f76L8F n a0 kret k0 r (j + 1)) kret k0
theorem f76L8_eq (n : Nat) (a0 : ByteArray × Int × Int × Int × Int × List Int × List Int) (kret : Int → Option (Int)) (k0 : Option (Int)) (hl : a0.2.2.2.2.2.1.length < 4611686018427387904) : ∀ (r : List (Int)) (m j : Nat), a0.2.2.2.2.2.1.drop j = r → r.length < m → f76L8 n a0 m (j : Int) kret k0 = f76L8F n a0 kret k0 r j := by
  intro r
  induction r with
  | nil =>
    intro m j h hm
    obtain ⟨m, rfl⟩ : ∃ q, m = q + 1 := ⟨m - 1, by omega⟩
    have h1 := drop_none h
    have c1 : decide ((j : Int) < (a0.2.2.2.2.2.1.length : Int)) = false := decide_eq_false (by omega)
    simp only [f76L8, f76L8G, f76L8F, c1, cond_false]
  | cons x r ih =>
    intro m j h hm
    obtain ⟨m, rfl⟩ : ∃ q, m = q + 1 := ⟨m - 1, by omega⟩
    obtain ⟨h1, h2, h3⟩ := drop_cons h
    have hm' : r.length < m := by simp only [List.length_cons] at hm; omega
    have c1 : decide ((j : Int) < (a0.2.2.2.2.2.1.length : Int)) = true := decide_eq_true (by omega)
    have c2 : decide ((0 : Int) ≤ (j : Int)) = true := decide_eq_true (by omega)
    have c3 : IntKind.i64.wrap ((j : Int) + 1) = ((j + 1 : Nat) : Int) := wrap_succ (by omega)
    have ih' := ih m (j + 1) h3 hm'
    simp only [f76L8, f76L8G, f76L8F, f76L8B, c1, c2, c3, cond_true, chk_true, Int.toNat_natCast, h2, ih']
theorem f76L8_at (n : Nat) (a0 : ByteArray × Int × Int × Int × Int × List Int × List Int) (kret : Int → Option (Int)) (k0 : Option (Int)) (hl : a0.2.2.2.2.2.1.length < 4611686018427387904) (hn : a0.2.2.2.2.2.1.length < n + 8) : f76L8 n a0 (n + 8) 0 kret k0 = f76L8F n a0 kret k0 a0.2.2.2.2.2.1 0 := f76L8_eq n a0 kret k0 hl a0.2.2.2.2.2.1 (n + 8) 0 rfl hn
def f76L15G (n : Nat) (a0 : ByteArray × Int × Int × Int × Int × List Int × List Int) (v16 : Int) (kc : Int → Option (Int)) (kret : Option (Int)) (k2 : Option (Int)) : Option (Int) :=
  bif decide (v16 < (a0.2.2.2.2.2.2.length : Int)) then
    chk (decide ((0 : Int) ≤ v16)) <|
    chk (decide (v16 < (a0.2.2.2.2.2.2.length : Int))) <|
    let v17 : Int := a0.2.2.2.2.2.2.getD (Int.toNat v16) (0 : Int)
    bif decide (v17 < 0) then
      kret
    else
      chk (decide ((0 : Int) ≤ v16)) <|
      chk (decide (v16 < (a0.2.2.2.2.2.2.length : Int))) <|
      let v18 : Int := a0.2.2.2.2.2.2.getD (Int.toNat v16) (0 : Int)
      bif decide (v18 > 1000000) then
        kret
      else
        let v19 : Int := IntKind.i64.wrap (v16 + 1)
        kc v19
  else
    k2
def f76L15 (n : Nat) (a0 : ByteArray × Int × Int × Int × Int × List Int × List Int) : Nat → Int → (Option (Int)) → (Option (Int)) → Option (Int)
  | 0, _, _, _ => none
  | m + 1, v16, kret, k2 => f76L15G n a0 v16 (fun v16 => f76L15 n a0 m v16 kret k2) kret k2
def f76L15B (n : Nat) (a0 : ByteArray × Int × Int × Int × Int × List Int × List Int) (x16 : Int) (v16 : Int) (kc : Option (Int)) (kret : Option (Int)) (k2 : Option (Int)) : Option (Int) :=
  bif decide (x16 < 0) then
    kret
  else
    bif decide (x16 > 1000000) then
      kret
    else
      kc
def f76L15F (n : Nat) (a0 : ByteArray × Int × Int × Int × Int × List Int × List Int) (kret : Option (Int)) (k2 : Option (Int)) : List (Int) → Nat → Option (Int)
  | [], j =>
    let v16 : Int := (j : Int)
    k2
  | x16 :: r, j => f76L15B n a0 x16 (j : Int) (f76L15F n a0 kret k2 r (j + 1)) kret k2
theorem f76L15_eq (n : Nat) (a0 : ByteArray × Int × Int × Int × Int × List Int × List Int) (kret : Option (Int)) (k2 : Option (Int)) (hl : a0.2.2.2.2.2.2.length < 4611686018427387904) : ∀ (r : List (Int)) (m j : Nat), a0.2.2.2.2.2.2.drop j = r → r.length < m → f76L15 n a0 m (j : Int) kret k2 = f76L15F n a0 kret k2 r j := by
  intro r
  induction r with
  | nil =>
    intro m j h hm
    obtain ⟨m, rfl⟩ : ∃ q, m = q + 1 := ⟨m - 1, by omega⟩
    have h1 := drop_none h
    have c1 : decide ((j : Int) < (a0.2.2.2.2.2.2.length : Int)) = false := decide_eq_false (by omega)
    simp only [f76L15, f76L15G, f76L15F, c1, cond_false]
  | cons x r ih =>
    intro m j h hm
    obtain ⟨m, rfl⟩ : ∃ q, m = q + 1 := ⟨m - 1, by omega⟩
    obtain ⟨h1, h2, h3⟩ := drop_cons h
    have hm' : r.length < m := by simp only [List.length_cons] at hm; omega
    have c1 : decide ((j : Int) < (a0.2.2.2.2.2.2.length : Int)) = true := decide_eq_true (by omega)
    have c2 : decide ((0 : Int) ≤ (j : Int)) = true := decide_eq_true (by omega)
    have c3 : IntKind.i64.wrap ((j : Int) + 1) = ((j + 1 : Nat) : Int) := wrap_succ (by omega)
    have ih' := ih m (j + 1) h3 hm'
    simp only [f76L15, f76L15G, f76L15F, f76L15B, c1, c2, c3, cond_true, chk_true, Int.toNat_natCast, h2, ih']
theorem f76L15_at (n : Nat) (a0 : ByteArray × Int × Int × Int × Int × List Int × List Int) (kret : Option (Int)) (k2 : Option (Int)) (hl : a0.2.2.2.2.2.2.length < 4611686018427387904) (hn : a0.2.2.2.2.2.2.length < n + 8) : f76L15 n a0 (n + 8) 0 kret k2 = f76L15F n a0 kret k2 a0.2.2.2.2.2.2 0 := f76L15_eq n a0 kret k2 hl a0.2.2.2.2.2.2 (n + 8) 0 rfl hn
def f76G (n : Nat) (a0 : ByteArray × Int × Int × Int × Int × List Int × List Int) (lp8 : (ByteArray × Int × Int × Int × Int × List Int × List Int) → Int → ((Int → Option (Int))) → (Option (Int)) → Option (Int)) (lp15 : (ByteArray × Int × Int × Int × Int × List Int × List Int) → Int → (Option (Int)) → (Option (Int)) → Option (Int)) : Option (Int) :=
  bif ((a0.2.2.2.2.2.1.length : Int) == 0) then
    some 3
  else
    bif decide ((a0.2.2.2.2.2.1.length : Int) > 8) then
      some 4
    else
      let v1 : Bool := ((a0.2.2.2.2.2.2.length : Int) != (a0.2.2.2.2.2.1.length : Int))
      bif v1 then
        some 19
      else
        lp8 a0 (0 : Int) (fun v13 =>
            some v13) (
            lp15 a0 (0 : Int) (
                some 9) (
                some 0))
def f76 (n : Nat) (a0 : ByteArray × Int × Int × Int × Int × List Int × List Int) : Option (Int) := f76G n a0 (fun a0 => f76L8 n a0 (n + 8)) (fun a0 => f76L15 n a0 (n + 8))
/-! f56: sawmill/sawmillref19.Check -/
def f56L10G (n : Nat) (a0 : List (ByteArray × Int × Int × Int × Int × List Int × List Int)) (v7 : Int) (v8 : ByteArray × Int × Int × Int × Int × List Int × List Int) (v12 : Int) (kc : Int → Option (Int)) (kret : Option (Int)) (k2 : Option (Int)) : Option (Int) :=
  bif decide (v12 < v7) then
    chk (decide ((0 : Int) ≤ v12)) <|
    chk (decide (v12 < (a0.length : Int))) <|
    let v13 : ByteArray × Int × Int × Int × Int × List Int × List Int := a0.getD (Int.toNat v12) (ByteArray.empty, (0 : Int), (0 : Int), (0 : Int), (0 : Int), [], [])
    bif (v13.1.toList == v8.1.toList) then
      kret
    else
      let v14 : Int := IntKind.i64.wrap (v12 + 1)
      kc v14
  else
    k2
def f56L10 (n : Nat) (a0 : List (ByteArray × Int × Int × Int × Int × List Int × List Int)) (v7 : Int) (v8 : ByteArray × Int × Int × Int × Int × List Int × List Int) : Nat → Int → (Option (Int)) → (Option (Int)) → Option (Int)
  | 0, _, _, _ => none
  | m + 1, v12, kret, k2 => f56L10G n a0 v7 v8 v12 (fun v12 => f56L10 n a0 v7 v8 m v12 kret k2) kret k2
def f56L4G (n : Nat) (a0 : List (ByteArray × Int × Int × Int × Int × List Int × List Int)) (lp10 : (List (ByteArray × Int × Int × Int × Int × List Int × List Int)) → Int → (ByteArray × Int × Int × Int × Int × List Int × List Int) → Int → (Option (Int)) → (Option (Int)) → Option (Int)) (v7 : Int) (kc : Int → Option (Int)) (kret : Int → Option (Int)) (k0 : Option (Int)) : Option (Int) :=
  bif decide (v7 < (a0.length : Int)) then
    chk (decide ((0 : Int) ≤ v7)) <|
    chk (decide (v7 < (a0.length : Int))) <|
    let v8 : ByteArray × Int × Int × Int × Int × List Int × List Int := a0.getD (Int.toNat v7) (ByteArray.empty, (0 : Int), (0 : Int), (0 : Int), (0 : Int), [], [])
    let v9 : Option (Bool) := f75 n v8.1
    chk (v9.isSome) <|
    let v10 : Bool := v9.getD false
    bif (!v10) then
      kret (6 : Int)
    else
      lp10 a0 v7 v8 (0 : Int) (
          kret (7 : Int)) (
          bif decide (v8.2.1 < 5) then
            kret (9 : Int)
          else
            bif decide (v8.2.1 > 300) then
              kret (9 : Int)
            else
              bif decide (v8.2.2.1 < v8.2.1) then
                kret (9 : Int)
              else
                bif decide (v8.2.2.1 > 600) then
                  kret (9 : Int)
                else
                  bif decide (v8.2.2.2.1 < 0) then
                    kret (9 : Int)
                  else
                    bif decide (v8.2.2.2.1 > 200) then
                      kret (9 : Int)
                    else
                      bif decide (v8.2.2.2.2.1 < 0) then
                        kret (9 : Int)
                      else
                        bif decide (v8.2.2.2.2.1 > 1000) then
                          kret (9 : Int)
                        else
                          let v15 : Int × Int := f57 v8
                          bif decide (v15.2 > 600) then
                            kret (9 : Int)
                          else
                            let v16 : Option (Int) := f76 n v8
                            chk (v16.isSome) <|
                            let v17 : Int := v16.getD (0 : Int)
                            bif (v17 != 0) then
                              kret v17
                            else
                              let v18 : Int := IntKind.i64.wrap (v7 + 1)
                              kc v18)
  else
    k0
def f56L4 (n : Nat) (a0 : List (ByteArray × Int × Int × Int × Int × List Int × List Int)) : Nat → Int → ((Int → Option (Int))) → (Option (Int)) → Option (Int)
  | 0, _, _, _ => none
  | m + 1, v7, kret, k0 => f56L4G n a0 (fun a0 v7 v8 => f56L10 n a0 v7 v8 (n + 8)) v7 (fun v7 => f56L4 n a0 m v7 kret k0) kret k0
def f56L4B (n : Nat) (a0 : List (ByteArray × Int × Int × Int × Int × List Int × List Int)) (x7 : ByteArray × Int × Int × Int × Int × List Int × List Int) (v7 : Int) (kc : Option (Int)) (kret : Int → Option (Int)) (k0 : Option (Int)) : Option (Int) :=
  let v9 : Option (Bool) := f75 n x7.1
  chk (v9.isSome) <|
  let v10 : Bool := v9.getD false
  bif (!v10) then
    kret (6 : Int)
  else
    f56L10 n a0 v7 x7 (n + 8) (0 : Int) (
        kret (7 : Int)) (
        bif decide (x7.2.1 < 5) then
          kret (9 : Int)
        else
          bif decide (x7.2.1 > 300) then
            kret (9 : Int)
          else
            bif decide (x7.2.2.1 < x7.2.1) then
              kret (9 : Int)
            else
              bif decide (x7.2.2.1 > 600) then
                kret (9 : Int)
              else
                bif decide (x7.2.2.2.1 < 0) then
                  kret (9 : Int)
                else
                  bif decide (x7.2.2.2.1 > 200) then
                    kret (9 : Int)
                  else
                    bif decide (x7.2.2.2.2.1 < 0) then
                      kret (9 : Int)
                    else
                      bif decide (x7.2.2.2.2.1 > 1000) then
                        kret (9 : Int)
                      else
                        let v15 : Int × Int := f57 x7
                        bif decide (v15.2 > 600) then
                          kret (9 : Int)
                        else
                          let v16 : Option (Int) := f76 n x7
                          chk (v16.isSome) <|
                          let v17 : Int := v16.getD (0 : Int)
                          bif (v17 != 0) then
                            kret v17
                          else
                            kc)
def f56L4F (n : Nat) (a0 : List (ByteArray × Int × Int × Int × Int × List Int × List Int)) (kret : Int → Option (Int)) (k0 : Option (Int)) : List (ByteArray × Int × Int × Int × Int × List Int × List Int) → Nat → Option (Int)
  | [], j =>
    let v7 : Int := (j : Int)
    k0
  | x7 :: r, j => f56L4B n a0 x7 (j : Int) (f56L4F n a0 kret k0 r (j + 1)) kret k0
theorem f56L4_eq (n : Nat) (a0 : List (ByteArray × Int × Int × Int × Int × List Int × List Int)) (kret : Int → Option (Int)) (k0 : Option (Int)) (hl : a0.length < 4611686018427387904) : ∀ (r : List (ByteArray × Int × Int × Int × Int × List Int × List Int)) (m j : Nat), a0.drop j = r → r.length < m → f56L4 n a0 m (j : Int) kret k0 = f56L4F n a0 kret k0 r j := by
  intro r
  induction r with
  | nil =>
    intro m j h hm
    obtain ⟨m, rfl⟩ : ∃ q, m = q + 1 := ⟨m - 1, by omega⟩
    have h1 := drop_none h
    have c1 : decide ((j : Int) < (a0.length : Int)) = false := decide_eq_false (by omega)
    simp only [f56L4, f56L4G, f56L4F, c1, cond_false]
  | cons x r ih =>
    intro m j h hm
    obtain ⟨m, rfl⟩ : ∃ q, m = q + 1 := ⟨m - 1, by omega⟩
    obtain ⟨h1, h2, h3⟩ := drop_cons h
    have hm' : r.length < m := by simp only [List.length_cons] at hm; omega
    have c1 : decide ((j : Int) < (a0.length : Int)) = true := decide_eq_true (by omega)
    have c2 : decide ((0 : Int) ≤ (j : Int)) = true := decide_eq_true (by omega)
    have c3 : IntKind.i64.wrap ((j : Int) + 1) = ((j + 1 : Nat) : Int) := wrap_succ (by omega)
    have ih' := ih m (j + 1) h3 hm'
    simp only [f56L4, f56L4G, f56L4F, f56L4B, c1, c2, c3, cond_true, chk_true, Int.toNat_natCast, h2, ih']
theorem f56L4_at (n : Nat) (a0 : List (ByteArray × Int × Int × Int × Int × List Int × List Int)) (kret : Int → Option (Int)) (k0 : Option (Int)) (hl : a0.length < 4611686018427387904) (hn : a0.length < n + 8) : f56L4 n a0 (n + 8) 0 kret k0 = f56L4F n a0 kret k0 a0 0 := f56L4_eq n a0 kret k0 hl a0 (n + 8) 0 rfl hn
def f56G (n : Nat) (a0 : List (ByteArray × Int × Int × Int × Int × List Int × List Int)) (lp4 : (List (ByteArray × Int × Int × Int × Int × List Int × List Int)) → Int → ((Int → Option (Int))) → (Option (Int)) → Option (Int)) : Option (Int) :=
  bif decide ((a0.length : Int) > 16) then
    some 4
  else
    lp4 a0 (0 : Int) (fun v20 =>
        some v20) (
        some 0)
def f56 (n : Nat) (a0 : List (ByteArray × Int × Int × Int × Int × List Int × List Int)) : Option (Int) := f56G n a0 (fun a0 => f56L4 n a0 (n + 8))
/-! f39: sawmill/sawmillref20.valid -/
def f39G (n : Nat) (a0 : List (Int × Int × List (Int × Int))) (a1 : List (Int × Int × Int × Int × Int × Int × Int)) (a2 : ByteArray × Int × Int × Int × Int × List Int × List Int) : Option (Bool) :=
  let v1 : Option (Int) := f54 n a0
  chk (v1.isSome) <|
  let v2 : Int := v1.getD (0 : Int)
  bif (v2 == 0) then
    let v3 : Option (Int) := f55 n a1
    chk (v3.isSome) <|
    let v4 : Int := v3.getD (0 : Int)
    bif (v4 == 0) then
      let v5 : Option (Int) := f56 n [a2]
      chk (v5.isSome) <|
      let v6 : Int := v5.getD (0 : Int)
      some (v6 == 0)
    else
      some false
  else
    some false
def f39 (n : Nat) (a0 : List (Int × Int × List (Int × Int))) (a1 : List (Int × Int × Int × Int × Int × Int × Int)) (a2 : ByteArray × Int × Int × Int × Int × List Int × List Int) : Option (Bool) := f39G n a0 a1 a2
/-! f52: sawmill/sawmillref19.Price -/
def f52L2G (n : Nat) (a1 : Int) (a0 : ByteArray × Int × Int × Int × Int × List Int × List Int) (v3 : Int) (kc : Int → Option (Int × Bool)) (kret : Int → Bool → Option (Int × Bool)) (k0 : Option (Int × Bool)) : Option (Int × Bool) :=
  bif decide (v3 < (a0.2.2.2.2.2.1.length : Int)) then
    chk (decide ((0 : Int) ≤ v3)) <|
    chk (decide (v3 < (a0.2.2.2.2.2.1.length : Int))) <|
    let v4 : Int := a0.2.2.2.2.2.1.getD (Int.toNat v3) (0 : Int)
    bif (v4 == a1) then
      bif decide (v3 ≥ (a0.2.2.2.2.2.2.length : Int)) then
        kret (0 : Int) false
      else
        chk (decide ((0 : Int) ≤ v3)) <|
        chk (decide (v3 < (a0.2.2.2.2.2.2.length : Int))) <|
        let v5 : Int := a0.2.2.2.2.2.2.getD (Int.toNat v3) (0 : Int)
        kret v5 true
    else
      let v6 : Int := IntKind.i64.wrap (v3 + 1)
      kc v6
  else
    k0
def f52L2 (n : Nat) (a1 : Int) (a0 : ByteArray × Int × Int × Int × Int × List Int × List Int) : Nat → Int → ((Int → Bool → Option (Int × Bool))) → (Option (Int × Bool)) → Option (Int × Bool)
  | 0, _, _, _ => none
  | m + 1, v3, kret, k0 => f52L2G n a1 a0 v3 (fun v3 => f52L2 n a1 a0 m v3 kret k0) kret k0
def f52L2B (n : Nat) (a1 : Int) (a0 : ByteArray × Int × Int × Int × Int × List Int × List Int) (x3 : Int) (v3 : Int) (kc : Option (Int × Bool)) (kret : Int → Bool → Option (Int × Bool)) (k0 : Option (Int × Bool)) : Option (Int × Bool) :=
  bif (x3 == a1) then
    bif decide (v3 ≥ (a0.2.2.2.2.2.2.length : Int)) then
      kret (0 : Int) false
    else
      chk (decide (v3 < (a0.2.2.2.2.2.2.length : Int))) <|
      let v5 : Int := a0.2.2.2.2.2.2.getD (Int.toNat v3) (0 : Int)
      kret v5 true
  else
    kc
def f52L2F (n : Nat) (a1 : Int) (a0 : ByteArray × Int × Int × Int × Int × List Int × List Int) (kret : Int → Bool → Option (Int × Bool)) (k0 : Option (Int × Bool)) : List (Int) → Nat → Option (Int × Bool)
  | [], j =>
    let v3 : Int := (j : Int)
    k0
  | x3 :: r, j => f52L2B n a1 a0 x3 (j : Int) (f52L2F n a1 a0 kret k0 r (j + 1)) kret k0
theorem f52L2_eq (n : Nat) (a1 : Int) (a0 : ByteArray × Int × Int × Int × Int × List Int × List Int) (kret : Int → Bool → Option (Int × Bool)) (k0 : Option (Int × Bool)) (hl : a0.2.2.2.2.2.1.length < 4611686018427387904) : ∀ (r : List (Int)) (m j : Nat), a0.2.2.2.2.2.1.drop j = r → r.length < m → f52L2 n a1 a0 m (j : Int) kret k0 = f52L2F n a1 a0 kret k0 r j := by
  intro r
  induction r with
  | nil =>
    intro m j h hm
    obtain ⟨m, rfl⟩ : ∃ q, m = q + 1 := ⟨m - 1, by omega⟩
    have h1 := drop_none h
    have c1 : decide ((j : Int) < (a0.2.2.2.2.2.1.length : Int)) = false := decide_eq_false (by omega)
    simp only [f52L2, f52L2G, f52L2F, c1, cond_false]
  | cons x r ih =>
    intro m j h hm
    obtain ⟨m, rfl⟩ : ∃ q, m = q + 1 := ⟨m - 1, by omega⟩
    obtain ⟨h1, h2, h3⟩ := drop_cons h
    have hm' : r.length < m := by simp only [List.length_cons] at hm; omega
    have c1 : decide ((j : Int) < (a0.2.2.2.2.2.1.length : Int)) = true := decide_eq_true (by omega)
    have c2 : decide ((0 : Int) ≤ (j : Int)) = true := decide_eq_true (by omega)
    have c3 : IntKind.i64.wrap ((j : Int) + 1) = ((j + 1 : Nat) : Int) := wrap_succ (by omega)
    have ih' := ih m (j + 1) h3 hm'
    simp only [f52L2, f52L2G, f52L2F, f52L2B, c1, c2, c3, cond_true, chk_true, Int.toNat_natCast, h2, ih']
theorem f52L2_at (n : Nat) (a1 : Int) (a0 : ByteArray × Int × Int × Int × Int × List Int × List Int) (kret : Int → Bool → Option (Int × Bool)) (k0 : Option (Int × Bool)) (hl : a0.2.2.2.2.2.1.length < 4611686018427387904) (hn : a0.2.2.2.2.2.1.length < n + 8) : f52L2 n a1 a0 (n + 8) 0 kret k0 = f52L2F n a1 a0 kret k0 a0.2.2.2.2.2.1 0 := f52L2_eq n a1 a0 kret k0 hl a0.2.2.2.2.2.1 (n + 8) 0 rfl hn
def f52G (n : Nat) (a0 : ByteArray × Int × Int × Int × Int × List Int × List Int) (a1 : Int) (lp2 : Int → (ByteArray × Int × Int × Int × Int × List Int × List Int) → Int → ((Int → Bool → Option (Int × Bool))) → (Option (Int × Bool)) → Option (Int × Bool)) : Option (Int × Bool) :=
  lp2 a1 a0 (0 : Int) (fun v9 v10 =>
      some (v9, v10)) (
      some (0, false))
def f52 (n : Nat) (a0 : ByteArray × Int × Int × Int × Int × List Int × List Int) (a1 : Int) : Option (Int × Bool) := f52G n a0 a1 (fun a1 a0 => f52L2 n a1 a0 (n + 8))
/-! f87: sawmill/sawmillref03.Meet -/
def f87 (a0 : Int × Int) (a1 : Int × Int) : Int × Int :=
  let v1 : Int := if a1.1 > a0.1 then a1.1 else a0.1
  let v2 : Int := if a1.2 < a0.2 then a1.2 else a0.2
  bif decide (v1 ≥ v2) then
    (0, 0)
  else
    (v1, v2)
def f87O (a0 : Int × Int) (a1 : Int × Int) : Option (Int × Int) :=
  let v1 : Int := if a1.1 > a0.1 then a1.1 else a0.1
  let v2 : Int := if a1.2 < a0.2 then a1.2 else a0.2
  bif decide (v1 ≥ v2) then
    some (0, 0)
  else
    some (v1, v2)
theorem f87_o (a0 : Int × Int) (a1 : Int × Int) : f87O a0 a1 = some (f87 a0 a1) := by
  unfold f87O f87
  first | rfl | (simp only [cond_some]) | (simp only [cond_some]; rfl)
/-! f72: sawmill/sawmillref13.Meet -/
def f72 (a0 : Int × Int × Int × Int × Int × Int) (a1 : Int × Int × Int × Int × Int × Int) : Int × Int × Int × Int × Int × Int :=
  let v1 : Int × Int := f87 (a0.1, a0.2.1) (a1.1, a1.2.1)
  let v2 : Int × Int := f87 (a0.2.2.1, a0.2.2.2.1) (a1.2.2.1, a1.2.2.2.1)
  let v3 : Int × Int := f87 a0.2.2.2.2 a1.2.2.2.2
  (v1.1, v1.2, v2.1, v2.2, v3.1, v3.2)
def f72O (a0 : Int × Int × Int × Int × Int × Int) (a1 : Int × Int × Int × Int × Int × Int) : Option (Int × Int × Int × Int × Int × Int) :=
  let v1 : Int × Int := f87 (a0.1, a0.2.1) (a1.1, a1.2.1)
  let v2 : Int × Int := f87 (a0.2.2.1, a0.2.2.2.1) (a1.2.2.1, a1.2.2.2.1)
  let v3 : Int × Int := f87 a0.2.2.2.2 a1.2.2.2.2
  some (v1.1, v1.2, v2.1, v2.2, v3.1, v3.2)
theorem f72_o (a0 : Int × Int × Int × Int × Int × Int) (a1 : Int × Int × Int × Int × Int × Int) : f72O a0 a1 = some (f72 a0 a1) := by
  unfold f72O f72
  first | rfl | (simp only [cond_some]) | (simp only [cond_some]; rfl)
/-! f53: sawmill/sawmillref13.Touches -/
def f53 (a0 : Int × Int × Int × Int × Int × Int × Int) (a1 : Int × Int × Int × Int × Int × Int) : Bool :=
  let v1 : Int × Int × Int × Int × Int × Int := f72 a0.2 a1
  let v2 : Bool := f71 v1
  (!v2)
def f53O (a0 : Int × Int × Int × Int × Int × Int × Int) (a1 : Int × Int × Int × Int × Int × Int) : Option (Bool) :=
  let v1 : Int × Int × Int × Int × Int × Int := f72 a0.2 a1
  let v2 : Bool := f71 v1
  some (!v2)
theorem f53_o (a0 : Int × Int × Int × Int × Int × Int × Int) (a1 : Int × Int × Int × Int × Int × Int) : f53O a0 a1 = some (f53 a0 a1) := by
  unfold f53O f53
  first | rfl | (simp only [cond_some]) | (simp only [cond_some]; rfl)
/-! f40: sawmill/sawmillref20.accept -/
def f40L9G (n : Nat) (a0 : List (Int × Int × List (Int × Int))) (a1 : List (Int × Int × Int × Int × Int × Int × Int)) (a2 : ByteArray × Int × Int × Int × Int × List Int × List Int) (a3 : Int × Int × Int × Int × Int × Int) (v12 : Int) (kc : Int → Option (Bool)) (kret : Option (Bool)) (k0 : Option (Bool)) : Option (Bool) :=
  bif decide (v12 < (a1.length : Int)) then
    chk (decide ((0 : Int) ≤ v12)) <|
    chk (decide (v12 < (a1.length : Int))) <|
    let v13 : Int × Int × Int × Int × Int × Int × Int := a1.getD (Int.toNat v12) ((0 : Int), (0 : Int), (0 : Int), (0 : Int), (0 : Int), (0 : Int), (0 : Int))
    bif (v13.1 == 3) then
      chk (decide ((0 : Int) ≤ v12)) <|
      chk (decide (v12 < (a1.length : Int))) <|
      let v14 : Int × Int × Int × Int × Int × Int × Int := a1.getD (Int.toNat v12) ((0 : Int), (0 : Int), (0 : Int), (0 : Int), (0 : Int), (0 : Int), (0 : Int))
      let v15 : Bool := f53 v14 a3
      bif v15 then
        kret
      else
        let v16 : Int := IntKind.i64.wrap (v12 + 1)
        kc v16
    else
      let v17 : Int := IntKind.i64.wrap (v12 + 1)
      kc v17
  else
    k0
def f40L9 (n : Nat) (a0 : List (Int × Int × List (Int × Int))) (a1 : List (Int × Int × Int × Int × Int × Int × Int)) (a2 : ByteArray × Int × Int × Int × Int × List Int × List Int) (a3 : Int × Int × Int × Int × Int × Int) : Nat → Int → (Option (Bool)) → (Option (Bool)) → Option (Bool)
  | 0, _, _, _ => none
  | m + 1, v12, kret, k0 => f40L9G n a0 a1 a2 a3 v12 (fun v12 => f40L9 n a0 a1 a2 a3 m v12 kret k0) kret k0
def f40L9B (n : Nat) (a0 : List (Int × Int × List (Int × Int))) (a1 : List (Int × Int × Int × Int × Int × Int × Int)) (a2 : ByteArray × Int × Int × Int × Int × List Int × List Int) (a3 : Int × Int × Int × Int × Int × Int) (x12 : Int × Int × Int × Int × Int × Int × Int) (v12 : Int) (kc : Option (Bool)) (kret : Option (Bool)) (k0 : Option (Bool)) : Option (Bool) :=
  bif (x12.1 == 3) then
    let v15 : Bool := f53 x12 a3
    bif v15 then
      kret
    else
      kc
  else
    kc
def f40L9F (n : Nat) (a0 : List (Int × Int × List (Int × Int))) (a1 : List (Int × Int × Int × Int × Int × Int × Int)) (a2 : ByteArray × Int × Int × Int × Int × List Int × List Int) (a3 : Int × Int × Int × Int × Int × Int) (kret : Option (Bool)) (k0 : Option (Bool)) : List (Int × Int × Int × Int × Int × Int × Int) → Nat → Option (Bool)
  | [], j =>
    let v12 : Int := (j : Int)
    k0
  | x12 :: r, j => f40L9B n a0 a1 a2 a3 x12 (j : Int) (f40L9F n a0 a1 a2 a3 kret k0 r (j + 1)) kret k0
theorem f40L9_eq (n : Nat) (a0 : List (Int × Int × List (Int × Int))) (a1 : List (Int × Int × Int × Int × Int × Int × Int)) (a2 : ByteArray × Int × Int × Int × Int × List Int × List Int) (a3 : Int × Int × Int × Int × Int × Int) (kret : Option (Bool)) (k0 : Option (Bool)) (hl : a1.length < 4611686018427387904) : ∀ (r : List (Int × Int × Int × Int × Int × Int × Int)) (m j : Nat), a1.drop j = r → r.length < m → f40L9 n a0 a1 a2 a3 m (j : Int) kret k0 = f40L9F n a0 a1 a2 a3 kret k0 r j := by
  intro r
  induction r with
  | nil =>
    intro m j h hm
    obtain ⟨m, rfl⟩ : ∃ q, m = q + 1 := ⟨m - 1, by omega⟩
    have h1 := drop_none h
    have c1 : decide ((j : Int) < (a1.length : Int)) = false := decide_eq_false (by omega)
    simp only [f40L9, f40L9G, f40L9F, c1, cond_false]
  | cons x r ih =>
    intro m j h hm
    obtain ⟨m, rfl⟩ : ∃ q, m = q + 1 := ⟨m - 1, by omega⟩
    obtain ⟨h1, h2, h3⟩ := drop_cons h
    have hm' : r.length < m := by simp only [List.length_cons] at hm; omega
    have c1 : decide ((j : Int) < (a1.length : Int)) = true := decide_eq_true (by omega)
    have c2 : decide ((0 : Int) ≤ (j : Int)) = true := decide_eq_true (by omega)
    have c3 : IntKind.i64.wrap ((j : Int) + 1) = ((j + 1 : Nat) : Int) := wrap_succ (by omega)
    have ih' := ih m (j + 1) h3 hm'
    simp only [f40L9, f40L9G, f40L9F, f40L9B, c1, c2, c3, cond_true, chk_true, Int.toNat_natCast, h2, ih']
theorem f40L9_at (n : Nat) (a0 : List (Int × Int × List (Int × Int))) (a1 : List (Int × Int × Int × Int × Int × Int × Int)) (a2 : ByteArray × Int × Int × Int × Int × List Int × List Int) (a3 : Int × Int × Int × Int × Int × Int) (kret : Option (Bool)) (k0 : Option (Bool)) (hl : a1.length < 4611686018427387904) (hn : a1.length < n + 8) : f40L9 n a0 a1 a2 a3 (n + 8) 0 kret k0 = f40L9F n a0 a1 a2 a3 kret k0 a1 0 := f40L9_eq n a0 a1 a2 a3 kret k0 hl a1 (n + 8) 0 rfl hn
def f40G (n : Nat) (a0 : List (Int × Int × List (Int × Int))) (a1 : List (Int × Int × Int × Int × Int × Int × Int)) (a2 : ByteArray × Int × Int × Int × Int × List Int × List Int) (a3 : Int × Int × Int × Int × Int × Int) (lp9 : (List (Int × Int × List (Int × Int))) → (List (Int × Int × Int × Int × Int × Int × Int)) → (ByteArray × Int × Int × Int × Int × List Int × List Int) → (Int × Int × Int × Int × Int × Int) → Int → (Option (Bool)) → (Option (Bool)) → Option (Bool)) : Option (Bool) :=
  let v1 : Option (Bool) := f35 n a0 a3
  chk (v1.isSome) <|
  let v2 : Bool := v1.getD false
  bif (!v2) then
    some false
  else
    let v3 : Int := IntKind.i64.wrap (a3.2.1 - a3.1)
    let v4 : Int := IntKind.i64.wrap (a3.2.2.2.1 - a3.2.2.1)
    let v5 : Int × Int := f57 a2
    let v6 : Int := IntKind.i64.wrap (a3.2.2.2.2.2 - a3.2.2.2.2.1)
    let v7 : Option (Int × Bool) := f52 n a2 v6
    chk (v7.isSome) <|
    let v8 : Int × Bool := v7.getD ((0 : Int), false)
    bif (!v8.2) then
      some false
    else
      bif (v3 == v5.1) then
        bif (!(v4 == v5.2)) then
          bif (v3 == v5.2) then
            bif (!(v4 == v5.1)) then
              some false
            else
              lp9 a0 a1 a2 a3 (0 : Int) (
                  some false) (
                  let v18 : Option (Int) := f36 n a0 a3
                  chk (v18.isSome) <|
                  let v19 : Int := v18.getD (0 : Int)
                  some (decide (v19 ≤ a2.2.2.2.2.1)))
          else
            some false
        else
          lp9 a0 a1 a2 a3 (0 : Int) (
              some false) (
              let v20 : Option (Int) := f36 n a0 a3
              chk (v20.isSome) <|
              let v21 : Int := v20.getD (0 : Int)
              some (decide (v21 ≤ a2.2.2.2.2.1)))
      else
        bif (v3 == v5.2) then
          bif (!(v4 == v5.1)) then
            some false
          else
            lp9 a0 a1 a2 a3 (0 : Int) (
                some false) (
                let v22 : Option (Int) := f36 n a0 a3
                chk (v22.isSome) <|
                let v23 : Int := v22.getD (0 : Int)
                some (decide (v23 ≤ a2.2.2.2.2.1)))
        else
          some false
def f40 (n : Nat) (a0 : List (Int × Int × List (Int × Int))) (a1 : List (Int × Int × Int × Int × Int × Int × Int)) (a2 : ByteArray × Int × Int × Int × Int × List Int × List Int) (a3 : Int × Int × Int × Int × Int × Int) : Option (Bool) := f40G n a0 a1 a2 a3 (fun a0 a1 a2 a3 => f40L9 n a0 a1 a2 a3 (n + 8))
/-! f20: sawmill/sawmillref20.Accept -/
def f20G (n : Nat) (a0 : List (Int × Int × List (Int × Int))) (a1 : List (Int × Int × Int × Int × Int × Int × Int)) (a2 : ByteArray × Int × Int × Int × Int × List Int × List Int) (a3 : Int × Int × Int × Int × Int × Int) : Option (Bool) :=
  let v1 : Option (Bool) := f39 n a0 a1 a2
  chk (v1.isSome) <|
  let v2 : Bool := v1.getD false
  bif v2 then
    let v3 : Option (Bool) := f40 n a0 a1 a2 a3
    chk (v3.isSome) <|
    let v4 : Bool := v3.getD false
    some v4
  else
    some false
def f20 (n : Nat) (a0 : List (Int × Int × List (Int × Int))) (a1 : List (Int × Int × Int × Int × Int × Int × Int)) (a2 : ByteArray × Int × Int × Int × Int × List Int × List Int) (a3 : Int × Int × Int × Int × Int × Int) : Option (Bool) := f20G n a0 a1 a2 a3
/-! f38: sawmill/sawmillref20.value -/
def f38L3G (n : Nat) (a0 : List (Int × Int × Int × Int × Int × Int × Int)) (a3 : Int) (a2 : Int × Int × Int × Int × Int × Int) (v7 : Int) (v8 : Int) (kc : Int → Int → Option (Int)) (k0 : Int → Option (Int)) : Option (Int) :=
  bif decide (v8 < (a0.length : Int)) then
    chk (decide ((0 : Int) ≤ v8)) <|
    chk (decide (v8 < (a0.length : Int))) <|
    let v9 : Int × Int × Int × Int × Int × Int × Int := a0.getD (Int.toNat v8) ((0 : Int), (0 : Int), (0 : Int), (0 : Int), (0 : Int), (0 : Int), (0 : Int))
    let v10 : Bool := f53 v9 a2
    bif v10 then
      let v11 : Int := IntKind.i64.wrap (v7 - a3)
      let v12 : Int := IntKind.i64.wrap (v8 + 1)
      kc v11 v12
    else
      let v13 : Int := IntKind.i64.wrap (v8 + 1)
      kc v7 v13
  else
    k0 v7
def f38L3 (n : Nat) (a0 : List (Int × Int × Int × Int × Int × Int × Int)) (a3 : Int) (a2 : Int × Int × Int × Int × Int × Int) : Nat → Int → Int → ((Int → Option (Int))) → Option (Int)
  | 0, _, _, _ => none
  | m + 1, v7, v8, k0 => f38L3G n a0 a3 a2 v7 v8 (fun v7 v8 => f38L3 n a0 a3 a2 m v7 v8 k0) k0
def f38L3B (n : Nat) (a0 : List (Int × Int × Int × Int × Int × Int × Int)) (a3 : Int) (a2 : Int × Int × Int × Int × Int × Int) (x8 : Int × Int × Int × Int × Int × Int × Int) (v8 : Int) (v7 : Int) (kc : Int → Option (Int)) (k0 : Int → Option (Int)) : Option (Int) :=
  let v10 : Bool := f53 x8 a2
  bif v10 then
    let v11 : Int := IntKind.i64.wrap (v7 - a3)
    kc v11
  else
    kc v7
def f38L3F (n : Nat) (a0 : List (Int × Int × Int × Int × Int × Int × Int)) (a3 : Int) (a2 : Int × Int × Int × Int × Int × Int) (k0 : Int → Option (Int)) : List (Int × Int × Int × Int × Int × Int × Int) → Nat → Int → Option (Int)
  | [], j, v7 =>
    let v8 : Int := (j : Int)
    k0 v7
  | x8 :: r, j, v7 => f38L3B n a0 a3 a2 x8 (j : Int) v7 (fun v7 => f38L3F n a0 a3 a2 k0 r (j + 1) v7) k0
theorem f38L3_eq (n : Nat) (a0 : List (Int × Int × Int × Int × Int × Int × Int)) (a3 : Int) (a2 : Int × Int × Int × Int × Int × Int) (k0 : Int → Option (Int)) (hl : a0.length < 4611686018427387904) : ∀ (r : List (Int × Int × Int × Int × Int × Int × Int)) (m j : Nat) (v7 : Int), a0.drop j = r → r.length < m → f38L3 n a0 a3 a2 m v7 (j : Int) k0 = f38L3F n a0 a3 a2 k0 r j v7 := by
  intro r
  induction r with
  | nil =>
    intro m j v7 h hm
    obtain ⟨m, rfl⟩ : ∃ q, m = q + 1 := ⟨m - 1, by omega⟩
    have h1 := drop_none h
    have c1 : decide ((j : Int) < (a0.length : Int)) = false := decide_eq_false (by omega)
    simp only [f38L3, f38L3G, f38L3F, c1, cond_false]
  | cons x r ih =>
    intro m j v7 h hm
    obtain ⟨m, rfl⟩ : ∃ q, m = q + 1 := ⟨m - 1, by omega⟩
    obtain ⟨h1, h2, h3⟩ := drop_cons h
    have hm' : r.length < m := by simp only [List.length_cons] at hm; omega
    have c1 : decide ((j : Int) < (a0.length : Int)) = true := decide_eq_true (by omega)
    have c2 : decide ((0 : Int) ≤ (j : Int)) = true := decide_eq_true (by omega)
    have c3 : IntKind.i64.wrap ((j : Int) + 1) = ((j + 1 : Nat) : Int) := wrap_succ (by omega)
    have ih' := fun v7 => ih m (j + 1) v7 h3 hm'
    simp only [f38L3, f38L3G, f38L3F, f38L3B, c1, c2, c3, cond_true, chk_true, Int.toNat_natCast, h2, ih']
theorem f38L3_at (n : Nat) (a0 : List (Int × Int × Int × Int × Int × Int × Int)) (a3 : Int) (a2 : Int × Int × Int × Int × Int × Int) (k0 : Int → Option (Int)) (hl : a0.length < 4611686018427387904) (hn : a0.length < n + 8) (v7 : Int) : f38L3 n a0 a3 a2 (n + 8) v7 0 k0 = f38L3F n a0 a3 a2 k0 a0 0 v7 := f38L3_eq n a0 a3 a2 k0 hl a0 (n + 8) 0 v7 rfl hn
def f38G (n : Nat) (a0 : List (Int × Int × Int × Int × Int × Int × Int)) (a1 : ByteArray × Int × Int × Int × Int × List Int × List Int) (a2 : Int × Int × Int × Int × Int × Int) (a3 : Int) (lp3 : (List (Int × Int × Int × Int × Int × Int × Int)) → Int → (Int × Int × Int × Int × Int × Int) → Int → Int → ((Int → Option (Int))) → Option (Int)) : Option (Int) :=
  let v1 : Int := IntKind.i64.wrap (a2.2.2.2.2.2 - a2.2.2.2.2.1)
  let v2 : Option (Int × Bool) := f52 n a1 v1
  chk (v2.isSome) <|
  let v3 : Int × Bool := v2.getD ((0 : Int), false)
  lp3 a0 a3 a2 v3.1 (0 : Int) (fun v15 =>
      let v16 : Int := if v15 > 0 then v15 else 0
      some v16)
def f38 (n : Nat) (a0 : List (Int × Int × Int × Int × Int × Int × Int)) (a1 : ByteArray × Int × Int × Int × Int × List Int × List Int) (a2 : Int × Int × Int × Int × Int × Int) (a3 : Int) : Option (Int) := f38G n a0 a1 a2 a3 (fun a0 a3 a2 => f38L3 n a0 a3 a2 (n + 8))
/-! f18: sawmill/sawmillref20.Worth -/
def f18G (n : Nat) (a0 : List (Int × Int × List (Int × Int))) (a1 : List (Int × Int × Int × Int × Int × Int × Int)) (a2 : ByteArray × Int × Int × Int × Int × List Int × List Int) (a3 : Int × Int × Int × Int × Int × Int) (a4 : Int) : Option (Int × Bool) :=
  let v1 : Bool := f30 a4 0 1000000
  bif (!v1) then
    some (0, false)
  else
    let v2 : Option (Bool) := f20 n a0 a1 a2 a3
    chk (v2.isSome) <|
    let v3 : Bool := v2.getD false
    bif (!v3) then
      some (0, false)
    else
      let v4 : Option (Int) := f38 n a1 a2 a3 a4
      chk (v4.isSome) <|
      let v5 : Int := v4.getD (0 : Int)
      some (v5, true)
def f18 (n : Nat) (a0 : List (Int × Int × List (Int × Int))) (a1 : List (Int × Int × Int × Int × Int × Int × Int)) (a2 : ByteArray × Int × Int × Int × Int × List Int × List Int) (a3 : Int × Int × Int × Int × Int × Int) (a4 : Int) : Option (Int × Bool) := f18G n a0 a1 a2 a3 a4
/-! f19: sawmill/worth.Accept -/
def f19G (n : Nat) (a0 : List (Int × Int × List (Int × Int))) (a1 : List (Int × Int × Int × Int × Int × Int × Int)) (a2 : ByteArray × Int × Int × Int × Int × List Int × List Int) (a3 : Int × Int × Int × Int × Int × Int) : Option (Bool) :=
  let v1 : Option (Int × Bool) := f37 n a0 a1 a2 a3 0
  chk (v1.isSome) <|
  let v2 : Int × Bool := v1.getD ((0 : Int), false)
  some v2.2
def f19 (n : Nat) (a0 : List (Int × Int × List (Int × Int))) (a1 : List (Int × Int × Int × Int × Int × Int × Int)) (a2 : ByteArray × Int × Int × Int × Int × List Int × List Int) (a3 : Int × Int × Int × Int × Int × Int) : Option (Bool) := f19G n a0 a1 a2 a3
/-! f5: sawmill/sawmilllaw20.WorthAccepts -/
def f5G (n : Nat) (a0 : List (Int × Int × List (Int × Int)) × List (Int × Int × Int × Int × Int × Int × Int) × ByteArray × Int × Int × Int × Int × List Int × List Int × Int) (a1 : Int × Int × Int × Int × Int × Int) : Option (Bool) :=
  let v1 : Option (Bool) := f14 n a0
  chk (v1.isSome) <|
  let v2 : Bool := v1.getD false
  bif (!v2) then
    some true
  else
    let v3 : Option (Int × Bool) := f17 n a0 a1
    chk (v3.isSome) <|
    let v4 : Int × Bool := v3.getD ((0 : Int), false)
    let v5 : Option (Int × Bool) := f18 n a0.1 a0.2.1 (a0.2.2.1, a0.2.2.2.1, a0.2.2.2.2.1, a0.2.2.2.2.2.1, a0.2.2.2.2.2.2.1, a0.2.2.2.2.2.2.2.1, a0.2.2.2.2.2.2.2.2.1) a1 a0.2.2.2.2.2.2.2.2.2
    chk (v5.isSome) <|
    let v6 : Int × Bool := v5.getD ((0 : Int), false)
    bif (v4.1 == v6.1) then
      bif (v4.2 == v6.2) then
        let v7 : Option (Bool) := f19 n a0.1 a0.2.1 (a0.2.2.1, a0.2.2.2.1, a0.2.2.2.2.1, a0.2.2.2.2.2.1, a0.2.2.2.2.2.2.1, a0.2.2.2.2.2.2.2.1, a0.2.2.2.2.2.2.2.2.1) a1
        chk (v7.isSome) <|
        let v8 : Bool := v7.getD false
        let v9 : Option (Bool) := f20 n a0.1 a0.2.1 (a0.2.2.1, a0.2.2.2.1, a0.2.2.2.2.1, a0.2.2.2.2.2.1, a0.2.2.2.2.2.2.1, a0.2.2.2.2.2.2.2.1, a0.2.2.2.2.2.2.2.2.1) a1
        chk (v9.isSome) <|
        let v10 : Bool := v9.getD false
        bif (v8 == v10) then
          some true
        else
          some false
      else
        some false
    else
      some false
def f5 (n : Nat) (a0 : List (Int × Int × List (Int × Int)) × List (Int × Int × Int × Int × Int × Int × Int) × ByteArray × Int × Int × Int × Int × List Int × List Int × Int) (a1 : Int × Int × Int × Int × Int × Int) : Option (Bool) := f5G n a0 a1
/-! f21: sawmill/sawmilllaw20.rare -/
def f21 (a0 : Int) : Bool :=
  bif decide (a0 < 1) then
    true
  else
    decide (a0 ≥ 20)
def f21O (a0 : Int) : Option (Bool) :=
  bif decide (a0 < 1) then
    some true
  else
    some (decide (a0 ≥ 20))
theorem f21_o (a0 : Int) : f21O a0 = some (f21 a0) := by
  unfold f21O f21
  first | rfl | (simp only [cond_some]) | (simp only [cond_some]; rfl)
/-! f41: sawmill/worth.Best -/
def f41L10G (n : Nat) (a4 : Int) (a5 : Int) (v60 : Int) (a2 : ByteArray × Int × Int × Int × Int × List Int × List Int) (v2 : (List (Int × Int × Int × Int × Int × Int × Int) × ByteArray × Int × Int × Int × Int × List Int × List Int × Int × Int × Int × Int × Int × List Int × List Int) × Bool) (v67 : Int) (v68 : Bool) (v69 : Int) (v70 : Int) (v71 : Int) (kc : Int → Bool → Int → Int → Int → Option ((Int × Int) × Int × Bool)) (k2 : Int → Bool → Int → Int → Option ((Int × Int) × Int × Bool)) : Option ((Int × Int) × Int × Bool) :=
  bif decide (v69 < (a2.2.2.2.2.2.1.length : Int)) then
    chk (decide ((0 : Int) ≤ v69)) <|
    chk (decide (v69 < (a2.2.2.2.2.2.1.length : Int))) <|
    let v72 : Int := a2.2.2.2.2.2.1.getD (Int.toNat v69) (0 : Int)
    let v73 : Int := IntKind.i64.wrap (v60 + v72)
    let v74 : Option (Int × Bool) := f51 n v2.1 (v60, v73) a5
    chk (v74.isSome) <|
    let v75 : Int × Bool := v74.getD ((0 : Int), false)
    bif v75.2 then
      bif (!v68) then
        let v76 : Int := IntKind.i64.wrap (v69 + 1)
        kc v75.1 true v76 v60 v73
      else
        bif decide (v75.1 > v67) then
          let v77 : Int := IntKind.i64.wrap (v69 + 1)
          kc v75.1 true v77 v60 v73
        else
          let v78 : Int := IntKind.i64.wrap (v69 + 1)
          kc v67 v68 v78 v70 v71
    else
      let v79 : Int := IntKind.i64.wrap (v69 + 1)
      kc v67 v68 v79 v70 v71
  else
    k2 v67 v68 v70 v71
def f41L10 (n : Nat) (a4 : Int) (a5 : Int) (v60 : Int) (a2 : ByteArray × Int × Int × Int × Int × List Int × List Int) (v2 : (List (Int × Int × Int × Int × Int × Int × Int) × ByteArray × Int × Int × Int × Int × List Int × List Int × Int × Int × Int × Int × Int × List Int × List Int) × Bool) : Nat → Int → Bool → Int → Int → Int → ((Int → Bool → Int → Int → Option ((Int × Int) × Int × Bool))) → Option ((Int × Int) × Int × Bool)
  | 0, _, _, _, _, _, _ => none
  | m + 1, v67, v68, v69, v70, v71, k2 => f41L10G n a4 a5 v60 a2 v2 v67 v68 v69 v70 v71 (fun v67 v68 v69 v70 v71 => f41L10 n a4 a5 v60 a2 v2 m v67 v68 v69 v70 v71 k2) k2
def f41L10B (n : Nat) (a4 : Int) (a5 : Int) (v60 : Int) (a2 : ByteArray × Int × Int × Int × Int × List Int × List Int) (v2 : (List (Int × Int × Int × Int × Int × Int × Int) × ByteArray × Int × Int × Int × Int × List Int × List Int × Int × Int × Int × Int × Int × List Int × List Int) × Bool) (x69 : Int) (v69 : Int) (v67 : Int) (v68 : Bool) (v70 : Int) (v71 : Int) (kc : Int → Bool → Int → Int → Option ((Int × Int) × Int × Bool)) (k2 : Int → Bool → Int → Int → Option ((Int × Int) × Int × Bool)) : Option ((Int × Int) × Int × Bool) :=
  let v73 : Int := IntKind.i64.wrap (v60 + x69)
  let v74 : Option (Int × Bool) := f51 n v2.1 (v60, v73) a5
  chk (v74.isSome) <|
  let v75 : Int × Bool := v74.getD ((0 : Int), false)
  bif v75.2 then
    bif (!v68) then
      kc v75.1 true v60 v73
    else
      bif decide (v75.1 > v67) then
        kc v75.1 true v60 v73
      else
        kc v67 v68 v70 v71
  else
    kc v67 v68 v70 v71
def f41L10F (n : Nat) (a4 : Int) (a5 : Int) (v60 : Int) (a2 : ByteArray × Int × Int × Int × Int × List Int × List Int) (v2 : (List (Int × Int × Int × Int × Int × Int × Int) × ByteArray × Int × Int × Int × Int × List Int × List Int × Int × Int × Int × Int × Int × List Int × List Int) × Bool) (k2 : Int → Bool → Int → Int → Option ((Int × Int) × Int × Bool)) : List (Int) → Nat → Int → Bool → Int → Int → Option ((Int × Int) × Int × Bool)
  | [], j, v67, v68, v70, v71 =>
    let v69 : Int := (j : Int)
    k2 v67 v68 v70 v71
  | x69 :: r, j, v67, v68, v70, v71 => f41L10B n a4 a5 v60 a2 v2 x69 (j : Int) v67 v68 v70 v71 (fun v67 v68 v70 v71 => f41L10F n a4 a5 v60 a2 v2 k2 r (j + 1) v67 v68 v70 v71) k2
theorem f41L10_eq (n : Nat) (a4 : Int) (a5 : Int) (v60 : Int) (a2 : ByteArray × Int × Int × Int × Int × List Int × List Int) (v2 : (List (Int × Int × Int × Int × Int × Int × Int) × ByteArray × Int × Int × Int × Int × List Int × List Int × Int × Int × Int × Int × Int × List Int × List Int) × Bool) (k2 : Int → Bool → Int → Int → Option ((Int × Int) × Int × Bool)) (hl : a2.2.2.2.2.2.1.length < 4611686018427387904) : ∀ (r : List (Int)) (m j : Nat) (v67 : Int) (v68 : Bool) (v70 : Int) (v71 : Int), a2.2.2.2.2.2.1.drop j = r → r.length < m → f41L10 n a4 a5 v60 a2 v2 m v67 v68 (j : Int) v70 v71 k2 = f41L10F n a4 a5 v60 a2 v2 k2 r j v67 v68 v70 v71 := by
  intro r
  induction r with
  | nil =>
    intro m j v67 v68 v70 v71 h hm
    obtain ⟨m, rfl⟩ : ∃ q, m = q + 1 := ⟨m - 1, by omega⟩
    have h1 := drop_none h
    have c1 : decide ((j : Int) < (a2.2.2.2.2.2.1.length : Int)) = false := decide_eq_false (by omega)
    simp only [f41L10, f41L10G, f41L10F, c1, cond_false]
  | cons x r ih =>
    intro m j v67 v68 v70 v71 h hm
    obtain ⟨m, rfl⟩ : ∃ q, m = q + 1 := ⟨m - 1, by omega⟩
    obtain ⟨h1, h2, h3⟩ := drop_cons h
    have hm' : r.length < m := by simp only [List.length_cons] at hm; omega
    have c1 : decide ((j : Int) < (a2.2.2.2.2.2.1.length : Int)) = true := decide_eq_true (by omega)
    have c2 : decide ((0 : Int) ≤ (j : Int)) = true := decide_eq_true (by omega)
    have c3 : IntKind.i64.wrap ((j : Int) + 1) = ((j + 1 : Nat) : Int) := wrap_succ (by omega)
    have ih' := fun v67 v68 v70 v71 => ih m (j + 1) v67 v68 v70 v71 h3 hm'
    simp only [f41L10, f41L10G, f41L10F, f41L10B, c1, c2, c3, cond_true, chk_true, Int.toNat_natCast, h2, ih']
theorem f41L10_at (n : Nat) (a4 : Int) (a5 : Int) (v60 : Int) (a2 : ByteArray × Int × Int × Int × Int × List Int × List Int) (v2 : (List (Int × Int × Int × Int × Int × Int × Int) × ByteArray × Int × Int × Int × Int × List Int × List Int × Int × Int × Int × Int × Int × List Int × List Int) × Bool) (k2 : Int → Bool → Int → Int → Option ((Int × Int) × Int × Bool)) (hl : a2.2.2.2.2.2.1.length < 4611686018427387904) (hn : a2.2.2.2.2.2.1.length < n + 8) (v67 : Int) (v68 : Bool) (v70 : Int) (v71 : Int) : f41L10 n a4 a5 v60 a2 v2 (n + 8) v67 v68 0 v70 v71 k2 = f41L10F n a4 a5 v60 a2 v2 k2 a2.2.2.2.2.2.1 0 v67 v68 v70 v71 := f41L10_eq n a4 a5 v60 a2 v2 k2 hl a2.2.2.2.2.2.1 (n + 8) 0 v67 v68 v70 v71 rfl hn
def f41L7G (n : Nat) (a4 : Int) (a5 : Int) (a2 : ByteArray × Int × Int × Int × Int × List Int × List Int) (v2 : (List (Int × Int × Int × Int × Int × Int × Int) × ByteArray × Int × Int × Int × Int × List Int × List Int × Int × Int × Int × Int × Int × List Int × List Int) × Bool) (lp10 : Int → Int → Int → (ByteArray × Int × Int × Int × Int × List Int × List Int) → ((List (Int × Int × Int × Int × Int × Int × Int) × ByteArray × Int × Int × Int × Int × List Int × List Int × Int × Int × Int × Int × Int × List Int × List Int) × Bool) → Int → Bool → Int → Int → Int → ((Int → Bool → Int → Int → Option ((Int × Int) × Int × Bool))) → Option ((Int × Int) × Int × Bool)) (v58 : Int) (v59 : Bool) (v60 : Int) (v61 : Int) (v62 : Int) (kc : Int → Bool → Int → Int → Int → Option ((Int × Int) × Int × Bool)) (k0 : Int → Bool → Int → Int → Option ((Int × Int) × Int × Bool)) : Option ((Int × Int) × Int × Bool) :=
  bif decide (v60 < v2.1.2.2.2.2.2.2.2.2.2.2.2.2.1) then
    lp10 a4 a5 v60 a2 v2 v58 v59 (0 : Int) v61 v62 (fun v84 v85 v86 v87 =>
        let v88 : Int := IntKind.i64.wrap (v60 + a4)
        kc v84 v85 v88 v86 v87)
  else
    k0 v58 v59 v61 v62
def f41L7 (n : Nat) (a4 : Int) (a5 : Int) (a2 : ByteArray × Int × Int × Int × Int × List Int × List Int) (v2 : (List (Int × Int × Int × Int × Int × Int × Int) × ByteArray × Int × Int × Int × Int × List Int × List Int × Int × Int × Int × Int × Int × List Int × List Int) × Bool) : Nat → Int → Bool → Int → Int → Int → ((Int → Bool → Int → Int → Option ((Int × Int) × Int × Bool))) → Option ((Int × Int) × Int × Bool)
  | 0, _, _, _, _, _, _ => none
  | m + 1, v58, v59, v60, v61, v62, k0 => f41L7G n a4 a5 a2 v2 (fun a4 a5 v60 a2 v2 => f41L10 n a4 a5 v60 a2 v2 (n + 8)) v58 v59 v60 v61 v62 (fun v58 v59 v60 v61 v62 => f41L7 n a4 a5 a2 v2 m v58 v59 v60 v61 v62 k0) k0
def f41G (n : Nat) (a0 : List (Int × Int × List (Int × Int))) (a1 : List (Int × Int × Int × Int × Int × Int × Int)) (a2 : ByteArray × Int × Int × Int × Int × List Int × List Int) (a3 : Int × Int × Int × Int) (a4 : Int) (a5 : Int) (lp7 : Int → Int → (ByteArray × Int × Int × Int × Int × List Int × List Int) → ((List (Int × Int × Int × Int × Int × Int × Int) × ByteArray × Int × Int × Int × Int × List Int × List Int × Int × Int × Int × Int × Int × List Int × List Int) × Bool) → Int → Bool → Int → Int → Int → ((Int → Bool → Int → Int → Option ((Int × Int) × Int × Bool))) → Option ((Int × Int) × Int × Bool)) : Option ((Int × Int) × Int × Bool) :=
  let v1 : Option ((List (Int × Int × Int × Int × Int × Int × Int) × ByteArray × Int × Int × Int × Int × List Int × List Int × Int × Int × Int × Int × Int × List Int × List Int) × Bool) := f50 n a0 a1 a2 a3
  chk (v1.isSome) <|
  let v2 : (List (Int × Int × Int × Int × Int × Int × Int) × ByteArray × Int × Int × Int × Int × List Int × List Int × Int × Int × Int × Int × Int × List Int × List Int) × Bool := v1.getD (([], ByteArray.empty, (0 : Int), (0 : Int), (0 : Int), (0 : Int), [], [], (0 : Int), (0 : Int), (0 : Int), (0 : Int), (0 : Int), [], []), false)
  bif (!v2.2) then
    some ((0, 0), 0, false)
  else
    let v3 : Bool := f29 a4 1 20000
    bif (!v3) then
      some ((0, 0), 0, false)
    else
      let v4 : Bool := f29 a5 0 1000000
      bif (!v4) then
        some ((0, 0), 0, false)
      else
        lp7 a4 a5 a2 v2 (0 : Int) false (0 : Int) (0 : Int) (0 : Int) (fun v93 v94 v95 v96 =>
            some ((v95, v96), v93, v94))
def f41 (n : Nat) (a0 : List (Int × Int × List (Int × Int))) (a1 : List (Int × Int × Int × Int × Int × Int × Int)) (a2 : ByteArray × Int × Int × Int × Int × List Int × List Int) (a3 : Int × Int × Int × Int) (a4 : Int) (a5 : Int) : Option ((Int × Int) × Int × Bool) := f41G n a0 a1 a2 a3 a4 a5 (fun a4 a5 a2 v2 => f41L7 n a4 a5 a2 v2 (n + 8))
/-! f22: sawmill/sawmilllaw20.best -/
def f22G (n : Nat) (a0 : List (Int × Int × List (Int × Int)) × List (Int × Int × Int × Int × Int × Int × Int) × ByteArray × Int × Int × Int × Int × List Int × List Int × Int) (a1 : Int × Int × Int × Int) (a2 : Int) : Option ((Int × Int) × Int × Bool) :=
  let v1 : Option ((Int × Int) × Int × Bool) := f41 n a0.1 a0.2.1 (a0.2.2.1, a0.2.2.2.1, a0.2.2.2.2.1, a0.2.2.2.2.2.1, a0.2.2.2.2.2.2.1, a0.2.2.2.2.2.2.2.1, a0.2.2.2.2.2.2.2.2.1) a1 a2 a0.2.2.2.2.2.2.2.2.2
  chk (v1.isSome) <|
  let v2 : (Int × Int) × Int × Bool := v1.getD (((0 : Int), (0 : Int)), (0 : Int), false)
  some (v2.1, v2.2.1, v2.2.2)
def f22 (n : Nat) (a0 : List (Int × Int × List (Int × Int)) × List (Int × Int × Int × Int × Int × Int × Int) × ByteArray × Int × Int × Int × Int × List Int × List Int × Int) (a1 : Int × Int × Int × Int) (a2 : Int) : Option ((Int × Int) × Int × Bool) := f22G n a0 a1 a2
end Go.Proofs.Ytdhgbgbdnifonaa.Ev
