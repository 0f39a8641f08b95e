/- What the plain functions of the chapter about worth compute: defects, products, and the worth of a box. -/
import Derived.Test.YtdhgbgbdnifonaaPureWorthWanes
import Derived.Laws.Strings
namespace Go.Proofs.Ytdhgbgbdnifonaa.Ev.Plain
set_option linter.unusedVariables false
set_option linter.unusedSimpArgs false
abbrev Def := Int × Int × Int × Int × Int × Int × Int
abbrev Pro := ByteArray × Int × Int × Int × Int × List Int × List Int
abbrev Box := Int × Int × Int × Int × Int × Int

/-! ### Defects -/
theorem meet_eq (x y : Pr) : f60 x y = f87 x y := by
  obtain ⟨a, b⟩ := x
  obtain ⟨c, d⟩ := y
  unfold f60 f87
  simp only [f78_eq, bif_if]
  by_cases h1 : a ≥ b
  · rw [if_pos h1, if_pos (by split <;> split <;> omega)]
  · rw [if_neg h1]
    by_cases h2 : c ≥ d
    · rw [if_pos h2, if_pos (by split <;> split <;> omega)]
    · rw [if_neg h2]
theorem touch_eq (d : Def) (b : Box) : f53 d b = f70 d b := by
  unfold f53 f72 f70 f86 f91 f71
  simp only [meet_eq, bif_if]
  generalize f87 (d.2.1, d.2.2.1) (b.1, b.2.1) = u
  generalize f87 (d.2.2.2.1, d.2.2.2.2.1) (b.2.2.1, b.2.2.2.1) = v
  generalize f87 d.2.2.2.2.2 b.2.2.2.2 = w
  by_cases h1 : u.1 ≥ u.2
  · simp [h1]
  · by_cases h2 : v.1 ≥ v.2
    · simp [h1, h2]
    · by_cases h3 : w.1 ≥ w.2 <;> simp [h1, h2, h3]
theorem f92_eq {s : Pr} (h : s.1 < s.2) (lo hi : Int) : f92 s lo hi = f89 s lo hi := by
  unfold f92 f89
  have e1 : (if s.2 < s.1 then s.2 else s.1) = s.1 := if_neg (by omega)
  have e2 : (if s.2 > s.1 then s.2 else s.1) = s.2 := if_pos (by omega)
  simp only [e1, e2]
theorem f55_step (n : Nat) (d : List Def) (x : Def) (v : Int) (kc : Option Int) (kret : Int → Option Int) (k0 : Option Int) : f55L4B n d x v kc kret k0 = if f80 x ≠ 0 then kret (f80 x) else kc := by
  unfold f55L4B f80 f91 f71 f74
  simp only [bif_if]
  by_cases h1 : x.1 < 1
  · simp [h1]
  by_cases h2 : x.1 > 6
  · simp [h1, h2]
  by_cases h3 : x.2.1 ≥ x.2.2.1
  · simp [h1, h2, h3]
  by_cases h4 : x.2.2.2.1 ≥ x.2.2.2.2.1
  · simp [h1, h2, h3, h4]
  by_cases h5 : x.2.2.2.2.2.1 ≥ x.2.2.2.2.2.2
  · simp [h1, h2, h3, h4, h5]
  have e1 := f92_eq (s := (x.2.1, x.2.2.1)) (by simp only; omega) (-600) 600
  have e2 := f92_eq (s := (x.2.2.2.1, x.2.2.2.2.1)) (by simp only; omega) (-600) 600
  have e3 := f92_eq (s := x.2.2.2.2.2) (by omega) 0 20000
  simp only [e1, e2, e3]
  simp only [h1, h2, h3, h4, h5, if_false]
  cases f89 (x.2.1, x.2.2.1) (-600) 600
  · simp
  cases f89 (x.2.2.2.1, x.2.2.2.2.1) (-600) 600
  · simp
  cases f89 x.2.2.2.2.2 0 20000 <;> simp
def dckL : List Def → Int
  | [] => 0
  | x :: r => if f80 x ≠ 0 then f80 x else dckL r
def dCk (d : List Def) : Int := if (d.length : Int) > 64 then 4 else dckL d
theorem f67_L (n : Nat) (d : List Def) : ∀ (r : List Def) (j : Nat), f67L4F n d (fun v => some v) (some 0) r j = some (dckL r)
  | [], j => rfl
  | x :: r, j => by
    simp only [f67L4F, f67L4B, f67_L n d r (j + 1), dckL]
    by_cases h : f80 x = 0
    · simp [h]
    · have h' : (f80 x != 0) = true := by simp [h]
      simp [h, h']
theorem f55_L (n : Nat) (d : List Def) : ∀ (r : List Def) (j : Nat), f55L4F n d (fun v => some v) (some 0) r j = some (dckL r)
  | [], j => rfl
  | x :: r, j => by
    simp only [f55L4F, f55_step, f55_L n d r (j + 1), dckL]
    by_cases h : f80 x = 0 <;> simp [h]
theorem f67_eq {n : Nat} (hn : 200 ≤ n) (d : List Def) : f67 n d = some (dCk d) := by
  unfold f67 f67G dCk
  rw [bif_if]
  by_cases h : (d.length : Int) > 64
  · rw [if_pos h, if_pos h]
  · rw [if_neg h, if_neg h]
    dsimp only
    rw [f67L4_at n d _ _ (by omega) (by omega), f67_L]
theorem f55_eq {n : Nat} (hn : 200 ≤ n) (d : List Def) : f55 n d = some (dCk d) := by
  unfold f55 f55G dCk
  rw [bif_if]
  by_cases h : (d.length : Int) > 64
  · rw [if_pos h, if_pos h]
  · rw [if_neg h, if_neg h]
    dsimp only
    rw [f55L4_at n d _ _ (by omega) (by omega), f55_L]

/-! ### Names -/
def ch (s : ByteArray) (i : Nat) : Int := ((s.data.getD i 0).toNat : Int)
def okc (c : Int) : Bool := (decide (97 ≤ c) && decide (c ≤ 122)) || c == 95 || (decide (48 ≤ c) && decide (c ≤ 57))
def okFrom (s : ByteArray) : Nat → Nat → Bool
  | 0, _ => true
  | k + 1, i => okc (ch s i) && okFrom s k (i + 1)
theorem ne95 {c : Int} (h : ¬ c = 95) : (c == 95) = false ∧ (c != 95) = true := by simp [h]
theorem f81_L (n : Nat) (s : ByteArray) (hs : s.size < 1000) (kret k0 : Option Bool) : ∀ (k m i : Nat), s.size = i + k → k < m → f81L4 n s m (i : Int) kret k0 = bif okFrom s k i then k0 else kret
  | 0, m + 1, i, h, hm => by
    have c1 : decide ((i : Int) < (s.size : Int)) = false := decide_eq_false (by omega)
    simp only [f81L4, f81L4G, c1, cond_false, okFrom, cond_true]
  | k + 1, m + 1, i, h, hm => by
    have c1 : decide ((i : Int) < (s.size : Int)) = true := decide_eq_true (by omega)
    have c2 : decide ((0 : Int) ≤ (i : Int)) = true := decide_eq_true (by omega)
    have c3 : IntKind.i64.wrap ((i : Int) + 1) = ((i + 1 : Nat) : Int) := wrap_succ (by omega)
    have ih := f81_L n s hs kret k0 k m (i + 1) (by omega) (by omega)
    simp only [f81L4, f81L4G, c1, c2, c3, cond_true, chk_true, ih, okFrom]
    have e : ch s i = ((s.data.getD (Int.toNat (i : Int)) 0).toNat : Int) := by simp [ch]
    rw [e]
    generalize ((s.data.getD (Int.toNat (i : Int)) 0).toNat : Int) = c
    unfold okc f93
    simp only [bif_if]
    by_cases h1 : (48 : Int) ≤ c
    · by_cases h2 : c ≤ 57
      · simp [h1, h2]
      · by_cases h3 : c = 95
        · subst h3; simp
        · by_cases h4 : c < 97
          · have h5 : ¬ (97 : Int) ≤ c := by omega
            simp [h1, h2, h3, (ne95 h3).1, (ne95 h3).2, h4, h5]
          · have h5 : (97 : Int) ≤ c := by omega
            by_cases h6 : c > 122
            · have h7 : ¬ c ≤ 122 := by omega
              simp [h1, h2, h3, (ne95 h3).1, (ne95 h3).2, h4, h5, h6, h7]
            · have h7 : c ≤ 122 := by omega
              simp [h1, h2, h3, (ne95 h3).1, (ne95 h3).2, h4, h5, h6, h7]
    · have h3 : ¬ c = 95 := by omega
      have h4 : c < 97 := by omega
      have h5 : ¬ (97 : Int) ≤ c := by omega
      simp [h1, h3, (ne95 h3).1, (ne95 h3).2, h4, h5]
  | 0, 0, i, h, hm => absurd hm (by omega)
  | k + 1, 0, i, h, hm => absurd hm (by omega)
theorem f75_L (n : Nat) (s : ByteArray) (hs : s.size < 1000) (kret k0 : Option Bool) : ∀ (k m i : Nat), s.size = i + k → k < m → 1 ≤ i → f75L4 n s m (i : Int) kret k0 = bif okFrom s k i then k0 else kret
  | 0, m + 1, i, h, hm, hi => by
    have c1 : decide ((i : Int) < (s.size : Int)) = false := decide_eq_false (by omega)
    simp only [f75L4, f75L4G, c1, cond_false, okFrom, cond_true]
  | k + 1, m + 1, i, h, hm, hi => by
    have c1 : decide ((i : Int) < (s.size : Int)) = true := decide_eq_true (by omega)
    have c2 : decide ((0 : Int) ≤ (i : Int)) = true := decide_eq_true (by omega)
    have c3 : IntKind.i64.wrap ((i : Int) + 1) = ((i + 1 : Nat) : Int) := wrap_succ (by omega)
    have c4 : ((i : Int) == 0) = false := by simp; omega
    have ih := f75_L n s hs kret k0 k m (i + 1) (by omega) (by omega) (by omega)
    simp only [f75L4, f75L4G, c1, c2, c3, c4, cond_true, cond_false, chk_true, ih, okFrom]
    have e : ch s i = ((s.data.getD (Int.toNat (i : Int)) 0).toNat : Int) := by simp [ch]
    rw [e]
    generalize ((s.data.getD (Int.toNat (i : Int)) 0).toNat : Int) = c
    unfold okc f90
    simp only [bif_if]
    by_cases h1 : c ≥ 97
    · have h1' : (97 : Int) ≤ c := h1
      by_cases h2 : c ≤ 122
      · simp [h1', h2]
      · have h3 : ¬ c = 95 := by omega
        have h4 : ¬ c ≤ 57 := by omega
        have h5 : c ≥ 48 := by omega
        simp [h1', h2, h3, (ne95 h3).1, (ne95 h3).2, h4, h5]
    · have h1' : ¬ (97 : Int) ≤ c := h1
      by_cases h3 : c = 95
      · subst h3; simp
      · by_cases h4 : c ≥ 48
        · have h4' : (48 : Int) ≤ c := h4
          by_cases h5 : c ≤ 57
          · simp [h1', h3, (ne95 h3).1, (ne95 h3).2, h4', h5]
          · simp [h1', h3, (ne95 h3).1, (ne95 h3).2, h4', h5]
        · have h4' : ¬ (48 : Int) ≤ c := h4
          simp [h1', h3, (ne95 h3).1, (ne95 h3).2, h4']
  | 0, 0, i, h, hm, _ => absurd hm (by omega)
  | k + 1, 0, i, h, hm, _ => absurd hm (by omega)
def letter (c : Int) : Bool := decide (97 ≤ c) && decide (c ≤ 122)
def nameB (s : ByteArray) : Bool := decide (1 ≤ s.size) && decide (s.size ≤ 16) && letter (ch s 0) && okFrom s (s.size - 1) 1
theorem f75_eq {n : Nat} (hn : 200 ≤ n) (s : ByteArray) : f75 n s = some (nameB s) := by
  unfold f75 f75G nameB
  simp only [bif_if]
  by_cases h1 : (s.size : Int) < 1
  · have h1' : ¬ 1 ≤ s.size := by omega
    simp [h1, h1']
  by_cases h2 : (s.size : Int) > 16
  · have h2' : ¬ s.size ≤ 16 := by omega
    simp [h1, h2, h2']
  have h1' : 1 ≤ s.size := by omega
  have h2' : s.size ≤ 16 := by omega
  rw [if_neg h1, if_neg h2]
  have c1 : decide ((0 : Int) < (s.size : Int)) = true := decide_eq_true (by omega)
  have c3 : IntKind.i64.wrap ((0 : Int) + 1) = ((1 : Nat) : Int) := wrap_succ (j := 0) (by omega)
  have ih := f75_L n s (by omega) (some false) (some true) (s.size - 1) (n + 7) 1 (by omega) (by omega) (by omega)
  show f75L4 n s (n + 7 + 1) 0 (some false) (some true) = _
  have c2 : decide ((0 : Int) ≤ 0) = true := rfl
  have c4 : ((0 : Int) == 0) = true := rfl
  have d1 : decide (1 ≤ s.size) = true := decide_eq_true h1'
  have d2 : decide (s.size ≤ 16) = true := decide_eq_true h2'
  rw [d1, d2]
  have e : ch s 0 = ((s.data.getD (Int.toNat 0) 0).toNat : Int) := rfl
  rw [e]
  unfold f75L4 f75L4G
  simp only [c1, c2, c3, c4, cond_true, chk_true, ih]
  generalize ((s.data.getD (Int.toNat 0) 0).toNat : Int) = c
  generalize okFrom s (s.size - 1) 1 = q
  unfold letter
  simp only [bif_if, ge_iff_le, Bool.true_and]
  by_cases h3 : 97 ≤ c
  · by_cases h4 : c ≤ 122
    · cases q <;> simp [h3, h4]
    · simp [h3, h4]
  · simp [h3]
theorem nil_size (s : ByteArray) : (s.toList == (⟨#[]⟩ : ByteArray).toList) = decide (s.size = 0) := by
  rw [Bool.eq_iff_iff, beq_iff_eq, decide_eq_true_eq, ByteArray.toList_eq, ByteArray.toList_eq]
  obtain ⟨⟨l⟩⟩ := s
  cases l <;> simp [ByteArray.size]
theorem f81_eq {n : Nat} (hn : 200 ≤ n) (s : ByteArray) : f81 n s = some (nameB s) := by
  unfold f81 f81G nameB
  simp only [nil_size, bif_if]
  by_cases h1 : s.size = 0
  · have h1' : ¬ 1 ≤ s.size := by omega
    simp [h1]
  by_cases h2 : (s.size : Int) > 16
  · have h2' : ¬ s.size ≤ 16 := by omega
    simp [h1, h2, h2']
  have h1' : 1 ≤ s.size := by omega
  have h2' : s.size ≤ 16 := by omega
  rw [if_neg h1, if_neg h2]
  have c1 : decide ((0 : Int) < (s.size : Int)) = true := decide_eq_true (by omega)
  have e : ((s.data.getD 0 0).toNat : Int) = ch s 0 := rfl
  have ih := f81_L n s (by omega) (some false) (some true) s.size (n + 8) 0 (by omega) (by omega)
  have ih' : f81L4 n s (n + 8) 0 (some false) (some true) = bif okFrom s s.size 0 then some true else some false := ih
  obtain ⟨k, hk⟩ : ∃ k, s.size = k + 1 := ⟨s.size - 1, by omega⟩
  have hk' : s.size - 1 = k := by omega
  simp only [c1, chk_true, e, ih', h1', h2', decide_true, Bool.true_and, hk', letter]
  rw [hk, okFrom]
  have hq : okFrom s k 1 = okFrom s k (0 + 1) := rfl
  rw [hq]
  generalize okFrom s k (0 + 1) = q
  generalize ch s 0 = c
  unfold okc f93
  simp only [bif_if]
  by_cases h3 : c = 95
  · subst h3
    simp
  by_cases h4 : (48 : Int) ≤ c
  · by_cases h5 : c ≤ 57
    · have h6 : ¬ (97 : Int) ≤ c := by omega
      simp [h4, h5, h6]
    · by_cases h6 : (97 : Int) ≤ c
      · by_cases h7 : c ≤ 122 <;> cases q <;> simp [h3, h4, h5, h6, h7, (ne95 h3).1]
      · cases q <;> simp [h3, h4, h5, h6, (ne95 h3).1]
  · have h6 : ¬ (97 : Int) ≤ c := by omega
    cases q <;> simp [h3, h4, h6, (ne95 h3).1]
end Go.Proofs.Ytdhgbgbdnifonaa.Ev.Plain
