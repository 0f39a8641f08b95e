/- What the plain functions of the chapter about worth compute: sections, logs, their lengths, the wood in a rectangle. -/
import Derived.Test.YtdhgbgbdnifonaaFa
namespace Go.Proofs.Ytdhgbgbdnifonaa.Ev.Plain
set_option linter.unusedVariables false
set_option linter.unusedSimpArgs false
abbrev Pr := Int × Int
abbrev Slc := Int × Int × List Pr

theorem bif_if {α : Type} (p : Prop) [Decidable p] (a b : α) : (bif decide p then a else b) = if p then a else b := by
  by_cases h : p <;> simp [h]
theorem bif_b {α : Type} (c : Bool) (a b : α) : (bif c then a else b) = if c = true then a else b := by cases c <;> rfl
theorem len0 {α : Type} (l : List α) : (((l.length : Int) == 0) = true) ↔ l = [] := by
  simp only [beq_iff_eq]
  cases l
  · simp
  · simp
    omega
theorem small_any (n : Nat) (g) (kret k0 : Option Bool) : ∀ (r : List Slc) (j : Nat), f14L4F n g kret k0 r j = bif r.any (fun x => decide ((x.2.2.length : Int) > 130)) then kret else k0
  | [], j => rfl
  | x :: r, j => by
    simp only [f14L4F, f14L4B, small_any n g kret k0 r (j + 1), List.any_cons]
    cases decide ((x.2.2.length : Int) > 130) <;> rfl
/-- Is the input small? -/
def smallB (g : List Slc × List (Int × Int × Int × Int × Int × Int × Int) × ByteArray × Int × Int × Int × Int × List Int × List Int × Int) : Bool :=
  !(decide ((g.1.length : Int) > 30) || decide ((g.2.1.length : Int) > 70) || decide ((g.2.2.2.2.2.2.2.1.length : Int) > 10) || decide ((g.2.2.2.2.2.2.2.2.1.length : Int) > 10) || decide ((g.2.2.1.size : Int) > 100) || g.1.any (fun x => decide ((x.2.2.length : Int) > 130)))
theorem small_eq {n : Nat} (hn : 200 ≤ n) (g) : f14 n g = some (smallB g) := by
  unfold f14 f14G smallB
  cases c1 : decide ((g.1.length : Int) > 30)
  case true => rfl
  cases c2 : decide ((g.2.1.length : Int) > 70)
  case true => rfl
  cases c3 : decide ((g.2.2.2.2.2.2.2.1.length : Int) > 10)
  case true => rfl
  cases c4 : decide ((g.2.2.2.2.2.2.2.2.1.length : Int) > 10)
  case true => rfl
  cases c5 : decide ((g.2.2.1.size : Int) > 100)
  case true => rfl
  have h1 : g.1.length ≤ 30 := by have := of_decide_eq_false c1; omega
  rw [cond_false, cond_false, cond_false, cond_false, cond_false]
  dsimp only
  rw [f14L4_at n g _ _ (by omega) (by omega), small_any]
  cases g.1.any _ <;> rfl
theorem small_log {g} (h : smallB g = true) : g.1.length ≤ 30 := by
  unfold smallB at h
  simp at h
  omega

/-! ### Sections -/
def offB (x : Pr) : Bool := f58 x
def oddB (x : Pr) : Bool := f59 x && !((x.1 == 0) && ((x.2 == 0) && true))
def secCk (s : Int × List Pr) : Int :=
  bif decide ((s.2.length : Int) > 120) then 4 else bif decide (s.1 < -60) then 9 else bif decide (s.1 > 60 - (s.2.length : Int)) then 9 else bif s.2.any offB then 9 else
  bif ((s.2.length : Int) == 0) then (bif (s.1 != 0) then 19 else 0) else bif f59 (s.2.getD 0 (0, 0)) then 19 else bif f59 (s.2.getD (s.2.length - 1) (0, 0)) then 19 else bif s.2.any oddB then 19 else 0
theorem out_eq (x : Pr) : f58 x = (f88 x.1 || f88 x.2) := by
  obtain ⟨a, b⟩ := x
  unfold f58 f88
  simp only [bif_if]
  rw [Bool.eq_iff_iff]
  by_cases h : b < a
  · have h' : ¬ b > a := by omega
    simp only [h, h', if_true, if_false]
    by_cases h1 : a < -600 <;> by_cases h2 : b < -600 <;> simp [h1, h2] <;> omega
  · by_cases h' : b > a
    · simp only [h, h', if_true, if_false]
      by_cases h1 : a < -600 <;> by_cases h2 : b < -600 <;> simp [h1, h2] <;> omega
    · simp only [h, h', if_false]
      by_cases h1 : a < -600 <;> by_cases h2 : b < -600 <;> simp [h1, h2] <;> omega
theorem f43L7_any (n : Nat) (a0) (kret k0 : Option Int) : ∀ (r : List Pr) (j : Nat), f43L7F n a0 kret k0 r j = bif r.any offB then kret else k0
  | [], j => rfl
  | x :: r, j => by
    simp only [f43L7F, f43L7B, f43L7_any n a0 kret k0 r (j + 1), List.any_cons, offB]
    cases f58 x <;> rfl
theorem f73L7_any (n : Nat) (a0) (kret k0 : Option Int) : ∀ (r : List Pr) (j : Nat), f73L7F n a0 kret k0 r j = bif r.any offB then kret else k0
  | [], j => rfl
  | x :: r, j => by
    simp only [f73L7F, f73L7B, f73L7_any n a0 kret k0 r (j + 1), List.any_cons, offB, out_eq]
    cases f88 x.1 <;> cases f88 x.2 <;> rfl
theorem f43L19_any (n : Nat) (a0) (kret k0 : Option Int) : ∀ (r : List Pr) (j : Nat), f43L19F n a0 kret k0 r j = bif r.any oddB then kret else k0
  | [], j => rfl
  | x :: r, j => by
    simp only [f43L19F, f43L19B, f43L19_any n a0 kret k0 r (j + 1), List.any_cons, oddB]
    cases f59 x
    · rfl
    · cases ((x.1 == 0) && ((x.2 == 0) && true)) <;> rfl
theorem f73L18_any (n : Nat) (a0) (kret k0 : Option Int) : ∀ (r : List Pr) (j : Nat), f73L18F n a0 kret k0 r j = bif r.any oddB then kret else k0
  | [], j => rfl
  | x :: r, j => by
    have e : f79 x = f59 x := rfl
    simp only [f73L18F, f73L18B, f73L18_any n a0 kret k0 r (j + 1), List.any_cons, oddB, e]
    cases f59 x
    · rfl
    · cases ((x.1 == 0) && ((x.2 == 0) && true)) <;> rfl
theorem sec_core (rows : List Pr) (lo : Int) (lp7 lp19 : Option Int → Option Int → Option Int) (h7 : ∀ a b, lp7 a b = bif rows.any offB then a else b) (h19 : ∀ a b, lp19 a b = bif rows.any oddB then a else b) (hlen : rows.length ≤ 120) :
    lp7 (some 9) (bif ((rows.length : Int) == 0) then bif (lo != 0) then some 19 else some 0 else
      chk (decide ((0 : Int) < (rows.length : Int))) <| bif f59 (rows.getD 0 ((0 : Int), (0 : Int))) then some 19 else
      chk (decide ((0 : Int) ≤ IntKind.i64.wrap ((rows.length : Int) - 1))) <| chk (decide (IntKind.i64.wrap ((rows.length : Int) - 1) < (rows.length : Int))) <|
      bif f59 (rows.getD (Int.toNat (IntKind.i64.wrap ((rows.length : Int) - 1))) ((0 : Int), (0 : Int))) then some 19 else lp19 (some 19) (some 0))
    = some (bif rows.any offB then 9 else bif ((rows.length : Int) == 0) then (bif (lo != 0) then 19 else 0) else bif f59 (rows.getD 0 (0, 0)) then 19 else bif f59 (rows.getD (rows.length - 1) (0, 0)) then 19 else bif rows.any oddB then 19 else 0) := by
  rw [h7, h19]
  cases rows.any offB
  case true => rfl
  cases c : ((rows.length : Int) == 0)
  case true => cases (lo != 0) <;> rfl
  have hpos : rows.length ≠ 0 := by
    intro h
    rw [h] at c
    cases c
  have e1 : decide ((0 : Int) < (rows.length : Int)) = true := decide_eq_true (by omega)
  have e2 : IntKind.i64.wrap ((rows.length : Int) - 1) = ((rows.length - 1 : Nat) : Int) := by rw [wrap_of (by omega) (by omega)]; omega
  have e3 : decide ((0 : Int) ≤ ((rows.length - 1 : Nat) : Int)) = true := decide_eq_true (by omega)
  have e4 : decide (((rows.length - 1 : Nat) : Int) < (rows.length : Int)) = true := decide_eq_true (by omega)
  simp only [e1, e2, e3, e4, chk_true, cond_false, Int.toNat_natCast]
  cases f59 (rows.getD 0 (0, 0))
  case true => rfl
  cases f59 (rows.getD (rows.length - 1) (0, 0))
  case true => rfl
  cases rows.any oddB <;> rfl
theorem f43_eq {n : Nat} (hn : 200 ≤ n) (s : Int × List Pr) : f43 n s = some (secCk s) := by
  unfold f43 f43G secCk
  cases c1 : decide ((s.2.length : Int) > 120)
  case true => rfl
  have h1 : s.2.length ≤ 120 := by have := of_decide_eq_false c1; omega
  cases c2 : decide (s.1 < -60)
  case true => rfl
  have e : IntKind.i64.wrap ((60 : Int) - (s.2.length : Int)) = 60 - (s.2.length : Int) := wrap_of (by omega) (by omega)
  simp only [e, cond_false]
  cases c3 : decide (s.1 > 60 - (s.2.length : Int))
  case true => rfl
  simp only [cond_false]
  exact sec_core s.2 s.1 (fun a b => f43L7 n s (n + 8) 0 a b) (fun a b => f43L19 n s (n + 8) 0 a b) (fun a b => by rw [f43L7_at n s a b (by omega) (by omega), f43L7_any]) (fun a b => by rw [f43L19_at n s a b (by omega) (by omega), f43L19_any]) h1
theorem f73_eq {n : Nat} (hn : 200 ≤ n) (s : Int × List Pr) : f73 n s = some (secCk s) := by
  unfold f73 f73G secCk
  cases c1 : decide ((s.2.length : Int) > 120)
  case true => rfl
  have h1 : s.2.length ≤ 120 := by have := of_decide_eq_false c1; omega
  cases c2 : decide (s.1 < -60)
  case true => rfl
  have e : IntKind.i64.wrap ((60 : Int) - (s.2.length : Int)) = 60 - (s.2.length : Int) := wrap_of (by omega) (by omega)
  simp only [e, cond_false]
  cases c3 : decide (s.1 > 60 - (s.2.length : Int))
  case true => rfl
  simp only [cond_false]
  exact sec_core s.2 s.1 (fun a b => f73L7 n s (n + 8) 0 a b) (fun a b => f73L18 n s (n + 8) 0 a b) (fun a b => by rw [f73L7_at n s a b (by omega) (by omega), f73L7_any]) (fun a b => by rw [f73L18_at n s a b (by omega) (by omega), f73L18_any]) h1
/-- A valid section. -/
theorem sec_ok {s : Int × List Pr} (h : secCk s = 0) : s.2.length ≤ 120 ∧ -60 ≤ s.1 ∧ s.1 ≤ 60 - (s.2.length : Int) ∧ ∀ x ∈ s.2, -600 ≤ x.1 ∧ x.1 ≤ 600 ∧ -600 ≤ x.2 ∧ x.2 ≤ 600 := by
  unfold secCk at h
  cases c1 : decide ((s.2.length : Int) > 120)
  case true => rw [c1] at h; cases h
  rw [c1, cond_false] at h
  cases c2 : decide (s.1 < -60)
  case true => rw [c2] at h; cases h
  rw [c2, cond_false] at h
  cases c3 : decide (s.1 > 60 - (s.2.length : Int))
  case true => rw [c3] at h; cases h
  rw [c3, cond_false] at h
  cases c4 : s.2.any offB
  case true => rw [c4] at h; cases h
  have d1 := of_decide_eq_false c1
  have d2 := of_decide_eq_false c2
  have d3 := of_decide_eq_false c3
  refine ⟨by omega, by omega, by omega, fun x hx => ?_⟩
  have := (List.any_eq_false.1 c4) x hx
  simp only [offB, out_eq, f88, bif_if, Bool.or_eq_true, not_or] at this
  obtain ⟨t1, t2⟩ := this
  split at t1 <;> split at t2 <;> simp at t1 t2 <;> omega

/-! ### Logs -/
def lck : List Slc → Int → Int
  | [], _ => 0
  | x :: r, s => if secCk x.2 ≠ 0 then secCk x.2 else if x.2.2.length = 0 then 18 else if x.1 < 1 then 9 else if x.1 > 20000 - s then 9 else lck r (s + x.1)
def logCk (l : List Slc) : Int := if l.length = 0 then 3 else if l.length > 24 then 4 else lck l 0
theorem f25L7_lck {n : Nat} (hn : 200 ≤ n) (l : List Slc) : ∀ (r : List Slc) (j : Nat) (s : Int), 0 ≤ s → s ≤ 20000 → f25L7F n l (fun v => some v) (some 0) r j (20000 - s) = some (lck r s)
  | [], j, s, _, _ => rfl
  | x :: r, j, s, h0, h1 => by
    simp only [f25L7F, f25L7B, f43_eq hn, Option.isSome_some, Option.getD_some, chk_true, lck]
    by_cases c1 : secCk x.2 = 0
    · have e1 : (secCk x.2 != 0) = false := by simp [c1]
      rw [e1, cond_false, if_neg (by simp [c1])]
      by_cases c2 : x.2.2.length = 0
      · rw [if_pos c2]
        simp [c2]
      · rw [if_neg c2]
        have e2 : ((x.2.2.length : Int) == 0) = false := by simp; intro h; simp [h] at c2
        rw [e2, cond_false]
        simp only [bif_if]
        by_cases c3 : x.1 < 1
        · rw [if_pos c3, if_pos c3]
        · rw [if_neg c3, if_neg c3]
          by_cases c4 : x.1 > 20000 - s
          · rw [if_pos c4, if_pos c4]
          · rw [if_neg c4, if_neg c4, wrap_of (by omega) (by omega)]
            have := f25L7_lck hn l r (j + 1) (s + x.1) (by omega) (by omega)
            rw [← this]
            congr 1
            omega
    · have e1 : (secCk x.2 != 0) = true := by simp [c1]
      rw [e1, cond_true, if_pos c1]
theorem f25_eq {n : Nat} (hn : 200 ≤ n) (l : List Slc) : f25 n l = some (logCk l) := by
  unfold f25 f25G logCk
  by_cases c1 : l.length = 0
  · have e1 : ((l.length : Int) == 0) = true := by simp; exact List.length_eq_zero_iff.1 c1
    rw [e1, cond_true, if_pos c1]
  · have e1 : ((l.length : Int) == 0) = false := by simp; intro h; simp [h] at c1
    rw [e1, cond_false, if_neg c1, bif_if]
    by_cases c2 : (l.length : Int) > 24
    · rw [if_pos c2, if_pos (by omega)]
    · rw [if_neg c2, if_neg (by omega)]
      dsimp only
      rw [f25L7_at n l _ _ (by omega) (by omega)]
      exact f25L7_lck hn l l 0 0 (by omega) (by omega)
theorem f54L7_lck {n : Nat} (hn : 200 ≤ n) (l : List Slc) : ∀ (r : List Slc) (j : Nat) (s : Int), 0 ≤ s → s ≤ 20000 → f54L7F n l (fun v => some v) (some 0) r j s = some (lck r s)
  | [], j, s, _, _ => rfl
  | x :: r, j, s, h0, h1 => by
    simp only [f54L7F, f54L7B, f73_eq hn, Option.isSome_some, Option.getD_some, chk_true, lck]
    by_cases c1 : secCk x.2 = 0
    · have e1 : (secCk x.2 != 0) = false := by simp [c1]
      rw [e1, cond_false, if_neg (by simp [c1])]
      by_cases c2 : x.2.2.length = 0
      · rw [if_pos c2]
        simp [c2]
      · rw [if_neg c2]
        have e2 : ((x.2.2.length : Int) == 0) = false := by simp; intro h; simp [h] at c2
        rw [e2, cond_false]
        simp only [bif_if]
        have e3 : IntKind.i64.wrap (20000 - s) = 20000 - s := wrap_of (by omega) (by omega)
        rw [e3]
        by_cases c3 : x.1 < 1
        · rw [if_pos c3, if_pos c3]
        · rw [if_neg c3, if_neg c3]
          by_cases c4 : x.1 > 20000 - s
          · rw [if_pos c4, if_pos c4]
          · rw [if_neg c4, if_neg c4, wrap_of (by omega) (by omega)]
            exact f54L7_lck hn l r (j + 1) (s + x.1) (by omega) (by omega)
    · have e1 : (secCk x.2 != 0) = true := by simp [c1]
      rw [e1, cond_true, if_pos c1]
theorem f54_eq {n : Nat} (hn : 200 ≤ n) (l : List Slc) : f54 n l = some (logCk l) := by
  unfold f54 f54G logCk
  by_cases c1 : l.length = 0
  · have e1 : ((l.length : Int) == 0) = true := by simp; exact List.length_eq_zero_iff.1 c1
    rw [e1, cond_true, if_pos c1]
  · have e1 : ((l.length : Int) == 0) = false := by simp; intro h; simp [h] at c1
    rw [e1, cond_false, if_neg c1, bif_if]
    by_cases c2 : (l.length : Int) > 24
    · rw [if_pos c2, if_pos (by omega)]
    · rw [if_neg c2, if_neg (by omega)]
      dsimp only
      rw [f54L7_at n l _ _ (by omega) (by omega)]
      exact f54L7_lck hn l l 0 0 (by omega) (by omega)
/-- The slices of a valid log from s on. -/
def LogOk : List Slc → Int → Prop
  | [], _ => True
  | x :: r, s => secCk x.2 = 0 ∧ x.2.2 ≠ [] ∧ 1 ≤ x.1 ∧ s + x.1 ≤ 20000 ∧ LogOk r (s + x.1)
theorem lck_ok : ∀ {r : List Slc} {s : Int}, lck r s = 0 → LogOk r s
  | [], _, _ => trivial
  | x :: r, s, h => by
    unfold lck at h
    split at h
    · contradiction
    · rename_i c1
      split at h
      · cases h
      · rename_i c2
        split at h
        · cases h
        · split at h
          · cases h
          · refine ⟨by simpa using c1, fun e => c2 (by rw [e]; rfl), by omega, by omega, lck_ok h⟩
theorem logCk_ok {l : List Slc} (h : logCk l = 0) : l ≠ [] ∧ l.length ≤ 24 ∧ LogOk l 0 := by
  unfold logCk at h
  split at h
  · cases h
  · rename_i c1
    split at h
    · cases h
    · exact ⟨fun e => c1 (by rw [e]; rfl), by omega, lck_ok h⟩
def total : List Slc → Int
  | [] => 0
  | x :: r => x.1 + total r
theorem total_le : ∀ {r : List Slc} {s : Int}, LogOk r s → 0 ≤ s → s ≤ 20000 → 0 ≤ total r ∧ s + total r ≤ 20000
  | [], s, _, h0, h1 => by simp [total]; omega
  | x :: r, s, h, h0, h1 => by
    obtain ⟨_, _, a, b, c⟩ := h
    have := total_le c (by omega) (by omega)
    simp only [total]
    omega
/-- The parts of the slices in a span. -/
def prt (z : Pr) : List Slc → Int → List (Int × Int × Int × List Pr)
  | [], _ => []
  | x :: r, at_ => if (f60 (at_, at_ + x.1) z).1 < (f60 (at_, at_ + x.1) z).2 then ((f60 (at_, at_ + x.1) z).1, (f60 (at_, at_ + x.1) z).2, x.2.1, x.2.2) :: prt z r (at_ + x.1) else prt z r (at_ + x.1)
theorem f44L6_prt {n : Nat} (l : List Slc) (z : Pr) (k0) : ∀ (r : List Slc) (j : Nat) (s : Int) (acc : List (Int × Int × Int × List Pr)), LogOk r s → 0 ≤ s → s ≤ 20000 → acc.length + r.length < 1000 → f44L6F n l z k0 r j s acc = k0 (acc ++ prt z r s)
  | [], j, s, acc, _, _, _, _ => by simp [f44L6F, prt]
  | x :: r, j, s, acc, h, h0, h1, hl => by
    obtain ⟨_, _, a, b, c⟩ := h
    simp only [List.length_cons] at hl
    have e1 : IntKind.i64.wrap (s + x.1) = s + x.1 := wrap_of (by omega) (by omega)
    have e2 : decide (acc.length < 68719476736) = true := decide_eq_true (by omega)
    simp only [f44L6F, f44L6B, e1, e2, chk_true, bif_if, prt]
    split
    · rw [f44L6_prt l z k0 r (j + 1) (s + x.1) _ c (by omega) (by omega) (by simp; omega), List.append_assoc]
      rfl
    · rw [f44L6_prt l z k0 r (j + 1) (s + x.1) _ c (by omega) (by omega) (by omega)]
theorem f44_eq {n : Nat} (hn : 200 ≤ n) (l : List Slc) (z : Pr) : f44 n l z = some (if logCk l ≠ 0 then [] else prt z l 0) := by
  unfold f44 f44G
  simp only [f25_eq hn, Option.isSome_some, Option.getD_some, chk_true]
  by_cases c : logCk l = 0
  · obtain ⟨h1, h2, h3⟩ := logCk_ok c
    have e : (logCk l != 0) = false := by simp [c]
    rw [e, cond_false, if_neg (by simp [c]), f44L6_at n l z _ (by omega) (by omega), f44L6_prt l z _ l 0 0 [] h3 (by omega) (by omega) (by simp; omega)]
    rfl
  · have e : (logCk l != 0) = true := by simp [c]
    rw [e, cond_true, if_pos c]
theorem f78_eq (x : Pr) : f78 x = decide (x.1 ≥ x.2) := rfl
theorem meet_whole {a b : Int} (h0 : 0 ≤ a) (h1 : a < b) (h2 : b ≤ 20000) : f60 (a, b) (0, 20000) = (a, b) := by
  unfold f60
  simp only [f78_eq, bif_if]
  have e1 : (if (0 : Int) > a then (0 : Int) else a) = a := by split <;> omega
  have e2 : (if (20000 : Int) < b then (20000 : Int) else b) = b := by split <;> omega
  rw [e1, e2, if_neg (by omega), if_neg (by omega), if_neg (by omega)]
theorem prt_whole : ∀ (r : List Slc) (s : Int), LogOk r s → 0 ≤ s → s ≤ 20000 → (prt (0, 20000) r s).length = r.length ∧ (r ≠ [] → ((prt (0, 20000) r s).getD ((prt (0, 20000) r s).length - 1) (0, 0, 0, [])).2.1 = s + total r)
  | [], s, _, _, _ => ⟨rfl, fun h => absurd rfl h⟩
  | x :: r, s, h, h0, h1 => by
    obtain ⟨_, _, a, b, c⟩ := h
    have hm := meet_whole (a := s) (b := s + x.1) h0 (by omega) b
    obtain ⟨i1, i2⟩ := prt_whole r (s + x.1) c (by omega) (by omega)
    have he : prt (0, 20000) (x :: r) s = (s, s + x.1, x.2.1, x.2.2) :: prt (0, 20000) r (s + x.1) := by
      simp only [prt, hm]
      rw [if_pos (by omega)]
    rw [he]
    refine ⟨by simp [i1], fun _ => ?_⟩
    cases r with
    | nil => simp [prt, total]
    | cons y r =>
      have := i2 (by simp)
      simp only [List.length_cons] at this i1 ⊢
      rw [i1] at this ⊢
      simp only [Nat.add_sub_cancel] at this ⊢
      rw [List.getD_cons_succ, this]
      simp only [total]
      omega
theorem f27_eq {n : Nat} (hn : 200 ≤ n) (l : List Slc) : f27 n l = some (if logCk l ≠ 0 then 0 else total l) := by
  unfold f27 f27G
  simp only [f44_eq hn, Option.isSome_some, Option.getD_some, chk_true]
  by_cases c : logCk l = 0
  · obtain ⟨h1, h2, h3⟩ := logCk_ok c
    rw [if_neg (by simp [c]), if_neg (by simp [c])]
    obtain ⟨i1, i2⟩ := prt_whole l 0 h3 (by omega) (by omega)
    have i3 := i2 h1
    have f45' : f45 = (0, 20000) := rfl
    rw [f45']
    generalize prt (0, 20000) l 0 = q at i1 i3
    have hpos : 0 < l.length := List.length_pos_iff.2 h1
    have e1 : ((q.length : Int) == 0) = false := by simp; intro h; rw [h] at i1; simp at i1; omega
    have e2 : IntKind.i64.wrap ((q.length : Int) - 1) = ((q.length - 1 : Nat) : Int) := by rw [wrap_of (by omega) (by omega)]; omega
    have e3 : decide ((0 : Int) ≤ ((q.length - 1 : Nat) : Int)) = true := decide_eq_true (by omega)
    have e4 : decide (((q.length - 1 : Nat) : Int) < (q.length : Int)) = true := decide_eq_true (by omega)
    simp only [e1, e2, e3, e4, chk_true, cond_false, Int.toNat_natCast]
    rw [i3]
    simp
  · rw [if_pos c, if_pos c]
    rfl
theorem f42L5_tot {n : Nat} (l : List Slc) (k0) : ∀ (r : List Slc) (j : Nat) (s : Int), LogOk r s → 0 ≤ s → s ≤ 20000 → f42L5F n l k0 r j s = k0 (s + total r)
  | [], j, s, _, _, _ => by simp [f42L5F, total]
  | x :: r, j, s, h, h0, h1 => by
    obtain ⟨_, _, a, b, c⟩ := h
    have e1 : IntKind.i64.wrap (s + x.1) = s + x.1 := wrap_of (by omega) (by omega)
    simp only [f42L5F, f42L5B, e1]
    rw [f42L5_tot l k0 r (j + 1) (s + x.1) c (by omega) (by omega)]
    simp only [total]
    congr 1
    omega
theorem f42_eq {n : Nat} (hn : 200 ≤ n) (l : List Slc) : f42 n l = some (if logCk l ≠ 0 then 0 else total l) := by
  unfold f42 f42G
  simp only [f54_eq hn, Option.isSome_some, Option.getD_some, chk_true]
  by_cases c : logCk l = 0
  · obtain ⟨h1, h2, h3⟩ := logCk_ok c
    have e : (logCk l != 0) = false := by simp [c]
    rw [e, cond_false, if_neg (by simp [c]), f42L5_at n l _ (by omega) (by omega), f42L5_tot l _ l 0 0 h3 (by omega) (by omega)]
    simp
  · have e : (logCk l != 0) = true := by simp [c]
    rw [e, cond_true, if_pos c]
end Go.Proofs.Ytdhgbgbdnifonaa.Ev.Plain
