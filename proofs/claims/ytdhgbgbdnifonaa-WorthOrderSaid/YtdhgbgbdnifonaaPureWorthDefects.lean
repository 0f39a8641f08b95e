/- A further defect or a greater deduction never makes a board of a box that was none, nor a board worth more. -/
import Derived.Test.YtdhgbgbdnifonaaPureWorthAccepts
namespace Go.Proofs.Ytdhgbgbdnifonaa.Ev.Plain
set_option linter.unusedVariables false
set_option linter.unusedSimpArgs false
theorem dckL_append (x : Def) : ∀ (d : List Def), dckL (d ++ [x]) = 0 → dckL d = 0
  | [], _ => rfl
  | y :: r, h => by
    simp only [List.cons_append, dckL] at h ⊢
    by_cases c : f80 y = 0
    · rw [if_neg (by simp [c])] at h ⊢
      exact dckL_append x r h
    · rw [if_pos c] at h
      exact absurd h c
theorem dCk_append {d : List Def} {x : Def} (h : dCk (d ++ [x]) = 0) : dCk d = 0 ∧ d.length ≤ 63 := by
  unfold dCk at h ⊢
  simp only [List.length_append, List.length_singleton] at h
  split at h
  · cases h
  · rename_i c
    rw [if_neg (by omega)]
    exact ⟨dckL_append x d h, by omega⟩
def cntT (b : Box) : List Def → Int
  | [] => 0
  | x :: r => (bif f70 x b then 1 else 0) + cntT b r
theorem cntT_bd (b : Box) : ∀ d : List Def, 0 ≤ cntT b d ∧ cntT b d ≤ d.length
  | [] => by simp [cntT]
  | x :: r => by
    have := cntT_bd b r
    simp only [cntT, List.length_cons]
    cases f70 x b <;> simp <;> omega
theorem valF_eq (b : Box) {fine : Int} (h0 : 0 ≤ fine) (h1 : fine ≤ 1000000) (d : List Def) : ∀ (v : Int), v ≤ 1000000 → 0 ≤ v + 1000000000000 - 1000000 * (d.length : Int) → valF b fine d v = v - fine * cntT b d := by
  induction d with
  | nil =>
    intro v _ _
    simp only [valF, cntT, Int.mul_zero, Int.sub_zero]
  | cons x r ih =>
    intro v h2 h3
    simp only [List.length_cons] at h3
    simp only [valF, cntT]
    cases f70 x b
    · rw [cond_false, cond_false, ih v h2 (by omega), Int.zero_add]
    · rw [cond_true, cond_true, wrap_of (by omega) (by omega), ih (v - fine) (by omega) (by omega), Int.mul_add, Int.mul_one]
      omega
theorem valF_append (b : Box) (fine : Int) (x : Def) : ∀ (d : List Def) (v : Int), valF b fine (d ++ [x]) v = valF b fine [x] (valF b fine d v)
  | [], v => rfl
  | y :: r, v => by simp only [List.cons_append, valF, valF_append b fine x r]
theorem prF_bd {p : Pro} (hp : p.2.2.2.2.2.2.any dearB = false) (x : Int) : ∀ (r : List Int) (j : Nat), 0 ≤ (prF p x r j).1 ∧ (prF p x r j).1 ≤ 1000000
  | [], j => by simp [prF]
  | y :: r, j => by
    simp only [prF]
    split
    · split
      · simp
      · rename_i h
        have hj : j < p.2.2.2.2.2.2.length := by omega
        have hm : p.2.2.2.2.2.2.getD j 0 ∈ p.2.2.2.2.2.2 := by
          rw [List.getD_eq_getElem?_getD, List.getElem?_eq_getElem hj]
          exact List.getElem_mem _
        have := (List.any_eq_false.1 hp) _ hm
        simp only [dearB, Bool.or_eq_true, decide_eq_true_eq, not_or] at this
        simp only
        omega
    · exact prF_bd hp x r (j + 1)
theorem price_bd {p : Pro} (h : pCk p = 0) (x : Int) : 0 ≤ (priceOf p x).1 ∧ (priceOf p x).1 ≤ 1000000 := by
  unfold pCk at h
  cases c1 : nameB p.1
  · rw [c1] at h; cases h
  rw [c1] at h
  cases c2 : sizedB p
  · rw [c2] at h; cases h
  rw [c2] at h
  simp only [Bool.not_true, cond_false] at h
  unfold lCk at h
  split at h
  · cases h
  · split at h
    · cases h
    · split at h
      · cases h
      · split at h
        · contradiction
        · cases hd : p.2.2.2.2.2.2.any dearB
          · exact prF_bd hd x _ 0
          · rw [hd] at h; cases h
theorem worth_yes {l : List Slc} {d : List Def} {p : Pro} {b : Box} {fine : Int} (h : (worthOf l d p b fine).2 = true) : (worthOf l d p b fine).1 = max 0 ((priceOf p (b.2.2.2.2.2 - b.2.2.2.2.1)).1 - fine * cntT b d) := by
  obtain ⟨hf, hr, hs⟩ := worth_ok.1 h
  have hd : d.length ≤ 64 := by
    have := hr.dc
    unfold dCk at this
    split at this
    · cases this
    · omega
  have hp := price_bd hr.pc (b.2.2.2.2.2 - b.2.2.2.2.1)
  unfold worthOf lookW
  rw [if_pos ⟨hf, hr⟩, if_pos hs]
  have e : boxAt (rectOf b) b.2.2.2.2 = b := rfl
  simp only [worthAt, e]
  rw [valF_eq b hf.1 hf.2 d _ hp.2 (by omega)]
  split <;> omega
theorem worth_no {l : List Slc} {d : List Def} {p : Pro} {b : Box} {fine : Int} (h : (worthOf l d p b fine).2 = false) : (worthOf l d p b fine).1 = 0 := by
  unfold worthOf lookW at h ⊢
  split at h
  · rename_i k1
    rw [if_pos k1]
    split at h
    · cases h
    · rename_i k2
      rw [if_neg k2]
  · rename_i k1
    rw [if_neg k1]
theorem WorthDefects : WorthDefectsLaw := by
  intro g b g' _ _ _
  refine ⟨200, ?_⟩
  have hn := Nat.le_refl 200
  unfold f8 f8G
  simp only [small_eq hn, Option.isSome_some, Option.getD_some, chk_true]
  cases hs : smallB g
  · rfl
  have hlen : g.2.2.2.2.2.2.2.1.length ≤ 10 ∧ g.2.1.length ≤ 70 := by
    unfold smallB at hs
    simp at hs
    omega
  simp only [Bool.not_true, cond_false, bif_if]
  by_cases h1 : (g.2.1.length : Int) ≥ 64
  · rw [if_pos h1]
  rw [if_neg h1]
  by_cases h2 : g'.2.1.length = 0
  · have e : ((g'.2.1.length : Int) == 0) = true := by rw [h2]; rfl
    rw [e, cond_true]
  have e2 : ((g'.2.1.length : Int) == 0) = false := by simp only [beq_eq_false_iff_ne, ne_eq]; omega
  rw [e2, cond_false]
  by_cases h3 : (g'.2.1.length : Int) > 70
  · rw [if_pos h3]
  rw [if_neg h3]
  have e24 := f24_eq (n := 200) (proOf g) (by simp only [proOf]; omega) (by simp only [proOf]; omega) (IntKind.i64.wrap (b.2.2.2.2.2 - b.2.2.2.2.1))
  simp only [proOf] at e24
  have c0 : decide (([] : List Def).length < 68719476736) = true := rfl
  have c1 : decide (g.2.1.length < 68719476736) = true := decide_eq_true (by omega)
  have c2 : decide ((0 : Int) < (g'.2.1.length : Int)) = true := decide_eq_true (by omega)
  have ep : ((g.2.2.1, g.2.2.2.1, g.2.2.2.2.1, g.2.2.2.2.2.1, g.2.2.2.2.2.2.1, g.2.2.2.2.2.2.2.1, g.2.2.2.2.2.2.2.2.1) : Pro) = proOf g := rfl
  simp only [f17_eq hn, e24, Option.isSome_some, Option.getD_some, chk_true, c0, c1, c2, List.nil_append, ep]
  generalize hx : g'.2.1.getD 0 ((0 : Int), (0 : Int), (0 : Int), (0 : Int), (0 : Int), (0 : Int), (0 : Int)) = x
  have b1 := @worth_no g.1 g.2.1 (proOf g) b g.2.2.2.2.2.2.2.2.2
  have b2 := @worth_yes g.1 g.2.1 (proOf g) b g.2.2.2.2.2.2.2.2.2
  have b3 := @worth_yes g.1 (g.2.1 ++ [x]) (proOf g) b g.2.2.2.2.2.2.2.2.2
  have b4 := @worth_yes g.1 g.2.1 (proOf g) b g'.2.2.2.2.2.2.2.2.2
  have k1 : (worthOf g.1 g.2.1 (proOf g) b g.2.2.2.2.2.2.2.2.2).2 = true → (priceOf (proOf g) (IntKind.i64.wrap (b.2.2.2.2.2 - b.2.2.2.2.1))).2 = true ∧ 0 ≤ (worthOf g.1 g.2.1 (proOf g) b g.2.2.2.2.2.2.2.2.2).1 ∧ (worthOf g.1 g.2.1 (proOf g) b g.2.2.2.2.2.2.2.2.2).1 ≤ (priceOf (proOf g) (IntKind.i64.wrap (b.2.2.2.2.2 - b.2.2.2.2.1))).1 := by
    intro h
    obtain ⟨hf, hr, hs'⟩ := worth_ok.1 h
    obtain ⟨g1, g2, g3⟩ := logCk_ok hr.lc
    have ht := total_le g3 (by omega) (by omega)
    have hz := hs'.z0
    have hz1 := hs'.z1
    have hz2 := hs'.z2
    have e6 : IntKind.i64.wrap (b.2.2.2.2.2 - b.2.2.2.2.1) = b.2.2.2.2.2 - b.2.2.2.2.1 := wrap_of (by omega) (by omega)
    have hp := price_bd hr.pc (b.2.2.2.2.2 - b.2.2.2.2.1)
    have hc := cntT_bd b g.2.1
    have hm := Int.mul_nonneg hf.1 hc.1
    rw [e6, b2 h]
    exact ⟨hs'.c, by omega, by omega⟩
  have k2 : (worthOf g.1 (g.2.1 ++ [x]) (proOf g) b g.2.2.2.2.2.2.2.2.2).2 = true → (worthOf g.1 g.2.1 (proOf g) b g.2.2.2.2.2.2.2.2.2).2 = true ∧ (worthOf g.1 (g.2.1 ++ [x]) (proOf g) b g.2.2.2.2.2.2.2.2.2).1 ≤ (worthOf g.1 g.2.1 (proOf g) b g.2.2.2.2.2.2.2.2.2).1 := by
    intro h
    obtain ⟨hf, hr, hs'⟩ := worth_ok.1 h
    have hd := dCk_append hr.dc
    have ht := hs'.t
    rw [List.any_append, Bool.or_eq_false_iff] at ht
    have hok : (worthOf g.1 g.2.1 (proOf g) b g.2.2.2.2.2.2.2.2.2).2 = true := worth_ok.2 ⟨hf, ⟨hd.1, hr.pc, hr.lc, hr.ac, hr.sc⟩, ⟨hs'.z0, hs'.z1, hs'.z2, hs'.c, hs'.w, ht.1⟩⟩
    refine ⟨hok, ?_⟩
    rw [b3 h, b2 hok]
    have hcn : cntT b (g.2.1 ++ [x]) = cntT b g.2.1 + cntT b [x] := by
      have : ∀ d : List Def, cntT b (d ++ [x]) = cntT b d + cntT b [x] := by
        intro d
        induction d with
        | nil => simp [cntT]
        | cons y r ih => simp only [List.cons_append, cntT, ih]; omega
      exact this _
    rw [hcn, Int.mul_add]
    have := Int.mul_nonneg hf.1 (cntT_bd b [x]).1
    omega
  have k3 : (worthOf g.1 g.2.1 (proOf g) b g'.2.2.2.2.2.2.2.2.2).2 = true → (worthOf g.1 g.2.1 (proOf g) b g.2.2.2.2.2.2.2.2.2).2 = true → g'.2.2.2.2.2.2.2.2.2 ≥ g.2.2.2.2.2.2.2.2.2 → (worthOf g.1 g.2.1 (proOf g) b g'.2.2.2.2.2.2.2.2.2).1 ≤ (worthOf g.1 g.2.1 (proOf g) b g.2.2.2.2.2.2.2.2.2).1 := by
    intro h h' hge
    rw [b4 h, b2 h']
    have := Int.mul_le_mul_of_nonneg_right hge (cntT_bd b g.2.1).1
    omega
  clear b2 b3 b4
  generalize worthOf g.1 g.2.1 (proOf g) b g.2.2.2.2.2.2.2.2.2 = A at *
  generalize worthOf g.1 (g.2.1 ++ [x]) (proOf g) b g.2.2.2.2.2.2.2.2.2 = B at *
  generalize worthOf g.1 g.2.1 (proOf g) b g'.2.2.2.2.2.2.2.2.2 = D at *
  generalize priceOf (proOf g) (IntKind.i64.wrap (b.2.2.2.2.2 - b.2.2.2.2.1)) = p at *
  cases hA : A.2
  · have e1 : (A.1 != 0) = false := by simp [b1 hA]
    have hB : B.2 = false := by
      cases hB : B.2
      · rfl
      · have := (k2 hB).1
        rw [hA] at this
        cases this
    simp only [Bool.not_false, cond_true, cond_false, e1, hB]
    cases D.2 <;> rfl
  · obtain ⟨q1, q2, q3⟩ := k1 hA
    have q4 : ¬ A.1 < 0 := by omega
    have q5 : ¬ A.1 > p.1 := by omega
    simp only [Bool.not_true, cond_true, cond_false, q1, if_neg q4, if_neg q5]
    have tail : (bif D.2 then if g'.2.2.2.2.2.2.2.2.2 ≥ g.2.2.2.2.2.2.2.2.2 then if D.1 > A.1 then some false else some true else some true else some true) = some true := by
      cases hD : D.2
      · rfl
      · rw [cond_true]
        split
        · rename_i hge
          have := k3 hD hA hge
          rw [if_neg (by omega)]
        · rfl
    cases hB : B.2
    · exact tail
    · have := (k2 hB).2
      rw [cond_true, if_neg (by omega)]
      exact tail
end Go.Proofs.Ytdhgbgbdnifonaa.Ev.Plain
