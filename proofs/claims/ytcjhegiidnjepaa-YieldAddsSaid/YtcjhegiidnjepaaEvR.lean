/- Regions that draw their order. -/
import Derived.Test.YtcjhegiidnjepaaEvQ
namespace Go.Proofs.Ytcjhegiidnjepaa.Ev
open Go.RowKit
set_option linter.unusedVariables false
set_option linter.unusedSimpArgs false

def addL (L : Nat → Bool) (i : Nat) : Nat → Bool := fun j => L j || Nat.beq j i
theorem addL_self (L : Nat → Bool) (i : Nat) : addL L i i = true := by simp [addL]
theorem addL_ne {L : Nat → Bool} {i j : Nat} (h : j ≠ i) : addL L i j = L j := by simp [addL, beq_ne h]
section
variable {L : Nat → Bool} {ex : Nat → Option Eff}
/-- One more operation, at its place in the text, or last: the same. -/
theorem stepT {ops : List Oper} {i : Nat} {o : Oper} {s : Sx} {t : Nat} (hi : ops[i]? = some o) (hd : ∀ o ∈ ops, ∀ n, o.dst = some n → n < 4095) (hne : ∀ j o', ops[j]? = some o' → j ≠ i → ∀ n, o.dst = some n → o'.dst ≠ some n) :
    look (stOf (addL L i) ex ops 0 s).tm t = look (app (ex i) o.dst (stOf L ex ops 0 s)).tm t := by
  have hod : ∀ n, o.dst = some n → n < 4095 := hd o (List.mem_of_getElem? hi)
  rw [app_T t hod]
  by_cases ht : o.dst = some t
  · rw [if_pos ht]
    -- only i writes t
    have key : ∀ (l : List Oper) (k : Nat) (s : Sx), (∀ o ∈ l, ∀ n, o.dst = some n → n < 4095) → (∀ j o', l[j]? = some o' → k + j ≠ i → o'.dst ≠ some t) → (∀ j o', l[j]? = some o' → k + j = i → o' = o) → ((∃ j, j < l.length ∧ k + j = i) ∨ look s.tm t = valOf (ex i)) → look (stOf (addL L i) ex l k s).tm t = valOf (ex i) := by
      intro l
      induction l with
      | nil => intro k s _ _ _ h; exact h.resolve_left (by rintro ⟨j, hj, _⟩; simp at hj)
      | cons o' r ih =>
        intro k s hdl h1 h2 h3
        simp only [stOf]
        refine ih (k + 1) _ (fun o ho => hdl o (by simp [ho])) (fun j o2 hj hne => h1 (j + 1) o2 (by simpa using hj) (by omega)) (fun j o2 hj he => h2 (j + 1) o2 (by simpa using hj) (by omega)) ?_
        by_cases hk : k = i
        · right
          have ho : o' = o := h2 0 o' rfl (by simpa using hk)
          subst hk
          rw [addL_self]
          simp only [if_true]
          rw [app_T t (hdl o' (by simp)), ho, if_pos ht]
        · rcases h3 with ⟨j, hj, he⟩ | h3
          · left
            cases j with
            | zero => exact absurd (by simpa using he) hk
            | succ j => exact ⟨j, by simpa using hj, by omega⟩
          · right
            cases hL : addL L i k
            · exact h3
            · simp only [if_true]
              rw [app_T t (hdl o' (by simp)), if_neg (h1 0 o' rfl (by simpa using hk))]
              exact h3
    exact key ops 0 s hd (fun j o' hj hji => hne j o' hj (by simpa using hji) t ht) (fun j o' hj he => by
      have : j = i := by simpa using he
      subst this
      rw [hi] at hj
      exact (Option.some.inj hj).symm) (.inl ⟨i, (List.getElem?_eq_some_iff.1 hi).1, by simp⟩)
  · rw [if_neg ht]
    refine agreeT hd (fun j o' hj hdt => ?_) rfl
    rw [Nat.zero_add]
    refine addL_ne ?_
    rintro rfl
    rw [hi] at hj
    cases hj
    exact ht hdt
theorem stepB {ops : List Oper} {i : Nat} {o : Oper} {s : Sx} {b : Nat} (hi : ops[i]? = some o) (hlast : b ∈ wrOf (ex i) → ∀ j, i < j → j < ops.length → L j = true → b ∉ wrOf (ex j)) :
    get (stOf (addL L i) ex ops 0 s).bl b = get (app (ex i) o.dst (stOf L ex ops 0 s)).bl b := by
  by_cases hb : b ∈ wrOf (ex i)
  · have key : ∀ (l : List Oper) (k : Nat) (s : Sx), (∀ j, j < l.length → i < k + j → L (k + j) = true → b ∉ wrOf (ex (k + j))) → (∀ j o', l[j]? = some o' → k + j = i → o' = o) → ((∃ j, j < l.length ∧ k + j = i) ∨ (i < k ∧ get s.bl b = get (app (ex i) o.dst s).bl b)) → ∀ s2, get (stOf (addL L i) ex l k s).bl b = get (app (ex i) o.dst s2).bl b := by
      intro l
      induction l with
      | nil =>
        intro k s _ _ h s2
        have h := h.resolve_left (by rintro ⟨j, hj, _⟩; simp at hj)
        exact h.2.trans (app_B (.inl hb))
      | cons o' r ih =>
        intro k s h1 h2 h3 s2
        simp only [stOf]
        refine ih (k + 1) _ (fun j hj hlt hL => by
          have := h1 (j + 1) (by simp; omega) (by omega) (by rwa [show k + (j + 1) = k + 1 + j by omega])
          rwa [show k + (j + 1) = k + 1 + j by omega] at this) (fun j o2 hj he => h2 (j + 1) o2 (by simpa using hj) (by omega)) ?_ s2
        by_cases hk : k = i
        · right
          have ho : o' = o := h2 0 o' rfl (by simpa using hk)
          refine ⟨by omega, ?_⟩
          subst hk
          rw [addL_self]
          simp only [if_true]
          rw [ho]
          exact app_B (.inl hb)
        · rcases h3 with ⟨j, hj, he⟩ | ⟨hlt, h3⟩
          · left
            cases j with
            | zero => exact absurd (by simpa using he) hk
            | succ j => exact ⟨j, by simpa using hj, by omega⟩
          · right
            refine ⟨by omega, ?_⟩
            rw [addL_ne hk]
            cases hL : L k
            · exact h3
            · have hnb := h1 0 (by simp) (by simpa using hlt) (by simpa using hL)
              rw [Nat.add_zero] at hnb
              simp only [if_true]
              rw [app_B_not hnb, h3]
              exact app_B (.inl hb)
    exact key ops 0 s (fun j hj hlt hL => by
      rw [Nat.zero_add] at hlt hL ⊢
      exact hlast hb j hlt hj hL) (fun j o' hj he => by
      have : j = i := by simpa using he
      subst this
      rw [hi] at hj
      exact (Option.some.inj hj).symm) (.inl ⟨i, (List.getElem?_eq_some_iff.1 hi).1, by simp⟩) _
  · rw [app_B_not hb]
    refine agreeB (fun j _ hw => ?_) rfl
    rw [Nat.zero_add] at hw ⊢
    refine addL_ne ?_
    rintro rfl
    exact hb hw
theorem stepZ {ops : List Oper} {i : Nat} {o : Oper} {s : Sx} {b : Nat} (hi : ops[i]? = some o) : memN (stOf (addL L i) ex ops 0 s).fz b = memN (app (ex i) o.dst (stOf L ex ops 0 s)).fz b := by
  rw [app_Z]
  -- what is frozen only grows
  have mono : ∀ (l : List Oper) (k : Nat) (s : Sx) (M : Nat → Bool), memN s.fz b = true → memN (stOf M ex l k s).fz b = true := by
    intro l
    induction l with
    | nil => intro k s M h; exact h
    | cons o' r ih =>
      intro k s M h
      simp only [stOf]
      refine ih (k + 1) _ M ?_
      cases M k
      · exact h
      · simp only [if_true]
        rw [app_Z, h, Bool.or_true]
  cases hf : memN (fzOf (ex i)) b
  · rw [Bool.false_or]
    refine agreeZ (fun j _ hw => ?_) rfl
    rw [Nat.zero_add] at hw ⊢
    refine addL_ne ?_
    rintro rfl
    rw [(memN_iff _ _).2 hw] at hf
    cases hf
  · rw [Bool.true_or]
    have key : ∀ (l : List Oper) (k : Nat) (s : Sx), (∃ j, j < l.length ∧ k + j = i) → memN (stOf (addL L i) ex l k s).fz b = true := by
      intro l
      induction l with
      | nil => rintro k s ⟨j, hj, _⟩; simp at hj
      | cons o' r ih =>
        rintro k s ⟨j, hj, he⟩
        simp only [stOf]
        by_cases hk : k = i
        · refine mono r (k + 1) _ _ ?_
          subst hk
          rw [addL_self]
          simp only [if_true]
          rw [app_Z, hf, Bool.true_or]
        · cases j with
          | zero => exact absurd (by simpa using he) hk
          | succ j => exact ih (k + 1) _ ⟨j, by simpa using hj, by omega⟩
    exact key ops 0 s ⟨i, (List.getElem?_eq_some_iff.1 hi).1, by simp⟩
end
end Go.Proofs.Ytcjhegiidnjepaa.Ev
