/- Regions that draw their order: what the text's order has told. -/
import Derived.Test.YtcjhegiidnjepaaEvR
namespace Go.Proofs.Ytcjhegiidnjepaa.Ev
open Go.RowKit
set_option linter.unusedVariables false
set_option linter.unusedSimpArgs false

theorem app_same {x : Option Eff} {d : Option Nat} {s s' : Sx} (hd : ∀ n, d = some n → n < 4095) (h : Same s s') : Same (app x d s) (app x d s') :=
  ⟨fun m => by rw [app_T m hd, app_T m hd, h.T m], fun b => app_B (.inr (h.B b)), fun b => by rw [app_Z, app_Z, h.Z b]⟩
theorem stOf_same {L : Nat → Bool} {ex : Nat → Option Eff} {l : List Oper} {i : Nat} {s s' : Sx} (hd : ∀ o ∈ l, ∀ n, o.dst = some n → n < 4095) (h : Same s s') : Same (stOf L ex l i s) (stOf L ex l i s') :=
  ⟨fun m => agreeT hd (fun _ _ _ _ => rfl) (h.T m), fun b => agreeB (fun _ _ _ => rfl) (h.B b), fun b => agreeZ (fun _ _ _ => rfl) (h.Z b)⟩
theorem stOf_ex {L : Nat → Bool} {ex ex' : Nat → Option Eff} : ∀ {l : List Oper} {i : Nat} {s : Sx}, (∀ j, i ≤ j → L j = true → ex j = ex' j) → stOf L ex l i s = stOf L ex' l i s
  | [], _, _, _ => rfl
  | o :: r, i, s, h => by
    simp only [stOf]
    have h0 : (if L i = true then app (ex i) o.dst s else s) = (if L i = true then app (ex' i) o.dst s else s) := by
      by_cases hL : L i = true
      · rw [if_pos hL, if_pos hL, h i (Nat.le_refl _) hL]
      · rw [if_neg hL, if_neg hL]
    rw [h0]
    exact stOf_ex fun j hj hL => h j (by omega) hL
theorem stOf_none {L : Nat → Bool} {ex : Nat → Option Eff} : ∀ {l : List Oper} {i : Nat} {s : Sx}, (∀ j, i ≤ j → L j = false) → stOf L ex l i s = s
  | [], _, _, _ => rfl
  | o :: r, i, s, h => by
    simp only [stOf, h i (Nat.le_refl _), Bool.false_eq_true, if_false]
    exact stOf_none fun j hj => h j (by omega)
/-- What the text's order has told of operation k. -/
def Fact (C : Cx) (ops : List Oper) (nm : Nat) (lg : Log) (k : Nat) (o : Oper) (x : Option Eff) (S : Sx) : Prop :=
  ∃ s b s', Same s S ∧ guardIs ops o s b s' ∧ Same s s' ∧ ((b = false ∧ x = none) ∨ (b = true ∧ ∃ e, x = some e ∧ opK ((C.at_ true ops k).vw s' (nm + 8 * k)) o.op some = some e ∧ (k, e.fz ++ opNames s'.tm o.op, e.wr.map (·.1)) ∈ lg))
theorem Fact.same {C : Cx} {ops : List Oper} {nm : Nat} {lg : Log} {k : Nat} {o : Oper} {x : Option Eff} {S S' : Sx} (h : Fact C ops nm lg k o x S) (e : Same S S') : Fact C ops nm lg k o x S' := by
  obtain ⟨s, b, s', h1, h2⟩ := h
  exact ⟨s, b, s', h1.trans e, h2⟩
theorem guard_same {ops : List Oper} (hd : ∀ o ∈ ops, ∀ n, o.dst = some n → n < 4095) {o : Oper} {s s' : Sx} {b : Bool} (h : guardIs ops o s b s') : Same s s' ∧ s'.nx = s.nx := by
  rcases h with ⟨_, _, rfl⟩ | ⟨q, t, _, ht, ⟨_, _, rfl⟩ | ⟨c, hc, _, rfl⟩⟩
  · exact ⟨Same.refl _, rfl⟩
  · exact ⟨Same.refl _, rfl⟩
  · have hlt : t < 4095 := by
      rw [dstOf_eq] at ht
      obtain ⟨o', ho', hd'⟩ := Option.bind_eq_some_iff.1 ht
      exact hd o' (List.mem_of_getElem? ho') t hd'
    refine ⟨⟨fun m => ?_, fun _ => rfl, fun _ => rfl⟩, rfl⟩
    show look s.tm m = look (putT s.tm t (.bool c)) m
    rw [look_exact _ m hlt]
    by_cases hm : m = t
    · rw [if_pos hm, hm, hc]
    · rw [if_neg hm]
theorem reg_path {C : Cx} (hF : C.F.Law) {ops : List Oper} (hd : ∀ o ∈ ops, ∀ n, o.dst = some n → n < 4095) {nm : Nat} {β : Type} {K : Sx → Log → Option β} {r : β} : ∀ (l : List Oper) (i : Nat) (s : Sx) (lg : Log), ops.drop i = l → regK C ops true nm l i s lg K = some r →
    ∃ (ex : Nat → Option Eff) (s' : Sx) (lg' : Log), K s' lg' = some r ∧ s'.nx = s.nx ∧ (∀ x ∈ lg, x ∈ lg') ∧ Same s' (stOf (fun _ => true) ex l i s) ∧
      ∀ j o, l[j]? = some o → Fact C ops nm lg' (i + j) o (ex (i + j)) (stOf (fun m => decide (m < i + j)) ex l i s)
  | [], i, s, lg, hl, he => by
    simp only [regK] at he
    exact ⟨fun _ => none, s, lg, he, rfl, fun _ h => h, Same.refl _, fun j o hj => by simp at hj⟩
  | o :: l, i, s, lg, hl, he => by
    have hi : ops[i]? = some o := by
      have := congrArg (·[0]?) hl
      simpa using this
    have hl' : ops.drop (i + 1) = l := by
      have := congrArg (List.drop 1) hl
      simpa [List.drop_drop, Nat.add_comm] using this
    have hod : ∀ n, o.dst = some n → n < 4095 := hd o (List.mem_of_getElem? hi)
    have hdl : ∀ o' ∈ l, ∀ n, o'.dst = some n → n < 4095 := fun o' ho' => hd o' (List.mem_of_mem_drop (hl' ▸ ho'))
    simp only [regK] at he
    obtain ⟨b, s1, hg, he⟩ := guarded_inv he
    obtain ⟨hs1, hnx1⟩ := guard_same hd hg
    -- put together
    have main : ∀ (x : Option Eff) (lg1 : Log), (∀ y ∈ lg, y ∈ lg1) → ((b = false ∧ x = none) ∨ (b = true ∧ ∃ e, x = some e ∧ opK ((C.at_ true ops i).vw s1 (nm + 8 * i)) o.op some = some e ∧ (i, e.fz ++ opNames s1.tm o.op, e.wr.map (·.1)) ∈ lg1)) → regK C ops true nm l (i + 1) (app x o.dst s1) lg1 K = some r →
        ∃ (ex : Nat → Option Eff) (s' : Sx) (lg' : Log), K s' lg' = some r ∧ s'.nx = s.nx ∧ (∀ x ∈ lg, x ∈ lg') ∧ Same s' (stOf (fun _ => true) ex (o :: l) i s) ∧
          ∀ j o', (o :: l)[j]? = some o' → Fact C ops nm lg' (i + j) o' (ex (i + j)) (stOf (fun m => decide (m < i + j)) ex (o :: l) i s) := by
      intro x lg1 hlg hx he1
      obtain ⟨ex, s', lg', k1, k2, k3, k4, k5⟩ := reg_path hF hd l (i + 1) (app x o.dst s1) lg1 hl' he1
      have hanx : (app x o.dst s1).nx = s1.nx := by cases x <;> rfl
      have hstart : Same (app x o.dst s1) (app x o.dst s) := app_same hod hs1.symm
      have hex : ∀ (L : Nat → Bool), Same (stOf L ex l (i + 1) (app x o.dst s1)) (stOf L (fun m => if m = i then x else ex m) l (i + 1) (app x o.dst s)) := by
        intro L
        rw [stOf_ex (ex' := fun m => if m = i then x else ex m) (s := app x o.dst s1) (fun j hj _ => by rw [if_neg (by omega)])]
        exact stOf_same hdl hstart
      refine ⟨fun m => if m = i then x else ex m, s', lg', k1, k2.trans (hanx.trans hnx1), fun y hy => k3 y (hlg y hy), ?_, ?_⟩
      · simp only [stOf, if_true]
        exact k4.trans (hex _)
      · intro j o' hj
        cases j with
        | zero =>
          simp only [List.getElem?_cons_zero, Option.some.injEq] at hj
          subst hj
          simp only [Nat.add_zero, if_true]
          have hS : stOf (fun m => decide (m < i)) (fun m => if m = i then x else ex m) (o :: l) i s = s := stOf_none fun j hj => by simpa using hj
          rw [hS]
          refine ⟨s, b, s1, Same.refl _, hg, hs1, hx.imp id ?_⟩
          rintro ⟨hb, e, h1, h2, h3⟩
          exact ⟨hb, e, h1, h2, k3 _ h3⟩
        | succ j =>
          simp only [List.getElem?_cons_succ] at hj
          have hf := k5 j o' hj
          rw [show i + 1 + j = i + (j + 1) by omega] at hf
          have hne : i + (j + 1) ≠ i := by omega
          simp only [if_neg hne]
          refine hf.same ?_
          simp only [stOf]
          rw [if_pos (by simp)]
          simp only [if_true]
          exact hex _
    cases b
    · simp only [cond_false, skipOp, seqS] at he
      exact main none lg (fun _ h => h) (.inl ⟨rfl, rfl⟩) he
    · simp only [cond_true, goOp, seqS] at he
      rw [opK_eff (V := (C.at_ true ops i).vw s1 (nm + 8 * i)) hF] at he
      cases heo : opK ((C.at_ true ops i).vw s1 (nm + 8 * i)) o.op some with
      | none => rw [heo] at he; cases he
      | some e =>
        rw [heo] at he
        simp only [Option.bind_some] at he
        exact main (some e) _ (fun y hy => by simp only [logOf, cond_true]; exact List.mem_cons_of_mem _ hy) (.inr ⟨rfl, e, rfl, heo, by simp only [logOf, cond_true, wrNames]; exact List.mem_cons_self⟩) he

/-! ### What surely comes ahead -/
def bindsE (e : Edge) : Bool := Region.binds .any e
theorem mem_addN {a : Nat} {l : List Nat} {j : Nat} : j ∈ addN a l ↔ j = a ∨ j ∈ l := by
  unfold addN
  cases h : memN l a
  · simp
  · have := (memN_iff _ _).1 h
    simp only [cond_true]
    constructor
    · exact .inr
    · rintro (rfl | h1)
      · exact this
      · exact h1
theorem mem_unionN {l : List Nat} {j : Nat} : ∀ {r : List Nat}, j ∈ unionN r l ↔ j ∈ r ∨ j ∈ l
  | [] => by simp [unionN]
  | a :: r => by simp only [unionN, mem_addN, mem_unionN (r := r), List.mem_cons, or_assoc]
theorem befOf_mem {acc : List (List Nat)} {j : Nat} : ∀ {es : List Edge}, j ∈ befOf acc es ↔ ∃ e ∈ es, bindsE e = true ∧ (j = e.on ∨ j ∈ (acc[e.on]?).getD [])
  | [] => by simp [befOf]
  | e :: es => by
    have hh : (dropN e.on acc).headD [] = (acc[e.on]?).getD [] := by
      rw [dropN_eq]
      cases h : acc.drop e.on with
      | nil =>
        have : acc.length ≤ e.on := List.drop_eq_nil_iff.1 h
        simp [List.getElem?_eq_none this]
      | cons x r =>
        have := congrArg (·[0]?) h
        simp at this
        simp [this]
    simp only [befOf]
    split <;> rename_i hg
    · rw [befOf_mem]
      simp only [List.mem_cons, exists_eq_or_imp]
      simp [bindsE, Region.binds, hg]
    · rw [befOf_mem]
      simp only [List.mem_cons, exists_eq_or_imp]
      simp [bindsE, Region.binds, hg]
    · simp only [mem_addN, mem_unionN, List.mem_cons, exists_eq_or_imp, hh, befOf_mem (es := es)]
      have hb : bindsE e = true := by
        unfold bindsE Region.binds
        split <;> simp_all
      simp only [hb, true_and]
      constructor
      · rintro (h | h | h)
        · exact .inl (.inl h)
        · exact .inl (.inr h)
        · exact .inr h
      · rintro ((h | h) | h)
        · exact .inl h
        · exact .inr (.inl h)
        · exact .inr (.inr h)
theorem befores_get : ∀ (l : List Oper) (acc : List (List Nat)), (∀ j, j < acc.length → (befores acc l)[j]? = acc[j]?) ∧ ∀ j o, l[j]? = some o → ∃ p, (∀ k, k < acc.length + j → p[k]? = (befores acc l)[k]?) ∧ p.length = acc.length + j ∧ (befores acc l)[acc.length + j]? = some (befOf p o.after.toList)
  | [], acc => ⟨fun j hj => rfl, fun j o hj => by simp at hj⟩
  | o :: r, acc => by
    obtain ⟨h1, h2⟩ := befores_get r (acc ++ [befOf acc o.after.toList])
    simp only [befores]
    simp only [List.length_append, List.length_singleton] at h1 h2
    refine ⟨fun j hj => by rw [h1 j (by omega), List.getElem?_append_left hj], fun j o' hj => ?_⟩
    cases j with
    | zero =>
      simp only [List.getElem?_cons_zero, Option.some.injEq] at hj
      subst hj
      refine ⟨acc, fun k hk => ?_, rfl, ?_⟩
      · rw [h1 k (by omega), List.getElem?_append_left (by simpa using hk)]
      · rw [Nat.add_zero, h1 _ (by omega), List.getElem?_append_right (Nat.le_refl _), Nat.sub_self]
        rfl
    | succ j =>
      simp only [List.getElem?_cons_succ] at hj
      obtain ⟨p, p1, p2, p3⟩ := h2 j o' hj
      exact ⟨p, fun k hk => p1 k (by omega), by omega, by rw [show acc.length + (j + 1) = acc.length + 1 + j by omega]; exact p3⟩
end Go.Proofs.Ytcjhegiidnjepaa.Ev
