/- Regions that draw their order. -/
import Derived.Test.YtcjhegiidnjepaaEvS
namespace Go.Proofs.Ytcjhegiidnjepaa.Ev
open Go.RowKit
set_option linter.unusedVariables false
set_option linter.unusedSimpArgs false

def bfAt (ops : List Oper) (i : Nat) : List Nat := ((befores [] ops)[i]?).getD []
def tmpsOf (o : Oper) : List Nat := o.op.operands.toList.filterMap fun | .tmp t => some t | _ => none
def looksL (ops : List Oper) (o : Oper) : List Nat := tmpsOf o ++ (match o.guard with
  | some q => (dstOf ops q.1).toList
  | none => [])
def ordered (ops : List Oper) (i j : Nat) : Bool := memN (bfAt ops i) j || memN (bfAt ops j) i
/-- The static check of a region that draws: what surely comes ahead (bf) and what is looked at (lk) are computed once. -/
def frcNs {β : Type} : List Nat → (List Nat → Option β) → Option β
  | [], k => k []
  | n :: r, k => frcN n fun n => frcNs r fun r => k (n :: r)
def frcNss {β : Type} : List (List Nat) → (List (List Nat) → Option β) → Option β
  | [], k => k []
  | l :: r, k => frcNs l fun l => frcNss r fun r => k (l :: r)
theorem frcNs_eq {β : Type} : ∀ (l : List Nat) (k : List Nat → Option β), frcNs l k = k l
  | [], k => rfl
  | n :: r, k => by simp only [frcNs, frcN_eq, frcNs_eq r]
theorem frcNss_eq {β : Type} : ∀ (l : List (List Nat)) (k : List (List Nat) → Option β), frcNss l k = k l
  | [], k => rfl
  | n :: r, k => by simp only [frcNss, frcNs_eq, frcNss_eq r]
/-- befores, forced at each step. -/
def beforesK {β : Type} (acc : List (List Nat)) : List Oper → (List (List Nat) → Option β) → Option β
  | [], k => k acc
  | o :: r, k => frcNs (befOf acc o.after.toList) fun b => frcL (acc ++ [b]) fun acc => beforesK acc r k
theorem beforesK_eq {β : Type} : ∀ (l : List Oper) (acc : List (List Nat)) (k : List (List Nat) → Option β), beforesK acc l k = k (befores acc l)
  | [], acc, k => rfl
  | o :: r, acc, k => by simp only [beforesK, befores, frcNs_eq, frcL_eq, beforesK_eq r]
def isDst (d : Nat) : Option Nat → Bool
  | some e => Nat.beq e d
  | none => false
def walkY (d i : Nat) (bi : List Nat) : Nat → List Oper → List (List Nat) → List (List Nat) → Bool
  | j, y :: r, b :: bs, k :: ks => (Nat.beq i j || (!isDst d y.dst && (!memN k d || memN bi j || memN b i))) && walkY d i bi (j + 1) r bs ks
  | _, [], _, _ => true
  | _, _ :: _, _, _ => false
def walkX (ops : List Oper) (bf lk : List (List Nat)) : Nat → List Oper → List (List Nat) → Bool
  | i, x :: r, b :: bs => (x.after.toList.all fun e => !bindsE e || Nat.ble (e.on + 1) i) && (match x.dst with
      | some d => Nat.ble (d + 1) 4095 && walkY d i b 0 ops bf lk
      | none => true) && walkX ops bf lk (i + 1) r bs
  | _, [], _ => true
  | _, _ :: _, [] => false
def drawOk (ops : List Oper) : Bool := match (beforesK [] ops fun bf => frcNss (ops.map (looksL ops)) fun lk => some (walkX ops bf lk 0 ops bf)) with
  | some b => b
  | none => false
structure DrawOk (ops : List Oper) : Prop where
  back : ∀ (i : Nat) (x : Oper), ops[i]? = some x → ∀ e ∈ x.after.toList, bindsE e = true → e.on < i
  lt : ∀ o ∈ ops, ∀ n, o.dst = some n → n < 4095
  ne : ∀ (i : Nat) (x : Oper) (j : Nat) (y : Oper), ops[i]? = some x → ops[j]? = some y → i ≠ j → ∀ d, x.dst = some d → y.dst ≠ some d
  look : ∀ (i : Nat) (x : Oper) (j : Nat) (y : Oper), ops[i]? = some x → ops[j]? = some y → i ≠ j → ∀ d, x.dst = some d → d ∈ looksL ops y → ordered ops i j = true
theorem walkY_ok {d i : Nat} {bi : List Nat} : ∀ {r : List Oper} {bs ks : List (List Nat)} {j : Nat}, walkY d i bi j r bs ks = true → ∀ m y, r[m]? = some y → i ≠ j + m → y.dst ≠ some d ∧ ∃ b k, bs[m]? = some b ∧ ks[m]? = some k ∧ (d ∈ k → j + m ∈ bi ∨ i ∈ b)
  | [], _, _, _, _, m, y, hm, _ => by simp at hm
  | y :: r, [], _, _, h, _, _, _, _ => by cases h
  | y :: r, _ :: _, [], _, h, _, _, _, _ => by cases h
  | y :: r, b :: bs, k :: ks, j, h, m, z, hm, hne => by
    simp only [walkY, Bool.and_eq_true] at h
    cases m with
    | zero =>
      simp only [List.getElem?_cons_zero, Option.some.injEq] at hm
      subst hm
      have h1 := h.1
      rw [(beq_ne (by simpa using hne) : Nat.beq i j = false)] at h1
      simp only [Bool.false_or, Bool.and_eq_true, Bool.not_eq_true', Bool.or_eq_true, memN_iff] at h1
      refine ⟨fun e => ?_, b, k, rfl, rfl, fun hd => ?_⟩
      · rw [e] at h1
        simp [isDst] at h1
      · rcases h1.2 with (h2 | h2) | h2
        · rw [(memN_iff _ _).2 hd] at h2; cases h2
        · exact .inl h2
        · exact .inr h2
    | succ m =>
      simp only [List.getElem?_cons_succ] at hm
      obtain ⟨h1, b', k', h2, h3, h4⟩ := walkY_ok h.2 m z hm (by omega)
      exact ⟨h1, b', k', by simpa using h2, by simpa using h3, by rwa [show j + 1 + m = j + (m + 1) by omega] at h4⟩
theorem walkX_ok {ops : List Oper} {bf lk : List (List Nat)} : ∀ {r : List Oper} {bs : List (List Nat)} {i : Nat}, walkX ops bf lk i r bs = true → ∀ m x, r[m]? = some x → (∀ e ∈ x.after.toList, bindsE e = true → e.on < i + m) ∧ ∀ d, x.dst = some d → d < 4095 ∧ ∃ b, bs[m]? = some b ∧ walkY d (i + m) b 0 ops bf lk = true
  | [], _, _, _, m, x, hm => by simp at hm
  | y :: r, [], _, h, _, _, _ => by cases h
  | y :: r, b :: bs, i, h, m, x, hm => by
    simp only [walkX, Bool.and_eq_true] at h
    cases m with
    | zero =>
      simp only [List.getElem?_cons_zero, Option.some.injEq] at hm
      subst hm
      refine ⟨fun e he hb => ?_, fun d hd => ?_⟩
      · have := List.all_eq_true.1 h.1.1 e he
        rw [hb] at this
        have h9 : e.on + 1 ≤ i := by simpa using this
        exact h9
      · have h2 := h.1.2
        rw [hd] at h2
        simp only [Bool.and_eq_true, Nat.ble_eq] at h2
        exact ⟨by omega, b, rfl, h2.2⟩
    | succ m =>
      simp only [List.getElem?_cons_succ] at hm
      obtain ⟨h1, h2⟩ := walkX_ok h.2 m x hm
      rw [show i + 1 + m = i + (m + 1) by omega] at h1
      refine ⟨h1, fun d hd => ?_⟩
      obtain ⟨h3, b', h4, h5⟩ := h2 d hd
      exact ⟨h3, b', by simpa using h4, by rwa [show i + 1 + m = i + (m + 1) by omega] at h5⟩
theorem drawOk_ok {ops : List Oper} (h : drawOk ops = true) : DrawOk ops := by
  unfold drawOk at h
  rw [beforesK_eq, frcNss_eq] at h
  simp only at h
  have pairs : ∀ (i : Nat) (x : Oper) (j : Nat) (y : Oper), ops[i]? = some x → ops[j]? = some y → i ≠ j → ∀ d, x.dst = some d → y.dst ≠ some d ∧ (d ∈ looksL ops y → ordered ops i j = true) := by
    intro i x j y hi hj hij d hd
    obtain ⟨_, h2⟩ := walkX_ok h i x hi
    obtain ⟨_, b, hb, hw⟩ := h2 d hd
    rw [Nat.zero_add] at hw
    obtain ⟨h3, b', k, h4, h5, h6⟩ := walkY_ok hw j y hj (by omega)
    refine ⟨h3, fun hl => ?_⟩
    have hk : k = looksL ops y := by
      rw [List.getElem?_map, hj] at h5
      exact (Option.some.inj h5).symm
    have hbi : bfAt ops i = b := by simp [bfAt, hb]
    have hbj : bfAt ops j = b' := by simp [bfAt, h4]
    simp only [ordered, Bool.or_eq_true, memN_iff, hbi, hbj]
    rw [hk] at h6
    simpa using h6 hl
  refine ⟨fun i x hi e he hb => by simpa using (walkX_ok h i x hi).1 e he hb, fun o ho n hn => ?_, fun i x j y hi hj hij d hd => (pairs i x j y hi hj hij d hd).1, fun i x j y hi hj hij d hd => (pairs i x j y hi hj hij d hd).2⟩
  obtain ⟨i, hi⟩ := List.getElem?_of_mem ho
  exact ((walkX_ok h i o hi).2 n hn).1
section
variable {ops : List Oper} (D : DrawOk ops)
include D
theorem bf_iff {i : Nat} {o : Oper} (hi : ops[i]? = some o) (j : Nat) : j ∈ bfAt ops i ↔ ∃ e ∈ o.after.toList, bindsE e = true ∧ (j = e.on ∨ j ∈ bfAt ops e.on) := by
  obtain ⟨p, p1, p2, p3⟩ := (befores_get ops []).2 i o hi
  simp only [List.length_nil, Nat.zero_add] at p1 p2 p3
  have : bfAt ops i = befOf p o.after.toList := by simp [bfAt, p3]
  rw [this, befOf_mem]
  constructor
  · rintro ⟨e, he, hb, h⟩
    have hlt := D.back i o hi e he hb
    rw [p1 e.on hlt] at h
    exact ⟨e, he, hb, h⟩
  · rintro ⟨e, he, hb, h⟩
    have hlt := D.back i o hi e he hb
    refine ⟨e, he, hb, ?_⟩
    rw [p1 e.on hlt]
    exact h
theorem bf_lt : ∀ (i : Nat) (j : Nat), j ∈ bfAt ops i → j < i ∧ i < ops.length := by
  intro i
  induction i using Nat.strongRecOn with
  | _ i ih =>
    intro j hj
    cases hi : ops[i]? with
    | none =>
      have hl : (befores [] ops).length = ops.length := by
        have : ∀ (l : List Oper) (acc : List (List Nat)), (befores acc l).length = acc.length + l.length := by
          intro l
          induction l with
          | nil => intro acc; rfl
          | cons o r ih => intro acc; simp [befores, ih]; omega
        simpa using this ops []
      have hn : (befores [] ops)[i]? = none := by
        rw [List.getElem?_eq_none_iff] at hi ⊢
        omega
      simp [bfAt, hn] at hj
    | some o =>
      obtain ⟨e, he, hb, h⟩ := (bf_iff D hi j).1 hj
      have hlt := D.back i o hi e he hb
      have hil := (List.getElem?_eq_some_iff.1 hi).1
      rcases h with rfl | h
      · exact ⟨hlt, hil⟩
      · have := (ih e.on hlt j h).1
        exact ⟨by omega, hil⟩
end
/-- The set is closed under what comes ahead. -/
def Closed (ops : List Oper) (L : Nat → Bool) : Prop := ∀ i, L i = true → ∀ j ∈ bfAt ops i, L j = true
/-- An operation that is ready, beside another that is ordered with it. -/
theorem ready_side {ops : List Oper} (D : DrawOk ops) {L : Nat → Bool} (hcl : Closed ops L) {i : Nat} (hi : L i = false) (hready : ∀ j ∈ bfAt ops i, L j = true) {j : Nat} (ho : j = i ∨ ordered ops i j = true) : (decide (j < i)) = L j := by
  rcases ho with rfl | ho
  · rw [hi]; simp
  · simp only [ordered, Bool.or_eq_true, memN_iff] at ho
    rcases ho with ho | ho
    · rw [hready j ho]
      simpa using (bf_lt D i j ho).1
    · have hlt := (bf_lt D j i ho).1
      have : L j = false := by
        cases hL : L j
        · rfl
        · have := hcl j hL i ho
          rw [hi] at this
          cases this
      rw [this]
      simp
      omega
theorem disj_iff {a b : List Nat} (h : disj a b = true) {x : Nat} (hx : x ∈ a) : x ∉ b := by
  have := List.all_eq_true.1 h x hx
  intro hb
  rw [(memN_iff _ _).2 hb] at this
  cases this
theorem bf_head (ops : List Oper) (i : Nat) : (dropN i (befores [] ops)).headD [] = bfAt ops i := by
  rw [dropN_eq, bfAt]
  cases h : (befores [] ops).drop i with
  | nil =>
    have : (befores [] ops).length ≤ i := List.drop_eq_nil_iff.1 h
    simp [List.getElem?_eq_none this]
  | cons x r =>
    have := congrArg (·[0]?) h
    simp at this
    simp [this]
/-- Two operations that meet in a block are ordered. -/
theorem log_pair {ops : List Oper} : ∀ {lg : Log}, logOk (befores [] ops) lg = true → ∀ {x y : Nat × List Nat × List Nat}, x ∈ lg → y ∈ lg → x.1 ≠ y.1 → ordered ops x.1 y.1 = true ∨ ((∀ b ∈ x.2.2, b ∉ y.2.1 ∧ b ∉ y.2.2) ∧ (∀ b ∈ y.2.2, b ∉ x.2.1 ∧ b ∉ x.2.2))
  | [], _, x, y, hx, _, _ => by simp at hx
  | z :: r, h, x, y, hx, hy, hne => by
    simp only [logOk, Bool.and_eq_true] at h
    have pair : ∀ {p q : Nat × List Nat × List Nat}, apart2 (befores [] ops) p q = true → ordered ops p.1 q.1 = true ∨ ((∀ b ∈ p.2.2, b ∉ q.2.1 ∧ b ∉ q.2.2) ∧ (∀ b ∈ q.2.2, b ∉ p.2.1 ∧ b ∉ p.2.2)) := by
      intro p q hpq
      simp only [apart2, Bool.or_eq_true, Bool.and_eq_true, bf_head] at hpq
      rcases hpq with (⟨⟨h1, h2⟩, h3⟩ | h1) | h1
      · refine .inr ⟨fun b hb => ⟨disj_iff h1 hb, disj_iff h2 hb⟩, fun b hb => ⟨disj_iff h3 hb, fun hb2 => disj_iff h2 hb2 hb⟩⟩
      · exact .inl (by simp [ordered, h1])
      · exact .inl (by simp [ordered, h1])
    rcases List.mem_cons.1 hx with rfl | hx2
    · rcases List.mem_cons.1 hy with rfl | hy2
      · exact absurd rfl hne
      · exact pair (List.all_eq_true.1 h.1 y hy2)
    · rcases List.mem_cons.1 hy with rfl | hy2
      · rcases pair (List.all_eq_true.1 h.1 x hx2) with h1 | ⟨h1, h2⟩
        · exact .inl (by simpa [ordered, Bool.or_comm] using h1)
        · exact .inr ⟨h2, h1⟩
      · exact log_pair h.2 hx2 hy2 hne
end Go.Proofs.Ytcjhegiidnjepaa.Ev
