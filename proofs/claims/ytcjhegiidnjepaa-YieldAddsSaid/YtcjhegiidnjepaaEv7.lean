/- Operations that only compute: what the evaluator says of them is what the model does. -/
import Derived.Test.YtcjhegiidnjepaaEv6
import Derived.ChangeKeysEq
import Derived.Laws.StructEq
namespace Go.Proofs.Ytcjhegiidnjepaa.Ev
open Go.RowKit
set_option linter.unusedVariables false
set_option linter.unusedSimpArgs false

theorem dropN_eq {α : Type} : ∀ (n : Nat) (l : List α), dropN n l = l.drop n
  | 0, _ => rfl
  | _ + 1, [] => rfl
  | n + 1, _ :: r => dropN_eq n r
theorem takeN_eq {α : Type} : ∀ (n : Nat) (l : List α), takeN n l = l.take n
  | 0, _ => by simp [takeN]
  | _ + 1, [] => rfl
  | n + 1, x :: r => by simp [takeN, takeN_eq n r]
theorem RepL.length {R : AV → Value → Prop} : ∀ {cs : List AV} {vs : List Value}, RepL R cs vs → cs.length = vs.length
  | [], _, h => by simp only [RepL] at h; simp [h]
  | _ :: _, [], h => by simp [RepL] at h
  | _ :: _, _ :: _, h => by simp only [RepL] at h; simp [h.2.length]
theorem RepL.get {R : AV → Value → Prop} : ∀ {cs : List AV} {vs : List Value} {i : Nat} {c : AV}, RepL R cs vs → cs[i]? = some c → ∃ v, vs[i]? = some v ∧ R c v
  | [], _, _, _, _, hi => by simp at hi
  | _ :: _, [], _, _, h, _ => by simp [RepL] at h
  | c :: _, v :: _, 0, _, h, hi => by
    simp only [RepL] at h
    simp only [List.getElem?_cons_zero, Option.some.injEq] at hi
    subst hi
    exact ⟨v, rfl, h.1⟩
  | _ :: _, _ :: _, i + 1, _, h, hi => by
    simp only [RepL] at h
    simp only [List.getElem?_cons_succ] at hi ⊢
    exact h.2.get hi
theorem RepL.drop {R : AV → Value → Prop} : ∀ (n : Nat) {cs : List AV} {vs : List Value}, RepL R cs vs → RepL R (cs.drop n) (vs.drop n)
  | 0, _, _, h => by simpa using h
  | n + 1, [], _, h => by simp only [RepL] at h; subst h; simp [RepL]
  | n + 1, _ :: _, [], h => by simp [RepL] at h
  | n + 1, _ :: _, _ :: _, h => by simp only [RepL] at h; simpa using RepL.drop n h.2
theorem RepL.take {R : AV → Value → Prop} : ∀ (n : Nat) {cs : List AV} {vs : List Value}, RepL R cs vs → RepL R (cs.take n) (vs.take n)
  | 0, _, _, h => by simp [RepL]
  | n + 1, [], _, h => by simp only [RepL] at h; subst h; simp [RepL]
  | n + 1, _ :: _, [], h => by simp [RepL] at h
  | n + 1, _ :: _, _ :: _, h => by simp only [RepL] at h; simp only [List.take_succ_cons, RepL]; exact ⟨h.1, RepL.take n h.2⟩
theorem RepL.append {R : AV → Value → Prop} : ∀ {cs : List AV} {vs : List Value} {cs' : List AV} {vs' : List Value}, RepL R cs vs → RepL R cs' vs' → RepL R (cs ++ cs') (vs ++ vs')
  | [], _, _, _, h, h' => by simp only [RepL] at h; subst h; simpa using h'
  | _ :: _, [], _, _, h, _ => by simp [RepL] at h
  | _ :: _, _ :: _, _, _, h, h' => by simp only [RepL] at h; simp only [List.cons_append, RepL]; exact ⟨h.1, h.2.append h'⟩
theorem names_mem_drop {n : Nat} {cs : List AV} {b : Nat} (h : b ∈ namesL (cs.drop n)) : b ∈ namesL cs := by
  induction cs generalizing n with
  | nil => simp [namesL] at h
  | cons c cs ih =>
    cases n with
    | zero => exact h
    | succ n => simp only [namesL, List.mem_append]; exact .inr (ih (by simpa using h))
theorem names_mem_take {n : Nat} {cs : List AV} {b : Nat} (h : b ∈ namesL (cs.take n)) : b ∈ namesL cs := by
  induction cs generalizing n with
  | nil => simp [namesL] at h
  | cons c cs ih =>
    cases n with
    | zero => simp [namesL] at h
    | succ n =>
      simp only [List.take_succ_cons, namesL, List.mem_append] at h ⊢
      exact h.imp id ih

section
variable {P : Program} {T : Tab} {w : World} {g : Gh} {t : Nat} {e : TyE}
theorem TOk.size_run (h : TOk P t e) : (sizeOf t).run P w = .ok e.size w := by
  obtain ⟨i, z, h1, h2, _⟩ := h.info
  simp [sizeOf, typeInfo, h1, h2]
theorem TOk.agg_run (h : TOk P t e) : (Go.isAgg t).run P w = .ok (isAgg e.d) w := by
  have hu := h.und
  unfold Go.isAgg
  cases hd : e.d <;> simp only [hd] at hu
  case struct fs => obtain ⟨F, hF, _⟩ := hu; simp [run_underlying hF, isAgg]
  case func => obtain ⟨d, hd', hn⟩ := hu; rw [Sem.run_bind, run_underlying hd' w]; cases d <;> simp_all [isAgg]
  case other => obtain ⟨d, hd', hn⟩ := hu; rw [Sem.run_bind, run_underlying hd' w]; cases d <;> simp_all [isAgg]
  all_goals simp [run_underlying hu, isAgg]
theorem chk_some {γ : Type} {c : Bool} {x : Option γ} {r : γ} (h : chk c x = some r) : c = true ∧ x = some r := by
  cases c
  · simp [chk] at h
  · exact ⟨rfl, h⟩
theorem fit_inv {V : Vw} (hF : V.F.Law) {cs : List AV} {off : Nat} {γ : Type} {K : AV → Option γ} {r : γ} (h : fit V t cs off K = some r) :
    ∃ e, get V.T t = some e ∧ off + e.size ≤ cs.length ∧ ((isAgg e.d = true ∧ K (.agg ((cs.drop off).take e.size)) = some r) ∨ (isAgg e.d = false ∧ ∃ c, cs[off]? = some c ∧ K c = some r)) := by
  unfold fit at h
  split at h
  case h_2 => simp at h
  case h_1 e he =>
    obtain ⟨h1, h2⟩ := chk_some h
    refine ⟨e, he, by simpa using h1, ?_⟩
    cases ha : isAgg e.d
    · simp only [ha, cond_false, dropN_eq] at h2
      refine .inr ⟨rfl, ?_⟩
      split at h2
      · rename_i c r' hd
        refine ⟨c, ?_, h2⟩
        have := congrArg (·[0]?) hd
        simpa using this
      · simp at h2
    · simp only [ha, cond_true, dropN_eq, takeN_eq, forceCells_eq hF] at h2
      exact .inl ⟨rfl, h2⟩
theorem kRead_inv {V : Vw} (hF : V.F.Law) {v : AV} {r : Eff} (h : kRead V.F some v = some r) : r = ⟨v, [], []⟩ := by
  unfold kRead val at h
  split at h <;> simp_all [kInt_eq hF, kBool_eq hF]
theorem rep1_names {c : AV} {v : Value} (h : Rep1 w g c v) : Rep w g c v ∧ names c = names1 c := by
  cases c <;> first | exact ⟨h, rfl⟩ | simp [Rep1, Rep0] at h
theorem rep_agg {cs : List AV} {vs : List Value} (h : RepL (Rep1 w g) cs vs) : Rep w g (.agg cs) (.agg vs.toArray) := by
  rw [Rep_of (by intro c; nofun)]
  exact ⟨vs, rfl, h⟩
/-- A part of a struct or an array. -/
theorem part_ok {V : Vw} (hF : V.F.Law) (hT : TabOk P V.T) {cs : List AV} {arr : Array Value} {off : Nat} {r : Eff} (hr : RepL (Rep1 w g) cs arr.toList) (h : fit V t cs off (kRead V.F some) = some r) :
    ∃ u, (part t arr off).run P w = .ok u w ∧ r.wr = [] ∧ r.fz = [] ∧ Rep w g r.val u ∧ ∀ b ∈ names r.val, b ∈ namesL cs := by
  obtain ⟨e, he, hl, h1 | h1⟩ := fit_inv hF h
  · have hr' := kRead_inv hF h1.2
    subst hr'
    refine ⟨.agg (arr.extract off (off + e.size)), ?_, rfl, rfl, ?_, ?_⟩
    · unfold part
      simp only [Sem.run_bind, (hT t e he).agg_run, h1.1, Result.andThen_ok, if_true, (hT t e he).size_run]
      rfl
    · have := rep_agg (RepL.take e.size (hr.drop off))
      have e2 : arr.extract off (off + e.size) = ((arr.toList.drop off).take e.size).toArray := by
        apply Array.ext'
        simp [List.extract_eq_take_drop]
      rw [e2]
      exact this
    · intro b hb
      exact names_mem_drop (names_mem_take (by simpa [names, names2] using hb))
  · obtain ⟨ha, c, hc, hk⟩ := h1
    have hr' := kRead_inv hF hk
    subst hr'
    obtain ⟨v, hv, hcv⟩ := hr.get hc
    refine ⟨v, ?_, rfl, rfl, (rep1_names hcv).1, ?_⟩
    · unfold part
      have hv' : arr[off]? = some v := by simpa using hv
      simp [(hT t e he).agg_run, ha, hv']
    · intro b hb
      rw [(rep1_names hcv).2] at hb
      exact mem_namesL (List.mem_of_getElem? hc) hb
theorem add_zero (B o n : Nat) : (⟨B, o, none⟩ : Addr).add n = ⟨B, o + n, none⟩ := by
  unfold Addr.add
  split <;> simp_all
/-- A variable is read. -/
theorem load_ok {V : Vw} (hF : V.F.Law) (hT : TabOk P V.T) {cs : List AV} {vs : List Value} {B o off : Nat} {r : Eff} (hr : RepL (Rep1 w g) cs vs) (hc : ∀ j v, vs[j]? = some v → w.cell? ⟨B, o + j, none⟩ = some v) (h : fit V t cs off (kRead V.F some) = some r) :
    ∃ u, (loadVar t ⟨B, o + off, none⟩).run P w = .ok u w ∧ r.wr = [] ∧ r.fz = [] ∧ Rep w g r.val u ∧ ∀ b ∈ names r.val, b ∈ namesL cs := by
  obtain ⟨e, he, hl, h1 | h1⟩ := fit_inv hF h
  · have hr' := kRead_inv hF h1.2
    subst hr'
    have hr2 := RepL.take e.size (hr.drop off)
    have hlen : ((vs.drop off).take e.size).length = e.size := by
      rw [← hr2.length]
      simp
      omega
    have hl2 := run_loadCells_list (P := P) w ⟨B, o + off, none⟩ ((vs.drop off).take e.size) (fun j v hv => by
      rw [add_zero, Nat.add_assoc]
      refine hc _ v ?_
      rw [List.getElem?_take] at hv
      split at hv
      · simpa using hv
      · simp at hv)
    rw [hlen] at hl2
    refine ⟨.agg ((vs.drop off).take e.size).toArray, ?_, rfl, rfl, rep_agg hr2, ?_⟩
    · unfold loadVar
      simp only [Sem.run_bind, (hT t e he).agg_run, h1.1, Result.andThen_ok, if_true, (hT t e he).size_run, hl2]
      rfl
    · intro b hb
      exact names_mem_drop (names_mem_take (by simpa [names, names2] using hb))
  · obtain ⟨ha, c, hcc, hk⟩ := h1
    have hr' := kRead_inv hF hk
    subst hr'
    obtain ⟨v, hv, hcv⟩ := hr.get hcc
    refine ⟨v, ?_, rfl, rfl, (rep1_names hcv).1, ?_⟩
    · unfold loadVar
      simp [(hT t e he).agg_run, ha, hc off v hv]
    · intro b hb
      rw [(rep1_names hcv).2] at hb
      exact mem_namesL (List.mem_of_getElem? hcc) hb
end
end Go.Proofs.Ytcjhegiidnjepaa.Ev
