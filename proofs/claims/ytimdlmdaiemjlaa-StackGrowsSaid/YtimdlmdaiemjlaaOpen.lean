/- How an argument of a law is read: from the reading of its cells to the element that a kind of the print tells, for whole numbers, bools, strings, slices, structs and arrays. -/
import Derived.Test.YtimdlmdaiemjlaaWWords
import Derived.Deep.Slices
import Derived.OpenShut
import Derived.ChangeArms
namespace Go.Proofs.Ytimdlmdaiemjlaa.Opened
open Go.ChangeShapes Go.WideShapes Go.RowKit Go.Deep Go.Proofs.YtimdlmdaiemjlaaW.PrintWords
set_option linter.unusedVariables false

/-- Cells of type t that can be read are an element of kind d, with the property Q. -/
def Opens {α : Type} (P : Program) (t : TypeId) (d : Kd α) (Q : α → Prop) : Prop :=
  ∀ {H : Type} (enc : TypeId × Value → H) (w : World) (fuel : Nat) (cs : List Value) (x : DataW H × List MemPlace), DataW.trod enc P w 0 (fun _ => true) true fuel t cs = some x → ∃ a, d.K w a cs ∧ Q a

theorem opens_int {P : Program} {t : TypeId} {k : IntKind} (ht : P.underlying t = some (.int k)) : Opens P t (Kd.int k) (fun n => (Lit.int k n).wf = true) := by
  intro H enc w fuel cs x h
  obtain ⟨n, rfl, _, hw⟩ := DataW.trod_int ht h
  exact ⟨n, rfl, hw⟩

theorem opens_bool {P : Program} {t : TypeId} (ht : P.underlying t = some .bool) : Opens P t Kd.bool (fun _ => True) := by
  intro H enc w fuel cs x h
  obtain ⟨n, rfl, _⟩ := DataW.trod_bool ht h
  exact ⟨n, rfl, trivial⟩

theorem opens_string {P : Program} {t : TypeId} (ht : P.underlying t = some .string) : Opens P t Kd.string (fun s => s.size ≤ maxLen) := by
  intro H enc w fuel cs x h
  obtain ⟨n, rfl, _, hs⟩ := DataW.trod_string ht h
  exact ⟨n, rfl, hs⟩

theorem list_of {α : Type} {n : Nat} {p : Nat → α → Prop} (h : ∀ i, i < n → ∃ x, p i x) : ∃ l : List α, l.length = n ∧ ∀ i x, l[i]? = some x → p i x := by
  induction n with
  | zero => exact ⟨[], rfl, fun i x hx => by simp at hx⟩
  | succ n ih =>
    obtain ⟨l, hl, hp⟩ := ih (fun i hi => h i (Nat.lt_succ_of_lt hi))
    obtain ⟨y, hy⟩ := h n (Nat.lt_succ_self n)
    refine ⟨l ++ [y], by simp [hl], fun i x hx => ?_⟩
    by_cases hi : i < l.length
    · rw [List.getElem?_append_left hi] at hx
      exact hp i x hx
    · rw [List.getElem?_append_right (by omega)] at hx
      have h0 : i - l.length = 0 := by
        cases hq : i - l.length with
        | zero => rfl
        | succ m => rw [hq] at hx; simp at hx
      rw [h0] at hx
      have hi' : i = n := by omega
      subst hi'
      have : y = x := by simpa using hx
      exact this ▸ hy

theorem opens_slice {α : Type} {P : Program} {t e : TypeId} {d : Kd α} {Q : α → Prop} (ht : P.underlying t = some (.slice e)) (hc : P.cellsOf e = d.sz) (ho : Opens P e d Q) :
    Opens P t (Kd.slice e d) (fun l => l.length ≤ maxLen ∧ ∀ x ∈ l, Q x) := by
  intro H enc w fuel cs x h
  rcases open_slice ht h with ⟨rfl, _⟩ | ⟨a, len, cap, m, n, D, Pl, rfl, _, hl, hm, hmm, _, hi⟩
  · exact ⟨[], ⟨none, 0, rfl, Nat.le_refl _, Kd.C_nil d w⟩, by simp, by simp⟩
  · have hlm : len ≤ m := by rw [hmm]; split <;> omega
    obtain ⟨l, hlen, hp⟩ := list_of (n := len) (p := fun i y => ∃ cs', w.cells? 0 (a.add (i * P.cellsOf e)) (P.cellsOf e) = some cs' ∧ d.K w y cs' ∧ Q y) (fun i hil => by
      obtain ⟨cs', h1, h2⟩ := hi i (by omega)
      obtain ⟨y, hk, hq⟩ := ho enc w n cs' _ h2
      exact ⟨y, cs', h1, hk, hq⟩)
    refine ⟨l, ⟨some a, cap, by rw [hlen], by omega, rfl, ?_, fun _ => ⟨a, rfl, fun j p hj => ?_⟩⟩, by omega, fun y hy => ?_⟩
    · have : maxLen ≤ 9223372036854775807 := by decide
      omega
    · obtain ⟨cs', h1, hk, _⟩ := hp j p hj
      refine ⟨cs', d.K_len hk, hk, fun i u hu => ?_⟩
      obtain ⟨_, _, hat⟩ := World.cells?_some h1
      rw [hc] at hat
      have hlt : i < d.sz := by
        have := (List.getElem?_eq_some_iff.1 hu).1
        rw [d.K_len hk] at this
        exact this
      have := hat i hlt
      rw [Go.Deep.add_add] at this
      rw [this, hu]
    · obtain ⟨i, hi', rfl⟩ := List.mem_iff_getElem.1 hy
      obtain ⟨_, _, _, hq⟩ := hp i l[i] (List.getElem?_eq_getElem hi')
      exact hq

/-- Fields from the cell off on: parts of the cells, each of which can be read. -/
def OpensAt {α : Type} (P : Program) (off n : Nat) (fs : List (Nat × TypeId)) (d : Kd α) (Q : α → Prop) : Prop :=
  ∀ {H : Type} (enc : TypeId × Value → H) (w : World) (fuel : Nat) (cs : List Value), cs.length = n → (∀ f ∈ fs, ∃ x, DataW.trod enc P w 0 (fun _ => true) true fuel f.2 ((cs.drop f.1).take (P.cellsOf f.2)) = some x) →
    ∃ a, d.K w a (cs.drop off) ∧ Q a

theorem opensAt_last {α : Type} {P : Program} {off n : Nat} {t : TypeId} {d : Kd α} {Q : α → Prop} (hn : off + P.cellsOf t = n) (ho : Opens P t d Q) : OpensAt P off n [(off, t)] d Q := by
  intro H enc w fuel cs hl h
  obtain ⟨x, hx⟩ := h (off, t) (List.mem_singleton.2 rfl)
  obtain ⟨a, hk, hq⟩ := ho enc w fuel _ x hx
  have : (cs.drop off).take (P.cellsOf t) = cs.drop off := List.take_of_length_le (by rw [List.length_drop]; omega)
  simp only at hk
  rw [this] at hk
  exact ⟨a, hk, hq⟩

theorem opensAt_cons {α β : Type} {P : Program} {off off' n : Nat} {t : TypeId} {fs : List (Nat × TypeId)} {d : Kd α} {d' : Kd β} {Q : α → Prop} {Q' : β → Prop} (hn : off + P.cellsOf t = off') (ho : Opens P t d Q) (hr : OpensAt P off' n fs d' Q') :
    OpensAt P off n ((off, t) :: fs) (Kd.pair d d') (fun x => Q x.1 ∧ Q' x.2) := by
  intro H enc w fuel cs hl h
  obtain ⟨x, hx⟩ := h (off, t) List.mem_cons_self
  obtain ⟨a, hk, hq⟩ := ho enc w fuel _ x hx
  obtain ⟨b, hk', hq'⟩ := hr enc w fuel cs hl (fun f hf => h f (List.mem_cons_of_mem _ hf))
  refine ⟨(a, b), ⟨_, _, ?_, hk, hk'⟩, hq, hq'⟩
  simp only
  rw [← hn, ← List.drop_drop, List.take_append_drop]

theorem opens_struct {α : Type} {P : Program} {t : TypeId} {fs : Array Field} {d : Kd α} {Q : α → Prop} (ht : P.underlying t = some (.struct fs)) {n : Nat} (hn : P.cellsOf t = n) {l : List (Nat × TypeId)} (hf : fs.toList.map (fun f => (f.offset, f.type)) = l) (ho : OpensAt P 0 n l d Q) : Opens P t d Q := by
  intro H enc w fuel cs x h
  obtain ⟨xs, m, _, _, hl, hxs, hg⟩ := DataW.trod_struct ht h
  obtain ⟨a, hk, hq⟩ := ho enc w m cs (hl.trans hn) (fun f hm => by
    rw [← hf] at hm
    obtain ⟨g, hgm, rfl⟩ := List.mem_map.1 hm
    obtain ⟨i, hi, rfl⟩ := List.mem_iff_getElem.1 hgm
    have hi' : i < fs.size := by simpa using hi
    have h1 := hg i fs[i] (Array.getElem?_eq_getElem hi')
    refine ⟨xs[i]'(by omega), ?_⟩
    rw [List.getElem?_eq_getElem (by omega)] at h1
    simpa using h1)
  exact ⟨a, by simpa using hk, hq⟩

theorem opens_array {α : Type} {P : Program} {t e : TypeId} {c : Nat} {d : Kd α} {Q : α → Prop} (ht : P.underlying t = some (.array c e)) {n : Nat} (hn : P.cellsOf t = n) {l : List (Nat × TypeId)} (hf : (List.range c).map (fun i => (i * P.cellsOf e, e)) = l) (ho : OpensAt P 0 n l d Q) : Opens P t d Q := by
  intro H enc w fuel cs x h
  obtain ⟨xs, m, _, _, hl, hxs, hg⟩ := DataW.trod_array ht h
  obtain ⟨a, hk, hq⟩ := ho enc w m cs (hl.trans hn) (fun f hm => by
    rw [← hf] at hm
    obtain ⟨i, hi, rfl⟩ := List.mem_map.1 hm
    have hi' : i < c := by simpa using hi
    have h1 := hg i hi'
    refine ⟨xs[i]'(by omega), ?_⟩
    rw [List.getElem?_eq_getElem (by omega)] at h1
    simpa using h1)
  exact ⟨a, by simpa using hk, hq⟩

theorem opens_iso {α β : Type} {P : Program} {t : TypeId} {d : Kd α} {Q : α → Prop} (f : β → α) (g : α → β) (hfg : ∀ a, f (g a) = a) (ho : Opens P t d Q) : Opens P t (Kd.iso d f) (fun b => Q (f b)) := by
  intro H enc w fuel cs x h
  obtain ⟨a, hk, hq⟩ := ho enc w fuel cs x h
  exact ⟨g a, by show d.K w (f (g a)) cs; rw [hfg]; exact hk, by show Q (f (g a)); rw [hfg]; exact hq⟩

theorem opens_imp {α : Type} {P : Program} {t : TypeId} {d : Kd α} {Q Q' : α → Prop} (ho : Opens P t d Q) (h : ∀ a, Q a → Q' a) : Opens P t d Q' := fun enc w fuel cs x hx => by
  obtain ⟨a, hk, hq⟩ := ho enc w fuel cs x hx
  exact ⟨a, hk, h a hq⟩

/-- An argument. -/
theorem opens_arg {α : Type} {P : Program} {t : TypeId} {d : Kd α} {Q : α → Prop} (ho : Opens P t d Q) {H : Type} {enc : TypeId × Value → H} {w : World} {v : Value} {x : DataW H} {ps : List MemPlace} (h : DataW.Trod enc P w 0 (fun _ => true) true t v x ps) : ∃ a, d.K w a v.cells.toList ∧ Q a := by
  obtain ⟨fuel, hf⟩ := h
  exact ho enc w fuel _ _ hf

/-- A string argument or a slice argument is no longer than the row's weights allow. -/
theorem okWide_agg {P : Program} {w : World} {r : Reach} {b : Nat} {t : TypeId} {v : Value} {c : Nat} {e : TypeId} (ht : P.underlying t = some (.array c e)) (h : Value.okWide P w r b t v) : ∃ cs, v = .agg cs := by
  simp only [Value.okWide, ht] at h
  obtain ⟨cs, h1, _⟩ := h
  exact ⟨cs, h1⟩
end Go.Proofs.Ytimdlmdaiemjlaa.Opened
