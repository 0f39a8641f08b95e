/- What is checked of a seat's functions and types, once. -/
import Derived.Test.YtcjhegiidnjepaaEvV
namespace Go.Proofs.Ytcjhegiidnjepaa.Ev
open Go.RowKit
set_option linter.unusedVariables false
set_option linter.unusedSimpArgs false

def codeSt (nt : Nat) : Code → Bool
  | .region _ ops draw => (ops.toList.all fun o => match o.dst with | some d => decide (d < nt) | none => true) && (!draw || drawOk ops.toList)
  | .seq a b => codeSt nt a && codeSt nt b
  | .cond _ a b => codeSt nt a && codeSt nt b
  | .block _ b => codeSt nt b
  | .loop b => codeSt nt b
  | .rangeFunc _ ps a b => ps.toList.all (fun t => decide (t < nt)) && (codeSt nt a && codeSt nt b)
  | _ => true
theorem codeSt_ok {P : Program} {C : Cx} (hC : CxOk P C) (hm : P.follows .mixedOrders = true) {nt : Nat} : ∀ (c : Code), codeSt nt c = true → CodeOk P C nt c := by
  intro c
  induction c with
  | region i ops draw =>
    intro h X hX hY ro β k r Q s a w g hs he hk id
    simp only [codeSt, Bool.and_eq_true, Bool.or_eq_true, Bool.not_eq_true'] at h
    have hdst : ∀ o ∈ ops.toList, ∀ t, o.dst = some t → t < X.nt := by
      intro o ho t ht
      have := List.all_eq_true.1 h.1 o ho
      rw [ht] at this
      rw [hX]
      simpa using this
    cases draw
    · exact wpIn_region (region_ok hC hY hdst hs he hk)
    · exact region_draw_ok hC hY hm hdst (drawOk_ok (h.2.resolve_left (by simp))) hs he hk id
  | seq a b iha ihb => intro h; simp only [codeSt, Bool.and_eq_true] at h; exact ⟨iha h.1, ihb h.2⟩
  | cond q a b iha ihb => intro h; simp only [codeSt, Bool.and_eq_true] at h; exact ⟨iha h.1, ihb h.2⟩
  | block i b ih => intro h; exact ih h
  | loop b ih => intro h; exact ih h
  | rangeFunc g ps a b iha ihb =>
    intro h
    simp only [codeSt, Bool.and_eq_true] at h
    exact ⟨fun t ht => by simpa using List.all_eq_true.1 h.1 t ht, iha h.2.1, ihb h.2.2⟩
  | _ => intro _; trivial
/-! ### Types -/
def zero1 : AV → Value → Bool
  | .int k n, .int j m => decide (k = j) && decide (n = m)
  | .bool a, .bool b => a == b
  | .str a, .string b => a.toList.isEmpty && b.toList.isEmpty
  | .nils, .slice none 0 0 => true
  | .nilp, .pointer none => true
  | .nilf, .nilFunc => true
  | .nili, .nilIface => true
  | .undef, v => match ofConst v with | .undef => true | _ => false
  | _, _ => false
def zeroL : List AV → List Value → Bool
  | [], [] => true
  | a :: r, v :: s => zero1 a v && zeroL r s
  | _, _ => false
theorem zero1_ok {a : AV} {v : Value} (h : zero1 a v = true) : a = ofConst v := by
  unfold zero1 at h
  split at h <;> first | rfl | skip
  · simp only [Bool.and_eq_true, decide_eq_true_eq] at h; rw [h.1, h.2]; rfl
  · rw [eq_of_beq h]; rfl
  · rename_i x y
    simp only [Bool.and_eq_true, List.isEmpty_iff] at h
    have e : ∀ z : ByteArray, z.toList = [] → z = ByteArray.empty := by
      intro z hz
      rw [ByteArray.toList_eq] at hz
      obtain ⟨⟨l⟩⟩ := z
      simp at hz
      subst hz
      rfl
    rw [e x h.1, e y h.2]
    rfl
  · split at h
    · rename_i h1; exact h1.symm
    · cases h
  · cases h
theorem zeroL_ok : ∀ {l : List AV} {vs : List Value}, zeroL l vs = true → l = vs.map ofConst
  | [], [], _ => rfl
  | a :: r, v :: s, h => by
    simp only [zeroL, Bool.and_eq_true] at h
    rw [List.map_cons, ← zero1_ok h.1, ← zeroL_ok h.2]
  | [], _ :: _, h => by cases h
  | _ :: _, [], h => by cases h
def plainD : TypeDesc → Bool
  | .struct _ => false
  | .array _ _ => false
  | _ => true
def undB : TyD → Option TypeDesc → Bool
  | .int k, some (.int j) => decide (k = j)
  | .bool, some .bool => true
  | .str, some .string => true
  | .struct fs, some (.struct F) => decide (fs = F.toList.map fun f => (f.offset, f.type))
  | .arr n el, some (.array m e) => decide (n = m) && decide (el = e)
  | .slice el, some (.slice e) => decide (el = e)
  | .ptr el, some (.pointer e) => decide (el = e)
  | .func, some d => plainD d
  | .other, some d => plainD d
  | _, _ => false
def tokB (P : Program) (t : Nat) (e : TyE) : Bool :=
  undB e.d (P.underlying t) && (match P.info? t with
    | some i => decide (i.size = e.size) && decide (i.bytes = e.bytes) && (match i.zero with
      | some z => zeroL e.zero z.cells.toList && decide (z.cells.size = e.size)
      | none => false)
    | none => false) && (match e.row with | some r => decide (Row.size r = e.size) | none => true) &&
  (!e.eq || (!(P.eqGuardType P.depth t) && !(P.stoodInHeld t) && (match P.underlying t with | some (.struct F) => F.toList.all fun f => f.name != "_" | _ => true)))
theorem tokB_ok {P : Program} {t : Nat} {e : TyE} (h : tokB P t e = true) : TOk P t e := by
  simp only [tokB, Bool.and_eq_true] at h
  obtain ⟨⟨⟨h1, h2⟩, h3⟩, h4⟩ := h
  refine ⟨?_, ?_, ?_, ?_⟩
  · have plain : ∀ d : TypeDesc, plainD d = true → (match d with | .struct _ | .array _ _ => true | _ => false) = false := by
      intro d hd
      cases d <;> first | rfl | cases hd
    cases hd : e.d <;> rw [hd] at h1 <;> cases hu : P.underlying t <;> rw [hu] at h1 <;> (try (cases h1; done)) <;> rename_i d
    case func.some => exact ⟨d, rfl, plain d h1⟩
    case other.some => exact ⟨d, rfl, plain d h1⟩
    all_goals (cases d <;> (try (cases h1; done)) <;> simp only [undB, Bool.and_eq_true, decide_eq_true_eq] at h1 <;> simp_all)
  · split at h2
    case h_2 => cases h2
    case h_1 i hi =>
      simp only [Bool.and_eq_true, decide_eq_true_eq] at h2
      obtain ⟨⟨a1, a2⟩, a3⟩ := h2
      split at a3
      case h_2 => cases a3
      case h_1 z hz =>
        simp only [Bool.and_eq_true, decide_eq_true_eq] at a3
        exact ⟨i, z, hi, a1, a2, hz, zeroL_ok a3.1, a3.2⟩
  · intro r hr
    rw [hr] at h3
    simpa using h3
  · intro he
    rw [he] at h4
    simp only [Bool.not_true, Bool.false_or, Bool.and_eq_true, Bool.not_eq_true'] at h4
    refine ⟨h4.1.1, h4.1.2, fun F hF f hf => ?_⟩
    have h5 := h4.2
    rw [hF] at h5
    have := List.all_eq_true.1 h5 f hf
    simpa using this
def tabB (P : Program) (T : Tab) : Bool := T.all fun p => tokB P p.1 p.2
theorem get_mem {α : Type} : ∀ {l : List (Nat × α)} {n : Nat} {x : α}, get l n = some x → (n, x) ∈ l
  | [], _, _, h => by cases h
  | (k, v) :: r, n, x, h => by
    simp only [get] at h
    cases hb : Nat.beq k n
    · rw [hb] at h; exact List.mem_cons_of_mem _ (get_mem h)
    · rw [hb] at h
      have := Nat.eq_of_beq_eq_true hb
      subst this
      cases h
      exact List.mem_cons_self
theorem tabB_ok {P : Program} {T : Tab} (h : tabB P T = true) : TabOk P T := fun t e he => tokB_ok (List.all_eq_true.1 h (t, e) (get_mem he))
def funsB (F : List (Nat × Func)) : Bool := F.all fun p => match p.2.body with
  | some c => codeSt p.2.ntmps c && p.2.name != "runtime.NumGoroutine"
  | none => p.2.name != "runtime.NumGoroutine"
theorem envOk_of {P : Program} {G : Env} (hm : P.follows .mixedOrders = true) (hT : tabB P G.T = true) (hF : funsB G.F = true) (hP : ∀ p ∈ G.F, P.funcs[p.1]? = some p.2) : EnvOk P G := by
  refine ⟨tabB_ok hT, fun f fn hf => ⟨hP _ (get_mem hf), ?_⟩, fun f fn c hf hc C _ hC => codeSt_ok hC hm c ?_, normal_ok⟩
  · have := List.all_eq_true.1 hF _ (get_mem hf)
    split at this
    · simp only [Bool.and_eq_true] at this; simpa using this.2
    · simpa using this
  · have := List.all_eq_true.1 hF _ (get_mem hf)
    simp only [hc, Bool.and_eq_true] at this
    exact this.1
end Go.Proofs.Ytcjhegiidnjepaa.Ev
