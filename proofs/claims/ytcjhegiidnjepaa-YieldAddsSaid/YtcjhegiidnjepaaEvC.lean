/- Parts put together: structs, arrays, boxes, slices written out; rows out of cells. -/
import Derived.Test.YtcjhegiidnjepaaEvB
import Derived.Great.BuildSlice
import Derived.Laws.CopyRow
namespace Go.Proofs.Ytcjhegiidnjepaa.Ev
open Go.RowKit
set_option linter.unusedVariables false
set_option linter.unusedSimpArgs false

theorem splice_eq : ∀ (off : Nat) (cs xs : List AV), off ≤ cs.length → splice cs off xs = cs.take off ++ xs ++ cs.drop (off + xs.length)
  | 0, cs, xs, _ => by simp [splice]
  | off + 1, [], xs, h => by simp at h
  | off + 1, c :: cs, xs, h => by
    simp only [splice, List.take_succ_cons, List.cons_append, splice_eq off cs xs (by simpa using h)]
    rw [show off + 1 + xs.length = (off + xs.length) + 1 by omega, List.drop_succ_cons]
theorem splice_len {off : Nat} {cs xs : List AV} (h : off + xs.length ≤ cs.length) : (splice cs off xs).length = cs.length := by
  rw [splice_eq off cs xs (by omega)]
  simp
  omega
theorem foldl_set : ∀ (vs : List Value) (off k : Nat) (arr : Array Value), off + k + vs.length ≤ arr.size → ((vs.zipIdx k).foldl (fun cs p => cs.setIfInBounds (off + p.2) p.1) arr).toList = arr.toList.take (off + k) ++ vs ++ arr.toList.drop (off + k + vs.length)
  | [], off, k, arr, h => by simp
  | v :: vs, off, k, arr, h => by
    simp only [List.length_cons] at h
    simp only [List.zipIdx_cons, List.foldl_cons]
    rw [foldl_set vs off (k + 1) _ (by simp; omega)]
    simp only [Array.toList_setIfInBounds, List.length_cons]
    apply List.ext_getElem?
    intro i
    simp only [List.getElem?_append, List.length_take, List.length_append, List.length_set, Array.length_toList, List.length_cons, List.getElem?_take, List.getElem?_drop, List.getElem?_set, List.getElem?_cons]
    have e1 : min (off + (k + 1)) arr.size = off + k + 1 := by omega
    have e2 : min (off + k) arr.size = off + k := by omega
    rw [e1, e2]
    by_cases h1 : i < off + k
    · simp [h1, show i < off + k + 1 by omega, show i < off + (k + 1) by omega, show off + k ≠ i by omega, show i < off + k + 1 + vs.length by omega, show i < off + k + (vs.length + 1) by omega]
    · by_cases h2 : i = off + k
      · subst h2
        simp [show off + k < off + (k + 1) by omega, show off + k < arr.size by omega]
        intro h; omega
      · have h3 : ¬ i < off + k + 1 := by omega
        by_cases h4 : i < off + k + 1 + vs.length
        · simp [h1, h3, h4, show i < off + k + (vs.length + 1) by omega, show i - (off + k) ≠ 0 by omega, show i - (off + k) - 1 = i - (off + k + 1) by omega]
        · simp [h1, h3, h4, show ¬ i < off + k + (vs.length + 1) by omega, show off + (k + 1) + vs.length + (i - (off + k + 1 + vs.length)) = i by omega, show off + k + (vs.length + 1) + (i - (off + k + (vs.length + 1))) = i by omega, show off + k ≠ i by omega]
section
variable {P : Program} {w : World} {g : Gh}
theorem plain_cell {c : AV} {u : Value} (hc : plain1 c = true) (h : Rep1 w g c u) : u.oneCell' = true := by
  cases c <;> simp only [plain1] at hc <;> (try (cases hc; done))
  case int => simp only [Rep1, Rep0] at h; subst h; rfl
  case bool => simp only [Rep1, Rep0] at h; subst h; rfl
  case str => simp only [Rep1, Rep0] at h; subst h; rfl
  case nils => simp only [Rep1, Rep0] at h; subst h; rfl
  case yld => obtain ⟨L, _, rfl⟩ := h; rfl
  case nilp => simp only [Rep1, Rep0] at h; subst h; rfl
  case nilf => simp only [Rep1, Rep0] at h; subst h; rfl
  case nili => simp only [Rep1, Rep0] at h; subst h; rfl
  case imm r l =>
    simp only [Rep1, Rep0, RepLeaf] at h
    obtain ⟨A, c, rfl, _⟩ := h
    rfl
  case own b =>
    simp only [Rep1, Rep0] at h
    split at h
    · subst h; rfl
    · rw [h.1]; rfl
  case ptr => simp only [Rep1, Rep0] at h; obtain ⟨B, _, rfl⟩ := h; rfl
  case eimm => simp only [Rep1, Rep0] at h; obtain ⟨B, o, x, rfl, _⟩ := h; rfl
  case eown => simp only [Rep1, Rep0] at h; obtain ⟨B, _, _, rfl⟩ := h; rfl
  case fn => obtain ⟨vs, rfl, _⟩ := h; rfl
theorem oneCell_cells {u : Value} (h : u.oneCell' = true) : u.cells = #[u] := by cases u <;> first | rfl | simp [Value.oneCell'] at h
theorem plain_list : ∀ {cs : List AV} {vs : List Value}, cs.all plain1 = true → RepL (Rep1 w g) cs vs → ∀ v ∈ vs, v.oneCell' = true
  | [], _, _, h, v, hv => by simp only [RepL] at h; subst h; simp at hv
  | _ :: _, [], _, h, _, _ => by simp [RepL] at h
  | c :: cs, u :: us, hp, h, v, hv => by
    simp only [RepL] at h
    simp only [List.all_cons, Bool.and_eq_true] at hp
    rcases List.mem_cons.1 hv with rfl | hv
    · exact plain_cell hp.1 h.1
    · exact plain_list hp.2 h.2 v hv
/-- A value's cells. -/
theorem rep_cells {c : AV} {u : Value} (hc : (cellsOf c).all plain1 = true) (h : Rep w g c u) : RepL (Rep1 w g) (cellsOf c) u.cells.toList ∧ ∀ b, b ∈ names c ↔ b ∈ namesL (cellsOf c) := by
  by_cases ha : ∃ cs, c = .agg cs
  · obtain ⟨cs, rfl⟩ := ha
    rw [rep_aggE] at h
    obtain ⟨vs, rfl, h⟩ := h
    exact ⟨by simpa [cellsOf, Value.cells] using h, fun b => Iff.rfl⟩
  · have hcl : cellsOf c = [c] := by cases c <;> first | rfl | exact absurd ⟨_, rfl⟩ ha
    rw [hcl] at hc ⊢
    have hp : plain1 c = true := by simpa using hc
    have h1 : Rep1 w g c u := by
      rw [Rep_of (by rintro cs rfl; simp [plain1] at hp), Rep2_of (fun cs e => ha ⟨cs, e⟩)] at h
      exact h
    have hn : names c = names1 c := by cases c <;> first | rfl | exact absurd ⟨_, rfl⟩ ha | simp [plain1] at hp
    rw [oneCell_cells (plain_cell hp h1)]
    exact ⟨⟨h1, rfl⟩, fun b => by rw [hn]; simp [namesL]⟩
def RepParts (w : World) (g : Gh) : List (Nat × AV) → List (Nat × Value) → Prop
  | [], l => l = []
  | p :: r, l => match l with
    | q :: l => q.1 = p.1 ∧ Rep w g p.2 q.2 ∧ RepParts w g r l
    | [] => False
theorem fill_ok {offs place : Nat → Option (Nat × Nat)} (ho : ∀ i p, offs i = some p → place i = some p) : ∀ (ps : List (Nat × AV)) (qs : List (Nat × Value)) (cs cs' : List AV) (arr : Array Value), RepParts w g ps qs → RepL (Rep1 w g) cs arr.toList → fillParts offs cs ps = some cs' →
    ∃ arr', Instr.fill place arr qs = some arr' ∧ RepL (Rep1 w g) cs' arr'.toList ∧ arr'.size = arr.size ∧ ∀ b ∈ namesL cs', b ∈ namesL cs ∨ ∃ p ∈ ps, b ∈ names p.2
  | [], qs, cs, cs', arr, hp, hr, h => by
    simp only [RepParts] at hp
    subst hp
    simp only [fillParts, Option.some.injEq] at h
    subst h
    exact ⟨arr, rfl, hr, rfl, fun b hb => .inl hb⟩
  | p :: ps, [], cs, cs', arr, hp, hr, h => by simp [RepParts] at hp
  | p :: ps, q :: qs, cs, cs', arr, hp, hr, h => by
    simp only [RepParts] at hp
    obtain ⟨h1, h2, h3⟩ := hp
    simp only [fillParts] at h
    split at h
    case h_2 => cases h
    case h_1 pl hpl =>
      cases hc : (cellsOf p.2).all plain1 && Nat.beq (cellsOf p.2).length pl.2 && Nat.ble (pl.1 + pl.2) cs.length
      · rw [hc] at h; cases h
      · rw [hc] at h
        simp only [cond_true] at h
        simp only [Bool.and_eq_true, Nat.beq_eq_true_eq, Nat.ble_eq] at hc
        obtain ⟨⟨c1, c2⟩, c3⟩ := hc
        have c2 := Nat.eq_of_beq_eq_true c2
        obtain ⟨hcell, hnm⟩ := rep_cells c1 h2
        have hlen : q.2.cells.size = pl.2 := by have := hcell.length; simp at this; omega
        have hcs : cs.length = arr.size := by simpa using hr.length
        have hsp := splice_eq pl.1 cs (cellsOf p.2) (by omega)
        have hfl := foldl_set q.2.cells.toList pl.1 0 arr (by simp; omega)
        simp only [Nat.add_zero] at hfl
        have hr' : RepL (Rep1 w g) (splice cs pl.1 (cellsOf p.2)) ((q.2.cells.toList.zipIdx 0).foldl (fun cs p => cs.setIfInBounds (pl.1 + p.2) p.1) arr).toList := by
          rw [hsp, hfl]
          refine ((RepL.take _ hr).append hcell).append ?_
          rw [hcell.length]
          exact hr.drop _
        obtain ⟨arr', f1, f2, f3, f4⟩ := fill_ok ho ps qs _ cs' _ h3 hr' h
        have hsize : ((q.2.cells.toList.zipIdx 0).foldl (fun cs p => cs.setIfInBounds (pl.1 + p.2) p.1) arr).size = arr.size := by
          have := congrArg List.length hfl
          simp at this
          rw [this]
          omega
        refine ⟨arr', ?_, f2, by rw [f3, hsize], ?_⟩
        · unfold Instr.fill
          have hpl' := ho _ _ hpl
          rw [h1, hpl']
          have hcond : (decide (q.2.cells.size ≠ pl.2) || decide (pl.1 + q.2.cells.size > arr.size)) = false := by
            simp only [Bool.or_eq_false_iff, decide_eq_false_iff_not]
            omega
          rw [← f1]
          simp only [hcond, Bool.false_eq_true, if_false]
          rw [← Array.foldl_toList, Array.toList_zipIdx]
        · intro b hb
          rcases f4 b hb with hb | ⟨p', hp', hb⟩
          · rw [hsp] at hb
            have key : ∀ l l' : List AV, b ∈ namesL (l ++ l') → b ∈ namesL l ∨ b ∈ namesL l' := by
              intro l l'
              induction l with
              | nil => exact fun h => .inr h
              | cons c l ih => simp only [List.cons_append, namesL, List.mem_append]; rintro (h | h); exact .inl (.inl h); exact (ih h).imp .inr id
            rcases key _ _ hb with hb | hb
            · rcases key _ _ hb with hb | hb
              · exact .inl (names_mem_take hb)
              · exact .inr ⟨p, by simp, (hnm b).2 hb⟩
            · exact .inl (names_mem_drop hb)
          · exact .inr ⟨p', by simp [hp'], hb⟩
theorem zero_rep {T : Tab} (hT : TabOk P T) {t : Nat} {e : TyE} (he : get T t = some e) : ∃ i z, P.info? t = some i ∧ i.size = e.size ∧ i.bytes = e.bytes ∧ i.zero = some z ∧ RepL (Rep1 w g) e.zero z.cells.toList ∧ z.cells.size = e.size ∧ namesL e.zero = [] := by
  obtain ⟨i, z, h1, h2, h3, h4, h5, h6⟩ := (hT t e he).info
  refine ⟨i, z, h1, h2, h3, h4, ?_, h6, ?_⟩
  · rw [h5]
    have key : ∀ l : List Value, RepL (Rep1 w g) (l.map ofConst) l := by
      intro l
      induction l with
      | nil => simp [RepL]
      | cons v l ih =>
        simp only [List.map_cons, RepL]
        refine ⟨?_, ih⟩
        have := rep_const w g v
        unfold ofConst at this ⊢
        split <;> first | exact this | trivial
    exact key _
  · rw [h5]
    have key : ∀ l : List Value, namesL (l.map ofConst) = [] := by
      intro l
      induction l with
      | nil => rfl
      | cons v l ih =>
        simp only [List.map_cons, namesL, ih, List.append_nil]
        unfold ofConst
        split <;> rfl
    exact key _
end
section
variable {P : Program} {X : Fix} {U : Nat → Prop} {dst : Option Tmp} {ty : TypeId} {pos : String} {af : Array Edge} {gd : Option (Nat × Bool)} {s : Sx} {a : Act} {w : World} {g : Gh} {e : Eff} {V : Vw}
theorem parts_rep (h : Hyp P X U V s a w g) : ∀ (l : List (Nat × Operand)), RepParts w g (partsOf V.tm l) (l.map fun p => (p.1, a.eval p.2))
  | [] => by simp [partsOf, RepParts]
  | p :: r => by simp only [partsOf, List.map_cons, RepParts]; exact ⟨trivial, h.op p.2, parts_rep h r⟩
theorem parts_names (h : Hyp P X U V s a w g) : ∀ (l : List (Nat × Operand)), ∀ p ∈ partsOf V.tm l, ∀ b ∈ names p.2, U b
  | [], p, hp => by simp [partsOf] at hp
  | q :: r, p, hp => by
    simp only [partsOf, List.mem_cons] at hp
    rcases hp with rfl | hp
    · exact h.opn q.2
    · exact parts_names h r p hp
theorem places_ok (hT : TabOk P V.T) : ∀ (F : List Field) (pl : List (Nat × Nat)), placesOf V.T (F.map fun f => (f.offset, f.type)) = some pl → F.mapM (fun f => (P.info? f.type).map fun i => (f.offset, i.size)) = some pl
  | [], pl, h => by simp only [List.map_nil, placesOf, Option.some.injEq] at h; subst h; simp
  | f :: F, pl, h => by
    simp only [List.map_cons, placesOf] at h
    split at h
    case h_2 => cases h
    case h_1 fe l h1 h2 =>
      cases h
      obtain ⟨i, z, g1, g2, _⟩ := (hT _ _ h1).info
      simp only [List.mapM_cons, g1, Option.map_some, g2, Option.bind_eq_bind, Option.bind_some, places_ok hT F l h2, Option.pure_def]
theorem oBuild_ok (h : Hyp P X U V s a w g) {t : Nat} {parts : Array (Nat × Operand)} (he : oBuild V t parts.toList some = some e) : VOk P U ⟨dst, .build t parts, ty, pos, af, gd⟩ a w g e := by
  unfold oBuild at he
  split at he
  case h_2 => cases he
  case h_1 te hte =>
    split at he
    case h_2 => cases he
    case h_1 cs hcs =>
      rw [forceCells_eq h.hF] at he
      have := val_inv he
      subst this
      have hu := (h.hT _ _ hte).und
      obtain ⟨i, z, g1, g2, g3, g4, g5, g6, g7⟩ := zero_rep (w := w) (g := g) h.hT hte
      have main : ∃ arr', P.built t ((parts.map fun (i, x) => (i, a.eval x)).toList) = some arr' ∧ RepL (Rep1 w g) cs arr'.toList ∧ ∀ b ∈ namesL cs, U b := by
        have hps : (parts.map fun (i, x) => (i, a.eval x)).toList = parts.toList.map fun p => (p.1, a.eval p.2) := by simp
        rw [hps]
        unfold buildCells at hcs
        split at hcs
        case h_3 => cases hcs
        case h_1 fs hd =>
          simp only [hd] at hu
          obtain ⟨F, hF, rfl⟩ := hu
          split at hcs
          case h_2 => cases hcs
          case h_1 pl hpl =>
            obtain ⟨arr', f1, f2, f3, f4⟩ := fill_ok (w := w) (g := g) (offs := nthOff pl) (place := (pl.toArray[·]?)) (fun i p hi => by rw [nthOff_eq] at hi; simpa using hi) _ _ _ _ z.cells (parts_rep h parts.toList) g5 hcs
            refine ⟨arr', ?_, f2, fun b hb => ?_⟩
            · simp only [Program.built, g1, hF, g4, places_ok h.hT F.toList pl hpl]
              exact f1
            · rcases f4 b hb with hb | ⟨p, hp, hb⟩
              · rw [g7] at hb; simp at hb
              · exact parts_names h _ p hp b hb
        case h_2 m el hd =>
          simp only [hd] at hu
          split at hcs
          case h_2 => cases hcs
          case h_1 ee hee =>
            obtain ⟨ie, ze, k1, k2, _⟩ := (h.hT _ _ hee).info
            obtain ⟨arr', f1, f2, f3, f4⟩ := fill_ok (w := w) (g := g) (place := fun i => some (i * ee.size, ee.size)) (fun i p hi => hi) _ _ _ _ z.cells (parts_rep h parts.toList) g5 hcs
            refine ⟨arr', ?_, f2, fun b hb => ?_⟩
            · simp only [Program.built, g1, hu, g4, k1, k2]
              exact f1
            · rcases f4 b hb with hb | ⟨p, hp, hb⟩
              · rw [g7] at hb; simp at hb
              · exact parts_names h _ p hp b hb
      obtain ⟨arr', m1, m2, m3⟩ := main
      refine ⟨rfl, rfl, .agg arr', ?_, ?_, ?_⟩
      · simp only [execOp, Sem.run_bind, run_build w t _ arr' m1, Result.andThen_ok]
        rfl
      · have := rep_agg m2
        simpa using this
      · intro b hb
        exact m3 b hb
end
end Go.Proofs.Ytcjhegiidnjepaa.Ev
