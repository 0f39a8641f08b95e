/- More operations that only compute: places, loads, function values, lengths. -/
import Derived.Test.YtcjhegiidnjepaaEv9
namespace Go.Proofs.Ytcjhegiidnjepaa.Ev
open Go.RowKit
set_option linter.unusedVariables false
set_option linter.unusedSimpArgs false

/-! ### Rows as cells -/
section
variable {w : World} {g : Gh}
theorem RepLeaf.enc {l : Leaf} {x : Leaf.T l} {v : Value} (h : RepLeaf w g.prot l x v) : Rep1 w g (Leaf.enc l x) v := by
  cases l with
  | int k => simpa [Leaf.enc, Rep1, Rep0, RepLeaf] using h
  | bool => simpa [Leaf.enc, Rep1, Rep0, RepLeaf] using h
  | str => simpa [Leaf.enc, Rep1, Rep0, RepLeaf] using h
  | sl r => exact h
theorem RepRow.enc : ∀ {r : Row} {x : Row.T r} {q : Nat → Value → Prop} {o : Nat}, RepRow w g.prot r x q o → ∃ vs : List Value, RepL (Rep1 w g) (Row.enc r x) vs ∧ ∀ j v, vs[j]? = some v → q (o + j) v
  | .one l, x, q, o, h => by
    simp only [RepRow] at h
    obtain ⟨u, hu, hl⟩ := h
    refine ⟨[u], by simp only [Row.enc, RepL]; exact ⟨hl.enc, trivial⟩, fun j v hv => ?_⟩
    cases j with
    | zero => simp only [List.getElem?_cons_zero, Option.some.injEq] at hv; subst hv; exact hu
    | succ j => simp at hv
  | .cons l r, x, q, o, h => by
    simp only [RepRow] at h
    obtain ⟨⟨u, hu, hl⟩, hr⟩ := h
    obtain ⟨vs, h1, h2⟩ := RepRow.enc hr
    refine ⟨u :: vs, by simp only [Row.enc, RepL]; exact ⟨hl.enc, h1⟩, fun j v hv => ?_⟩
    cases j with
    | zero => simp only [List.getElem?_cons_zero, Option.some.injEq] at hv; subst hv; exact hu
    | succ j =>
      simp only [List.getElem?_cons_succ] at hv
      have := h2 j v hv
      rwa [show o + 1 + j = o + (j + 1) by omega] at this
theorem names_leaf (l : Leaf) (x : Leaf.T l) : names1 (Leaf.enc l x) = [] := by cases l <;> rfl
theorem names_enc : ∀ (r : Row) (x : Row.T r), namesL (Row.enc r x) = []
  | .one l, x => by simp only [Row.enc, namesL, List.append_nil]; exact names_leaf l x
  | .cons l r, x => by simp [Row.enc, namesL, names_leaf, names_enc r]
theorem enc_length : ∀ (r : Row) (x : Row.T r), (Row.enc r x).length = Row.size r
  | .one l, x => rfl
  | .cons l r, x => by simp [Row.enc, Row.size, enc_length r]
end

section
variable {P : Program} {X : Fix} {U : Nat → Prop} {dst : Option Tmp} {ty : TypeId} {pos : String} {af : Array Edge} {gd : Option (Nat × Bool)} {s : Sx} {a : Act} {w : World} {g : Gh} {e : Eff} {V : Vw}
theorem un_ok (h : Hyp P X U V s a w g) {op : UnOp} {t : Nat} {x : Operand} (he : un V.F op (opnd V.tm x) some = some e) : VOk P U ⟨dst, .unOp op t x, ty, pos, af, gd⟩ a w g e := by
  have hx := h.op x
  unfold un at he
  split at he
  case h_4 => cases he
  case h_1 k n h1 =>
    rw [h1, rep_int] at hx
    rw [kInt_eq h.hF] at he
    cases he
    exact ⟨rfl, rfl, _, by simp [execOp, hx, Op.unary, Op.intArith], rep_int.2 rfl, by simp [names, names2, names1, names0]⟩
  case h_2 k n h1 =>
    rw [h1, rep_int] at hx
    rw [kInt_eq h.hF] at he
    cases he
    exact ⟨rfl, rfl, _, by simp [execOp, hx, Op.unary, Op.intBits], rep_int.2 rfl, by simp [names, names2, names1, names0]⟩
  case h_3 b h1 =>
    rw [h1, rep_bool] at hx
    rw [kBool_eq h.hF] at he
    cases he
    exact ⟨rfl, rfl, _, by simp [execOp, hx, Op.unary], rep_bool.2 rfl, by simp [names, names2, names1, names0]⟩
theorem cells_at {b : Nat} {cs : List AV} (h : Sim X U s a w g) (hb : get s.bl b = some (.box cs)) : ∃ B vs, g.at_ b = some B ∧ RepL (Rep1 w g) cs vs ∧ (∀ j v, vs[j]? = some v → w.cell? ⟨B, j, none⟩ = some v) ∧ ∀ n ∈ namesL cs, U n := by
  obtain ⟨B, arr, ty, h1, h2, h3⟩ := h.blk b _ hb
  exact ⟨B, arr.toList, h1, h3, fun j v hv => by rw [cell_of_row w B j arr ty (0, 0) h2]; simpa using hv, h.nmB b cs hb⟩
theorem oLoad_ok (h : Hyp P X U V s a w g) {t : Nat} {x : Operand} (he : oLoad V t x some = some e) : VOk P U ⟨dst, .load t x, ty, pos, af, gd⟩ a w g e := by
  have hx := h.op x
  have hn := h.opn x
  unfold oLoad at he
  split at he
  case h_4 => cases he
  case h_1 b off h1 =>
    rw [h1] at hx
    obtain ⟨B, hB, hv⟩ := hx
    split at he
    case h_2 => cases he
    case h_1 cs h2 =>
      rw [h.rd] at h2
      obtain ⟨B', vs, hB', hr, hc, hu⟩ := cells_at h.sim h2
      obtain rfl : B = B' := Option.some.inj (hB.symm.trans hB')
      obtain ⟨u, h3, h4, h5, h6, h7⟩ := load_ok (P := P) (w := w) (o := 0) (B := B) h.hF h.hT hr (by simpa using hc) he
      refine ⟨h4, h5, u, ?_, h6, fun b hb => hu b (h7 b hb)⟩
      simp only [Nat.zero_add] at h3
      simp [execOp, hv, Instr.loadAt, Instr.sureAddr, h3]
  case h_2 r l i off h1 =>
    rw [h1] at hx
    obtain ⟨B, o, y, hv, hi, hq⟩ := hx
    obtain ⟨vs, hr, hc⟩ := hq.enc
    have hl : l.getD i (Row.dflt r) = y := by simp [List.getD, hi]
    rw [hl] at he
    obtain ⟨u, h3, h4, h5, h6, h7⟩ := load_ok (P := P) (w := w) (o := o + i * Row.size r) (B := B) h.hF h.hT hr (fun j v hv => by rw [Nat.add_assoc]; exact (hc j v hv).1) he
    refine ⟨h4, h5, u, ?_, h6, fun b hb => absurd (h7 b hb) (by simp [names_enc])⟩
    simp [execOp, hv, Instr.loadAt, Instr.sureAddr, h3]
  case h_3 b sz i off h1 =>
    rw [h1] at hx
    obtain ⟨B, hB, hi, hv⟩ := hx
    split at he
    case h_2 => cases he
    case h_1 r l h2 =>
      rw [h.rd] at h2
      obtain ⟨hz, he2⟩ := chk_some he
      clear he
      have hz : sz = Row.size r := by simpa using hz
      subst hz
      obtain ⟨e1, e2, e3⟩ := h.sim.blk b _ h2
      obtain ⟨arr, ty', f1, f2, f3, f4, f5⟩ := e3 B hB
      rw [e1] at hi
      have hl : l[i]? = some (l.getD i (Row.dflt r)) := by simp [List.getD, List.getElem?_eq_getElem hi]
      obtain ⟨vs, hr, hc⟩ := (f4 i _ hl).enc
      obtain ⟨u, h3, h4, h5, h6, h7⟩ := load_ok (P := P) (w := w) (o := i * Row.size r) (B := B) h.hF h.hT hr (fun j v hv => by rw [cell_of_row w B _ arr ty' (0, 0) f1]; exact hc j v hv) he2
      refine ⟨h4, h5, u, ?_, h6, fun b hb => absurd (h7 b hb) (by simp [names_enc])⟩
      simp [execOp, hv, Instr.loadAt, Instr.sureAddr, h3]
theorem oIndex_ok (h : Hyp P X U V s a w g) {t : Nat} {x i : Operand} (he : oIndex V t x i some = some e) : VOk P U ⟨dst, .index t x i, ty, pos, af, gd⟩ a w g e := by
  have hx := h.op x
  have hn := h.opn x
  have hi := h.op i
  unfold oIndex at he
  split at he
  case h_2 => cases he
  case h_1 te k n hte h1 =>
    rw [h1, rep_int] at hi
    have hu := (h.hT _ _ hte).und
    split at he
    case h_3 => cases he
    case h_1 m el cs hd h2 =>
      rw [h2, rep_aggE] at hx
      rw [h2] at hn
      obtain ⟨vs, hv, hl⟩ := hx
      simp only [hd] at hu
      split at he
      case h_2 => cases he
      case h_1 ee hee =>
        obtain ⟨c1, he⟩ := chk_some he
        obtain ⟨c2, he⟩ := chk_some he
        rw [frcN_eq] at he
        have c1 : 0 ≤ n := by simpa using c1
        have c2 : n < m := by simpa using c2
        obtain ⟨u, hr, r1, r2, r3, r4⟩ := part_ok (P := P) (w := w) (arr := vs.toArray) h.hF h.hT (by simpa using hl) he
        refine ⟨r1, r2, u, ?_, r3, fun b hb => hn b (r4 b hb)⟩
        simp [execOp, hv, hi, Instr.index, asIntOf, run_underlying hu, c1, c2, (h.hT _ _ hee).size_run, hr]
    case h_2 b hd h2 =>
      rw [h2, rep_str] at hx
      simp only [hd] at hu
      obtain ⟨c1, he⟩ := chk_some he
      obtain ⟨c2, he⟩ := chk_some he
      have c1 : 0 ≤ n := by simpa using c1
      have c2 : n < (b.size : Int) := by simpa using c2
      rw [kInt_eq h.hF] at he
      cases he
      have hlt : n.toNat < b.size := by omega
      have hlt' : n.toNat < b.data.size := hlt
      refine ⟨rfl, rfl, .int .u8 b[n.toNat].toNat, ?_, ?_, by simp [names, names2, names1, names0]⟩
      · simp [execOp, hx, hi, Instr.index, asIntOf, run_underlying hu, c1, hlt]
      · rw [rep_int]
        congr 2
        simp only [Array.getD, hlt', dif_pos]
        rfl
theorem oIndexAddr_ok (h : Hyp P X U V s a w g) {t : Nat} {x i : Operand} (he : oIndexAddr V t x i some = some e) : VOk P U ⟨dst, .indexAddr t x i, ty, pos, af, gd⟩ a w g e := by
  have hx := h.op x
  have hn := h.opn x
  have hi := h.op i
  unfold oIndexAddr at he
  split at he
  case h_2 => cases he
  case h_1 te k n hte h1 =>
    rw [h1, rep_int] at hi
    have hu := (h.hT _ _ hte).und
    split at he
    case h_3 => cases he
    case h_1 el hd =>
      simp only [hd] at hu
      split at he
      case h_2 => cases he
      case h_1 ee hee =>
        have run : ∀ (B o len cap : Nat), a.eval x = .slice (some ⟨B, o, none⟩) len cap → 0 ≤ n → n < (len : Int) → (execOp a.eval ⟨dst, .indexAddr t x i, ty, pos, af, gd⟩).run P w = .ok (.value (.pointer (some ⟨B, o + n.toNat * ee.size, none⟩))) w := by
          intro B o len cap hv c1 c2
          simp [execOp, hv, hi, Instr.indexAt, asIntOf, run_underlying hu, c1, c2, (h.hT _ _ hee).size_run, add_zero]
        unfold idxSlice at he
        split at he
        case h_3 => cases he
        case h_1 r l h2 =>
          obtain ⟨c0, he⟩ := chk_some he
          obtain ⟨c1, he⟩ := chk_some he
          obtain ⟨c2, he⟩ := chk_some he
          have c0 : ee.size = Row.size r := by simpa using c0
          have c1 : 0 ≤ n := by simpa using c1
          have c2 : n < (l.length : Int) := by simpa using c2
          have := val_inv he
          subst this
          rw [h2] at hx
          have hx' : RepLeaf w g.prot (.sl r) l (a.eval x) := hx
          simp only [RepLeaf] at hx'
          obtain ⟨A, c, hv, hc, hp⟩ := hx'
          obtain ⟨B, o, rfl, hq⟩ := hp (by omega)
          have hlt : n.toNat < l.length := by omega
          refine ⟨rfl, rfl, _, run B o _ _ hv c1 (by exact c2), ?_, by simp [names, names2, names1, names0]⟩
          exact ⟨B, o, l[n.toNat], by rw [c0, Nat.add_zero], List.getElem?_eq_getElem hlt, hq _ _ (List.getElem?_eq_getElem hlt)⟩
        case h_2 b h2 =>
          rw [h2] at hx hn
          split at he
          case h_2 => cases he
          case h_1 r l h3 =>
            rw [h.rd] at h3
            obtain ⟨c0, he⟩ := chk_some he
            obtain ⟨c1, he⟩ := chk_some he
            obtain ⟨c2, he⟩ := chk_some he
            have c0 : ee.size = Row.size r := by simpa using c0
            have c1 : 0 ≤ n := by simpa using c1
            have c2 : n < (l.length : Int) := by simpa using c2
            have := val_inv he
            subst this
            obtain ⟨e1, e2, e3⟩ := h.sim.blk b _ h3
            have hx' : Rep0 w g (.own b) (a.eval x) := hx
            simp only [Rep0] at hx'
            cases hB : g.at_ b with
            | none => have := e2 hB; subst this; simp at c2; omega
            | some B =>
              rw [hB] at hx'
              refine ⟨rfl, rfl, _, run B 0 _ _ hx' c1 (by rw [e1]; exact c2), ?_, by simpa [names, names2, names1, names0] using hn⟩
              exact ⟨B, hB, by rw [e1]; omega, by simp⟩
    case h_2 m el hd =>
      simp only [hd] at hu
      split at he
      case h_2 => cases he
      case h_1 ee hee =>
        unfold idxArr at he
        split at he
        case h_2 => cases he
        case h_1 b off h2 =>
          obtain ⟨c1, he⟩ := chk_some he
          obtain ⟨c2, he⟩ := chk_some he
          rw [frcN_eq] at he
          have := val_inv he
          subst this
          have c1 : 0 ≤ n := by simpa using c1
          have c2 : n < (m : Int) := by simpa using c2
          rw [h2] at hx hn
          obtain ⟨B, hB, hv⟩ := hx
          refine ⟨rfl, rfl, .pointer (some ⟨B, off + n.toNat * ee.size, none⟩), ?_, ⟨B, hB, rfl⟩, by simpa [names, names2, names1, names0] using hn⟩
          simp [execOp, hv, hi, Instr.indexAt, asIntOf, run_underlying hu, c1, c2, (h.hT _ _ hee).size_run, Instr.sureAddr, add_zero]
theorem opnds_rep (h : Hyp P X U V s a w g) : ∀ (l : List Operand), RepL (Rep w g) (opnds V.tm l) (l.map a.eval)
  | [] => by simp [opnds, RepL]
  | x :: r => by simp only [opnds, List.map_cons, RepL]; exact ⟨h.op x, opnds_rep h r⟩
theorem opnds_names (h : Hyp P X U V s a w g) : ∀ (l : List Operand), ∀ v ∈ opnds V.tm l, ∀ b ∈ names v, U b
  | [], v, hv => by simp [opnds] at hv
  | x :: r, v, hv => by
    simp only [opnds, List.mem_cons] at hv
    rcases hv with rfl | hv
    · exact h.opn x
    · exact opnds_names h r v hv
theorem oMakeFunc_ok (h : Hyp P X U V s a w g) {fn : Fn} {first caps : Array Operand} (he : oMakeFunc V fn first.toList caps.toList some = some e) : VOk P U ⟨dst, .makeFunc fn first caps, ty, pos, af, gd⟩ a w g e := by
  unfold oMakeFunc at he
  split at he
  case h_2 => cases he
  case h_1 f hf =>
    obtain ⟨hc, he⟩ := chk_some he
    have := val_inv he
    subst this
    have hf' : first = #[] := by apply Array.ext'; simpa using hf
    subst hf'
    have ho := opnds_rep h caps.toList
    have hcap : ∀ c ∈ opnds V.tm caps.toList, capOk c = true := fun c hm => List.all_eq_true.1 hc c hm
    refine ⟨rfl, rfl, _, rfl, ?_, ?_⟩
    · refine ⟨caps.toList.map a.eval, by simp [← Array.toList_map], ?_⟩
      refine ho.imp fun c hm v hv => ?_
      have hk := hcap c hm
      cases c <;> first | exact hv | (simp [capOk] at hk; done) | skip
      rename_i f' cs'
      cases cs' with
      | nil =>
        have hv' : ∃ vs : List Value, v = .func (.func f') #[] vs.toArray ∧ RepL (Rep0 w g) [] vs := hv
        obtain ⟨vs, hv1, hv2⟩ := hv'
        simp only [RepL] at hv2
        subst hv2
        exact ⟨rfl, hv1⟩
      | cons _ _ => simp [capOk] at hk
    · intro b hb
      have hb' : b ∈ names0L (opnds V.tm caps.toList) := hb
      have key : ∀ l : List AV, b ∈ names0L l → ∃ v ∈ l, b ∈ names0 v := by
        intro l
        induction l with
        | nil => simp [names0L]
        | cons v r ih =>
          simp only [names0L, List.mem_append]
          rintro (h1 | h1)
          · exact ⟨v, by simp, h1⟩
          · obtain ⟨u, hu, hb⟩ := ih h1
            exact ⟨u, by simp [hu], hb⟩
      obtain ⟨v, hv, hbv⟩ := key _ hb'
      refine opnds_names h caps.toList v hv b ?_
      cases v <;> first | exact hbv | simp [names0] at hbv
end
end Go.Proofs.Ytcjhegiidnjepaa.Ev
