/- Operations that only compute, one after the other. -/
import Derived.Test.YtcjhegiidnjepaaEv7
namespace Go.Proofs.Ytcjhegiidnjepaa.Ev
open Go.RowKit
set_option linter.unusedVariables false
set_option linter.unusedSimpArgs false

/-- What is given at an operation. -/
structure Hyp (P : Program) (X : Fix) (U : Nat → Prop) (V : Vw) (s : Sx) (a : Act) (w : World) (g : Gh) : Prop where
  sim : Sim X U s a w g
  hF : V.F.Law
  hT : TabOk P V.T
  tm : V.tm = s.tm
  rd : V.rd = get s.bl
  fz : V.isFz = memN s.fz
  fresh : ∀ b, V.nm ≤ b → b ≤ V.nm + 7 → ¬ U b

/-- The operation yields a value and does nothing else. -/
def VOk (P : Program) (U : Nat → Prop) (o : Oper) (a : Act) (w : World) (g : Gh) (e : Eff) : Prop :=
  e.wr = [] ∧ e.fz = [] ∧ ∃ u, (execOp a.eval o).run P w = .ok (.value u) w ∧ Rep w g e.val u ∧ ∀ b ∈ names e.val, U b
theorem VOk.opOk {P : Program} {X : Fix} {U : Nat → Prop} {o : Oper} {s : Sx} {a : Act} {w : World} {g : Gh} {nm : Nat} {e : Eff} (h : Sim X U s a w g) (hd : ∀ t, o.dst = some t → t < X.nt) (hv : VOk P U o a w g e) : OpOk P X U o s a w nm e := by
  obtain ⟨v, wr, fz⟩ := e
  obtain ⟨rfl, rfl, u, h1, h2, h3⟩ := hv
  exact opOk_value h hd h1 h2 h3

theorem rep_int {w : World} {g : Gh} {k : IntKind} {n : Int} {v : Value} : Rep w g (.int k n) v ↔ v = .int k n := by simp [Rep, Rep2, Rep1, Rep0]
theorem rep_bool {w : World} {g : Gh} {b : Bool} {v : Value} : Rep w g (.bool b) v ↔ v = .bool b := by simp [Rep, Rep2, Rep1, Rep0]
theorem rep_str {w : World} {g : Gh} {s : ByteArray} {v : Value} : Rep w g (.str s) v ↔ v = .string s := by simp [Rep, Rep2, Rep1, Rep0]
theorem rep_aggE {w : World} {g : Gh} {cs : List AV} {v : Value} : Rep w g (.agg cs) v ↔ ∃ vs : List Value, v = .agg vs.toArray ∧ RepL (Rep1 w g) cs vs := by simp [Rep, Rep2]
theorem rep_tup {w : World} {g : Gh} {cs : List AV} {v : Value} : Rep w g (.tup cs) v ↔ ∃ vs : List Value, v = .tuple vs.toArray ∧ RepL (Rep2 w g) cs vs := by simp [Rep]

section
variable {P : Program} {X : Fix} {U : Nat → Prop} {dst : Option Tmp} {ty : TypeId} {pos : String} {af : Array Edge} {gd : Option (Nat × Bool)} {s : Sx} {a : Act} {w : World} {g : Gh} {e : Eff} {V : Vw}
theorem Hyp.op (h : Hyp P X U V s a w g) (x : Operand) : Rep w g (opnd V.tm x) (a.eval x) := by rw [h.tm]; exact h.sim.opnd x
theorem Hyp.opn (h : Hyp P X U V s a w g) (x : Operand) : ∀ b ∈ names (opnd V.tm x), U b := by rw [h.tm]; exact h.sim.opnd_names x
theorem val_inv {v : AV} (h : val some v = some e) : e = ⟨v, [], []⟩ := (Option.some.inj h).symm
theorem oMove_v (h : Hyp P X U V s a w g) {x : Operand} (he : oMove V x some = some e) : e = ⟨opnd V.tm x, [], []⟩ := by
  unfold oMove at he
  split at he
  · cases he
  · cases he
  · exact val_inv he
theorem oMove_ok (h : Hyp P X U V s a w g) {x : Operand} (he : oMove V x some = some e) : VOk P U ⟨dst, .move x, ty, pos, af, gd⟩ a w g e ∧ VOk P U ⟨dst, .assign x, ty, pos, af, gd⟩ a w g e := by
  have := oMove_v h he
  subst this
  exact ⟨⟨rfl, rfl, _, rfl, h.op x, h.opn x⟩, ⟨rfl, rfl, _, rfl, h.op x, h.opn x⟩⟩
theorem oPick_ok (h : Hyp P X U V s a w g) {c x y : Operand} (he : oPick V c x y some = some e) : VOk P U ⟨dst, .pick c x y, ty, pos, af, gd⟩ a w g e := by
  unfold oPick at he
  split at he
  case h_2 => cases he
  case h_1 b hb =>
    have hc := h.op c
    rw [hb, rep_bool] at hc
    cases b
    · have := oMove_v h he
      subst this
      exact ⟨rfl, rfl, a.eval y, by simp [execOp, hc, asBool], h.op y, h.opn y⟩
    · have := oMove_v h he
      subst this
      exact ⟨rfl, rfl, a.eval x, by simp [execOp, hc, asBool], h.op x, h.opn x⟩
theorem oNilCheck_ok (h : Hyp P X U V s a w g) {x : Operand} (he : oNilCheck V x some = some e) : VOk P U ⟨dst, .nilCheck x, ty, pos, af, gd⟩ a w g e := by
  have hx := h.op x
  have hn := h.opn x
  unfold oNilCheck at he
  split at he
  case h_4 => cases he
  case h_3 r l i off hb =>
    have := val_inv he
    subst this
    rw [hb] at hx hn
    have hx' := hx
    obtain ⟨B, o, y, hv, hl⟩ := hx'
    exact ⟨rfl, rfl, a.eval x, by simp [execOp, hv], hx, hn⟩
  case h_1 b off hb =>
    have := val_inv he
    subst this
    rw [hb] at hx hn
    have hx' := hx
    obtain ⟨B, hB, hv⟩ := hx'
    exact ⟨rfl, rfl, a.eval x, by simp [execOp, hv], hx, hn⟩
  case h_2 f c hb =>
    have := val_inv he
    subst this
    rw [hb] at hx hn
    have hx' := hx
    obtain ⟨vs, hv, hl⟩ := hx'
    exact ⟨rfl, rfl, a.eval x, by simp [execOp, hv], hx, hn⟩
theorem oExtract_ok (h : Hyp P X U V s a w g) {x : Operand} {i : Nat} (he : oExtract V x i some = some e) : VOk P U ⟨dst, .extract x i, ty, pos, af, gd⟩ a w g e := by
  have hx := h.op x
  have hn := h.opn x
  unfold oExtract at he
  split at he
  case h_2 => cases he
  case h_1 vs hv =>
    split at he
    case h_2 => cases he
    case h_1 v r hd =>
      obtain ⟨hk, he⟩ := chk_some he
      have := val_inv he
      subst this
      rw [hv, rep_tup] at hx
      rw [hv] at hn
      obtain ⟨us, hu, hl⟩ := hx
      rw [dropN_eq] at hd
      have hi : vs[i]? = some v := by
        have := congrArg (·[0]?) hd
        simpa using this
      obtain ⟨u, hui, hr⟩ := hl.get hi
      refine ⟨rfl, rfl, u, ?_, ?_, ?_⟩
      · have hui' : us.toArray[i]? = some u := by simpa using hui
        simp [execOp, hu, Instr.extract, hui']
      · rw [Rep_of (by intro c e; subst e; simp [known] at hk)]; exact hr
      · intro b hb
        refine hn b ?_
        have hvn : names v = names2 v := by cases v <;> first | rfl | simp [known] at hk
        rw [hvn] at hb
        exact mem_namesL2 (List.mem_of_getElem? hi) hb
theorem oConvert_ok (h : Hyp P X U V s a w g) {src d : Nat} {x : Operand} (he : oConvert V src d x some = some e) : VOk P U ⟨dst, .convert src d x, ty, pos, af, gd⟩ a w g e := by
  have hx := h.op x
  unfold oConvert at he
  split at he
  case h_2 => cases he
  case h_1 es ed h1 h2 =>
    have hs : ∃ ds, P.underlying src = some ds := by
      have := (h.hT _ _ h1).und
      cases hd : es.d <;> simp only [hd] at this
      case struct fs => obtain ⟨F, hF, _⟩ := this; exact ⟨_, hF⟩
      case func => obtain ⟨d, hF, _⟩ := this; exact ⟨_, hF⟩
      case other => obtain ⟨d, hF, _⟩ := this; exact ⟨_, hF⟩
      all_goals exact ⟨_, this⟩
    obtain ⟨ds, hs⟩ := hs
    have hu := (h.hT _ _ h2).und
    split at he
    case h_3 => cases he
    case h_1 k j n hd hv =>
      rw [kInt_eq h.hF] at he
      cases he
      rw [hv, rep_int] at hx
      simp only [hd] at hu
      exact ⟨rfl, rfl, _, by simp [execOp, hx, convert, run_underlying hs, run_underlying hu, Conv.intToInt], rep_int.2 rfl, by simp [names, names2, names1, names0]⟩
    case h_2 b hd hv =>
      have := val_inv he
      subst this
      rw [hv, rep_str] at hx
      simp only [hd] at hu
      exact ⟨rfl, rfl, _, by simp [execOp, hx, convert, run_underlying hs, run_underlying hu], rep_str.2 rfl, by simp [names, names2, names1, names0]⟩
theorem nthOff_eq : ∀ (l : List (Nat × Nat)) (i : Nat), nthOff l i = l[i]?
  | [], _ => by simp [nthOff]
  | _ :: _, 0 => rfl
  | _ :: r, i + 1 => by simp [nthOff, nthOff_eq r i]
theorem fieldOff_inv {T : Tab} (hT : TabOk P V.T) {t f : Nat} {fo : Nat × Nat} (h : fieldOff V t f = some fo) : ∃ F fd, P.underlying t = some (.struct F) ∧ F[f]? = some fd ∧ fo = (fd.offset, fd.type) := by
  unfold fieldOff at h
  split at h
  case h_2 => cases h
  case h_1 e he =>
    split at h
    case h_2 => cases h
    case h_1 fs hd =>
      have hu := (hT _ _ he).und
      simp only [hd] at hu
      obtain ⟨F, hF, hfs⟩ := hu
      subst hfs
      rw [nthOff_eq, List.getElem?_map] at h
      cases hf : F.toList[f]? with
      | none => simp [hf] at h
      | some fd =>
        simp only [hf, Option.map_some, Option.some.injEq] at h
        exact ⟨F, fd, hF, by simpa using hf, h.symm⟩
theorem oField_ok (h : Hyp P X U V s a w g) {t f : Nat} {x : Operand} (he : oField V t x f some = some e) : VOk P U ⟨dst, .field t x f, ty, pos, af, gd⟩ a w g e := by
  have hx := h.op x
  have hn := h.opn x
  unfold oField at he
  split at he
  case h_2 => cases he
  case h_1 fo cs hfo hv =>
    obtain ⟨F, fd, hF, hf, rfl⟩ := fieldOff_inv (T := V.T) h.hT hfo
    rw [hv, rep_aggE] at hx
    rw [hv] at hn
    obtain ⟨vs, hvs, hl⟩ := hx
    obtain ⟨u, hr, h1, h2, h3, h4⟩ := part_ok (P := P) (w := w) (arr := vs.toArray) h.hF h.hT (by simpa using hl) he
    refine ⟨h1, h2, u, ?_, h3, fun b hb => hn b (h4 b hb)⟩
    simp [execOp, hvs, Instr.field, run_underlying hF, hf, asAgg, hr]
theorem moveOff_ok (h : Hyp P X U V s a w g) {p : AV} {v : Value} {fo : Nat} (hr : Rep w g p v) (hn : ∀ b ∈ names p, U b) (he : moveOff p fo some = some e) : e.wr = [] ∧ e.fz = [] ∧ ∃ B o, v = .pointer (some ⟨B, o, none⟩) ∧ Rep w g e.val (.pointer (some ⟨B, o + fo, none⟩)) ∧ ∀ b ∈ names e.val, U b := by
  unfold moveOff at he
  split at he
  case h_4 => cases he
  case h_1 b off =>
    rw [frcN_eq] at he
    have := val_inv he
    subst this
    obtain ⟨B, hB, hv⟩ := hr
    exact ⟨rfl, rfl, B, off, hv, ⟨B, hB, rfl⟩, hn⟩
  case h_2 r l i off =>
    rw [frcN_eq] at he
    have := val_inv he
    subst this
    obtain ⟨B, o, x, hv, hi, hq⟩ := hr
    exact ⟨rfl, rfl, B, _, hv, ⟨B, o, x, by rw [Nat.add_assoc], hi, hq⟩, hn⟩
  case h_3 b z i off =>
    rw [frcN_eq] at he
    have := val_inv he
    subst this
    obtain ⟨B, hB, hi, hv⟩ := hr
    exact ⟨rfl, rfl, B, _, hv, ⟨B, hB, hi, by rw [Nat.add_assoc]⟩, hn⟩
theorem oFieldAddr_ok (h : Hyp P X U V s a w g) {t f : Nat} {x : Operand} (he : oFieldAddr V t x f some = some e) : VOk P U ⟨dst, .fieldAddr t x f, ty, pos, af, gd⟩ a w g e := by
  unfold oFieldAddr at he
  split at he
  case h_2 => cases he
  case h_1 fo hfo =>
    obtain ⟨F, fd, hF, hf, rfl⟩ := fieldOff_inv (T := V.T) h.hT hfo
    split at he
    case h_2 => cases he
    case h_1 fe hfe =>
      obtain ⟨hz, he⟩ := chk_some he
      have hz' : fe.size ≠ 0 := by
        intro hc
        rw [hc] at hz
        cases hz
      obtain ⟨h1, h2, B, o, hv, hr, hn⟩ := moveOff_ok h (h.op x) (h.opn x) he
      refine ⟨h1, h2, _, ?_, hr, hn⟩
      simp only [execOp, hv]
      simp [Instr.fieldAt, run_underlying hF, hf, Instr.sureAddr, fieldPlace, (h.hT _ _ hfe).size_run, hz', add_zero]
end
end Go.Proofs.Ytcjhegiidnjepaa.Ev
