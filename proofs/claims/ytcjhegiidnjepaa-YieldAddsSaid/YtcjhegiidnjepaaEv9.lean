/- Comparisons, arithmetic, places in slices and arrays, loads, function values, lengths. -/
import Derived.Test.YtcjhegiidnjepaaEv8
import Derived.Laws.Small
import Derived.Laws.Strings
namespace Go.Proofs.Ytcjhegiidnjepaa.Ev
open Go.RowKit
set_option linter.unusedVariables false
set_option linter.unusedSimpArgs false

section
variable {P : Program} {T : Tab} {w : World} {g : Gh}
/-- Cells that make up a value of the type. -/
def Cl (w : World) (g : Gh) (e : TyE) (xs : List AV) (x : Value) : Prop := bif isAgg e.d then (∃ vs : List Value, x = .agg vs.toArray ∧ RepL (Rep1 w g) xs vs) else ∃ c, xs = [c] ∧ Rep1 w g c x
theorem andO_inv {a b : Option Bool} {r : Bool} (h : andO a b = some r) : ∃ x y, a = some x ∧ b = some y ∧ r = (x && y) := by
  cases a <;> cases b <;> simp [andO] at h
  exact ⟨_, _, rfl, rfl, h.symm⟩
theorem eq1_single {d : TyD} {xs ys : List AV} {r : Bool} (h : eq1 d xs ys = some r) : (∃ c, xs = [c]) ∧ ∃ c, ys = [c] := by
  unfold eq1 at h
  split at h <;> first | exact ⟨⟨_, rfl⟩, ⟨_, rfl⟩⟩ | cases h
theorem eqT_single {n t : Nat} {e : TyE} {xs ys : List AV} {r : Bool} (he : get T t = some e) (ha : isAgg e.d = false) (h : eqT T n t xs ys = some r) : (∃ c, xs = [c]) ∧ ∃ c, ys = [c] := by
  cases n with
  | zero => simp [eqT] at h
  | succ n =>
    simp only [eqT, he] at h
    split at h
    · rename_i hd; simp [hd, isAgg] at ha
    · rename_i hd; simp [hd, isAgg] at ha
    · exact eq1_single h
theorem part_cl (hT : TabOk P T) {t : Nat} {fe : TyE} (he : get T t = some fe) {xs : List AV} {arr : Array Value} (off : Nat) (hr : RepL (Rep1 w g) xs arr.toList) (hs : isAgg fe.d = false → ∃ c, takeN fe.size (dropN off xs) = [c]) :
    ∃ x, (part t arr off).run P w = .ok x w ∧ Cl w g fe (takeN fe.size (dropN off xs)) x := by
  rw [dropN_eq, takeN_eq] at hs ⊢
  cases ha : isAgg fe.d
  · obtain ⟨c, hc⟩ := hs ha
    have hc0 : xs[off]? = some c := by
      have h1 := congrArg (·[0]?) hc
      simp only [List.getElem?_cons_zero, List.getElem?_take] at h1
      split at h1
      · simpa using h1
      · cases h1
    obtain ⟨v, hv, hcv⟩ := hr.get hc0
    refine ⟨v, ?_, ?_⟩
    · have hv' : arr[off]? = some v := by simpa using hv
      simp [part, (hT t fe he).agg_run, ha, hv']
    · simp only [Cl, ha, cond_false]
      exact ⟨c, hc, hcv⟩
  · refine ⟨.agg (arr.extract off (off + fe.size)), ?_, ?_⟩
    · unfold part
      simp only [Sem.run_bind, (hT t fe he).agg_run, ha, Result.andThen_ok, if_true, (hT t fe he).size_run]
      rfl
    · simp only [Cl, ha, cond_true]
      refine ⟨(arr.toList.drop off).take fe.size, ?_, RepL.take _ (hr.drop off)⟩
      congr 1
      apply Array.ext'
      simp [List.extract_eq_take_drop]
theorem eq1_ok (hT : TabOk P T) {t : Nat} {e : TyE} (he : get T t = some e) (ha : isAgg e.d = false) {xs ys : List AV} {x y : Value} {r : Bool} (hx : Cl w g e xs x) (hy : Cl w g e ys y) (h : eq1 e.d xs ys = some r) (d : Nat) :
    (Op.equalIn (d + 1) t x y).run P w = .ok r w := by
  have hu := (hT t e he).und
  simp only [Cl, ha, cond_false] at hx hy
  obtain ⟨c, rfl, hx⟩ := hx
  obtain ⟨c', rfl, hy⟩ := hy
  unfold eq1 at h
  split at h
  case h_7 => cases h
  case h_1 k0 k a j b hd e1 e2 =>
    cases e1; cases e2
    simp only [hd] at hu
    simp only [Rep1, Rep0] at hx hy
    subst hx hy
    split at h
    case isFalse => cases h
    case isTrue hk =>
      subst hk
      cases h
      exact run_equalIn_int w d t k k0 a b hu
  case h_2 a b hd e1 e2 =>
    cases e1; cases e2
    simp only [hd] at hu
    simp only [Rep1, Rep0] at hx hy
    subst hx hy
    cases h
    exact run_equalIn_bool' w d t a b hu
  case h_3 a b hd e1 e2 =>
    cases e1; cases e2
    simp only [hd] at hu
    simp only [Rep1, Rep0] at hx hy
    subst hx hy
    cases h
    exact run_equalIn_string w d t a b hu
  case h_4 el hd e1 e2 =>
    cases e1; cases e2
    simp only [hd] at hu
    simp only [Rep1, Rep0] at hx hy
    subst hx hy
    cases h
    simp [Op.equalIn, run_underlying hu]
  case h_5 el b off hd e1 e2 =>
    cases e1; cases e2
    simp only [hd] at hu
    simp only [Rep1, Rep0] at hx hy
    obtain ⟨B, _, rfl⟩ := hy
    subst hx
    cases h
    simp [Op.equalIn, run_underlying hu]
  case h_6 el b off hd e1 e2 =>
    cases e1; cases e2
    simp only [hd] at hu
    simp only [Rep1, Rep0] at hx hy
    obtain ⟨B, _, rfl⟩ := hx
    subst hy
    cases h
    simp [Op.equalIn, run_underlying hu]
def EqOk (P : Program) (T : Tab) (w : World) (g : Gh) (d : Nat) (R : Nat → List AV → List AV → Option Bool) : Prop :=
  ∀ t e xs ys x y r, get T t = some e → Cl w g e xs x → Cl w g e ys y → R t xs ys = some r → (Op.equalIn d t x y).run P w = .ok r w
theorem eqFs_ok (hT : TabOk P T) {d : Nat} {R : Nat → List AV → List AV → Option Bool} (hR : EqOk P T w g d R) (hs : ∀ t e xs ys r, get T t = some e → isAgg e.d = false → R t xs ys = some r → (∃ c, xs = [c]) ∧ ∃ c, ys = [c])
    {xs ys : List AV} {ax ay : Array Value} (hx : RepL (Rep1 w g) xs ax.toList) (hy : RepL (Rep1 w g) ys ay.toList) : ∀ (F : List Field) (r : Bool), (∀ f ∈ F, f.name ≠ "_") → eqFs T R (F.map fun f => (f.offset, f.type)) xs ys = some r → (Op.eqFields d ax ay F).run P w = .ok r w
  | [], r, _, h => by simp only [List.map_nil, eqFs, Option.some.injEq] at h; subst h; simp [Op.eqFields]
  | f :: F, r, hn, h => by
    simp only [List.map_cons, eqFs] at h
    split at h
    case h_2 => cases h
    case h_1 fe he =>
      obtain ⟨p, q, h1, h2, rfl⟩ := andO_inv h
      obtain ⟨x, hx1, hx2⟩ := part_cl hT he f.offset hx (fun ha => (hs _ _ _ _ _ he ha h1).1)
      obtain ⟨y, hy1, hy2⟩ := part_cl hT he f.offset hy (fun ha => (hs _ _ _ _ _ he ha h1).2)
      have h3 := hR _ _ _ _ x y p he hx2 hy2 h1
      have ih := eqFs_ok hT hR hs hx hy F q (fun f hf => hn f (by simp [hf])) h2
      simp only [Op.eqFields, if_pos (hn f (by simp)), Sem.run_bind, hx1, hy1, h3, Result.andThen_ok]
      cases p <;> simp [ih]
theorem eqIs_ok (hT : TabOk P T) {d el : Nat} {ee : TyE} {R : Nat → List AV → List AV → Option Bool} (hR : EqOk P T w g d R) (hs : ∀ t e xs ys r, get T t = some e → isAgg e.d = false → R t xs ys = some r → (∃ c, xs = [c]) ∧ ∃ c, ys = [c])
    (he : get T el = some ee) {xs ys : List AV} {ax ay : Array Value} (hx : RepL (Rep1 w g) xs ax.toList) (hy : RepL (Rep1 w g) ys ay.toList) : ∀ (m i : Nat) (r : Bool), eqIs (R el) ee.size m (dropN (i * ee.size) xs) (dropN (i * ee.size) ys) = some r → (Op.eqItems d el ee.size ax ay (List.range' i m)).run P w = .ok r w
  | 0, i, r, h => by simp only [eqIs, Option.some.injEq] at h; subst h; simp [Op.eqItems]
  | m + 1, i, r, h => by
    simp only [eqIs] at h
    obtain ⟨p, q, h1, h2, rfl⟩ := andO_inv h
    obtain ⟨x, hx1, hx2⟩ := part_cl hT he (i * ee.size) hx (fun ha => (hs _ _ _ _ _ he ha h1).1)
    obtain ⟨y, hy1, hy2⟩ := part_cl hT he (i * ee.size) hy (fun ha => (hs _ _ _ _ _ he ha h1).2)
    have h3 := hR _ _ _ _ x y p he hx2 hy2 h1
    have e1 : ∀ l : List AV, dropN ee.size (dropN (i * ee.size) l) = dropN ((i + 1) * ee.size) l := by
      intro l
      simp only [dropN_eq, List.drop_drop]
      congr 1
      rw [Nat.add_mul, Nat.one_mul]
    rw [e1, e1] at h2
    have ih := eqIs_ok hT hR hs he hx hy m (i + 1) q h2
    simp only [List.range'_succ, Op.eqItems, Sem.run_bind, hx1, hy1, h3, Result.andThen_ok]
    cases p <;> simp [ih]
theorem eqT_ok (hT : TabOk P T) : ∀ (n d : Nat), EqOk P T w g (d + n) (eqT T n)
  | 0, d => by intro t e xs ys x y r _ _ _ h; simp [eqT] at h
  | n + 1, d => by
    intro t e xs ys x y r he hx hy h
    have hu := (hT t e he).und
    simp only [eqT, he] at h
    split at h
    case h_1 fs hd =>
      simp only [hd] at hu
      obtain ⟨F, hF, rfl⟩ := hu
      cases hq : e.eq
      · simp [hq] at h
      · simp only [hq, cond_true] at h
        obtain ⟨_, hh, hn⟩ := (hT t e he).eq hq
        simp only [Cl, hd, isAgg, cond_true] at hx hy
        obtain ⟨vx, rfl, hx⟩ := hx
        obtain ⟨vy, rfl, hy⟩ := hy
        have hf : P.fieldsOf t = F := by simp [Program.fieldsOf, hF]
        rw [show d + (n + 1) = (d + n) + 1 from rfl, run_equalIn_struct w (d + n) t _ _ (by rw [hf]; exact hF) hh, hf]
        exact eqFs_ok hT (eqT_ok hT n d) (fun t e xs ys r h1 h2 h3 => eqT_single h1 h2 h3) (by simpa using hx) (by simpa using hy) F.toList r (hn F hF) h
    case h_2 m el hd =>
      simp only [hd] at hu
      split at h
      case h_2 => cases h
      case h_1 ee hee =>
        cases hq : e.eq
        · simp [hq] at h
        · simp only [hq, cond_true] at h
          simp only [Cl, hd, isAgg, cond_true] at hx hy
          obtain ⟨vx, rfl, hx⟩ := hx
          obtain ⟨vy, rfl, hy⟩ := hy
          obtain ⟨i, z, hi, hsz, _⟩ := (hT el ee hee).info
          have hc : P.cellsOf el = ee.size := by simp [Program.cellsOf, hi, hsz]
          rw [show d + (n + 1) = (d + n) + 1 from rfl, run_equalIn_array w (d + n) _ _ hu hi, hc, List.range_eq_range']
          exact eqIs_ok hT (eqT_ok hT n d) (fun t e xs ys r h1 h2 h3 => eqT_single h1 h2 h3) hee (by simpa using hx) (by simpa using hy) m 0 r (by simpa [dropN] using h)
    case h_3 hns hna =>
      have ha : isAgg e.d = false := by
        cases hd : e.d <;> first | rfl | exact absurd hd (hns _) | exact absurd hd (hna _ _)
      exact eq1_ok hT he ha hx hy h (d + n)
end
theorem eqGuard_run {P : Program} {w : World} (op : BinOp) (t : TypeId) (x y : Operand) {u v : Value} (h1 : u ≠ .nilIface) (h2 : ∀ cs, u ≠ .agg cs) : (eqGuard op t x y u v).run P w = .ok () w := by
  unfold eqGuard
  cases op <;> simp <;> (try rfl)
  all_goals (cases u <;> simp_all [Sem.run] <;> rfl)
section
variable {P : Program} {X : Fix} {U : Nat → Prop} {dst : Option Tmp} {ty : TypeId} {pos : String} {af : Array Edge} {gd : Option (Nat × Bool)} {s : Sx} {a : Act} {w : World} {g : Gh} {e : Eff} {V : Vw}
theorem exec_bin {ρ : Operand → Value} {t t2 : TypeId} {x y : Operand} (op : BinOp) {u v r : Value} (hx : ρ x = u) (hy : ρ y = v) (h1 : (eqGuard op t x y u v).run P w = .ok () w) (h2 : (binOp op t u v).run P w = .ok r w) : (execOp ρ ⟨dst, .binOp op t x y t2, ty, pos, af, gd⟩).run P w = .ok (.value r) w := by
  simp only [execOp, hx, hy]
  simp [h1, h2]
theorem binInt_ok (hF : V.F.Law) {op : BinOp} {t : TypeId} {k j : IntKind} {n m : Int} (he : binInt V.F op k j n m some = some e) : e.wr = [] ∧ e.fz = [] ∧ ∃ u, (binOp op t (.int k n) (.int j m)).run P w = .ok u w ∧ Rep w g e.val u ∧ names e.val = [] := by
  unfold binInt at he
  split at he
  · obtain ⟨hc, he⟩ := chk_some he
    rw [kInt_eq hF] at he
    cases he
    have hb : ¬ m < 0 := by simpa using hc
    exact ⟨rfl, rfl, _, by simp only [binOp, Op.shift, if_neg hb]; rfl, rep_int.2 rfl, rfl⟩
  · obtain ⟨hc, he⟩ := chk_some he
    rw [kInt_eq hF] at he
    cases he
    have hb : ¬ m < 0 := by simpa using hc
    exact ⟨rfl, rfl, _, by simp only [binOp, Op.shift, if_neg hb]; rfl, rep_int.2 rfl, rfl⟩
  · obtain ⟨hc, he2⟩ := chk_some he
    clear he
    have hk : k = j := by simpa using hc
    subst hk
    unfold arith at he2
    split at he2
    case h_4 =>
      obtain ⟨hz, he3⟩ := chk_some he2
      have hz : m ≠ 0 := by simpa using hz
      rw [kInt_eq hF] at he3
      cases he3
      exact ⟨rfl, rfl, _, by simp [binOp, Op.intDiv, hz], rep_int.2 rfl, rfl⟩
    case h_5 =>
      obtain ⟨hz, he3⟩ := chk_some he2
      have hz : m ≠ 0 := by simpa using hz
      rw [kInt_eq hF] at he3
      cases he3
      exact ⟨rfl, rfl, _, by simp [binOp, Op.intDiv, hz], rep_int.2 rfl, rfl⟩
    all_goals first
      | (rw [kInt_eq hF] at he2; cases he2; exact ⟨rfl, rfl, _, by simp [binOp, Op.intArith, Op.intBits], rep_int.2 rfl, rfl⟩)
      | (rw [kBool_eq hF] at he2; cases he2; exact ⟨rfl, rfl, _, by simp [binOp, Op.intCmp], rep_bool.2 rfl, rfl⟩)
      | cases he2
theorem binStr_ok (hF : V.F.Law) {op : BinOp} {t : TypeId} {p q : ByteArray} (he : binStr V.F op p q some = some e) : e.wr = [] ∧ e.fz = [] ∧ ∃ u, (binOp op t (.string p) (.string q)).run P w = .ok u w ∧ Rep w g e.val u ∧ names e.val = [] := by
  unfold binStr at he
  split at he
  case h_4 => cases he
  all_goals
    rw [kBool_eq hF] at he
    cases he
    exact ⟨rfl, rfl, _, by simp [binOp, Op.stringOp], rep_bool.2 rfl, rfl⟩
theorem eqv_inv (hF : V.F.Law) {op : BinOp} {r : Option Bool} (he : eqv V.F op r some = some e) : ∃ b, r = some b ∧ ((op = .eql ∧ e = ⟨.bool b, [], []⟩) ∨ (op = .neq ∧ e = ⟨.bool (!b), [], []⟩)) := by
  unfold eqv at he
  split at he
  case h_3 => cases he
  case h_1 b => rw [kBool_eq hF] at he; cases he; exact ⟨_, rfl, .inl ⟨rfl, rfl⟩⟩
  case h_2 b => rw [kBool_eq hF] at he; cases he; exact ⟨_, rfl, .inr ⟨rfl, rfl⟩⟩
theorem bin_ok (h : Hyp P X U V s a w g) {op : BinOp} {t t2 : Nat} {x y : Operand} (he : bin V op t (opnd V.tm x) (opnd V.tm y) some = some e) : VOk P U ⟨dst, .binOp op t x y t2, ty, pos, af, gd⟩ a w g e := by
  have hx := h.op x
  have hy := h.op y
  unfold bin at he
  split at he
  case h_1 k n j m h1 h2 =>
    rw [h1, rep_int] at hx
    rw [h2, rep_int] at hy
    obtain ⟨e1, e2, u, hu, hr, hn⟩ := binInt_ok (P := P) (w := w) (g := g) (t := t) h.hF he
    exact ⟨e1, e2, u, exec_bin op hx hy (eqGuard_run op t x y (by simp) (by simp)) hu, hr, by simp [hn]⟩
  case h_2 p q h1 h2 =>
    rw [h1, rep_str] at hx
    rw [h2, rep_str] at hy
    obtain ⟨e1, e2, u, hu, hr, hn⟩ := binStr_ok (P := P) (w := w) (g := g) (t := t) h.hF he
    exact ⟨e1, e2, u, exec_bin op hx hy (eqGuard_run op t x y (by simp) (by simp)) hu, hr, by simp [hn]⟩
  case h_3 xs ys h1 h2 =>
    rw [h1, rep_aggE] at hx
    rw [h2, rep_aggE] at hy
    obtain ⟨vx, hx, hlx⟩ := hx
    obtain ⟨vy, hy, hly⟩ := hy
    obtain ⟨b, hb, ho⟩ := eqv_inv h.hF he
    have hag : ∃ te, get V.T t = some te ∧ isAgg te.d = true ∧ te.eq = true ∧ eqT V.T 8 t xs ys = some b := by
      unfold eqA at hb
      split at hb
      case h_2 => cases hb
      case h_1 te hte =>
        cases hc : isAgg te.d && te.eq
        · simp [hc] at hb
        · simp only [hc, cond_true] at hb
          simp only [Bool.and_eq_true] at hc
          exact ⟨te, hte, hc.1, hc.2, hb⟩
    obtain ⟨te, hte, hag, hq, hb⟩ := hag
    have hrun := eqT_ok (P := P) (w := w) (g := g) h.hT 8 9992 t te xs ys (.agg vx.toArray) (.agg vy.toArray) b hte (by simp only [Cl, hag, cond_true]; exact ⟨vx, rfl, hlx⟩) (by simp only [Cl, hag, cond_true]; exact ⟨vy, rfl, hly⟩) hb
    have hg := run_eqGuard_agg (P := P) (w := w) op t x y vx.toArray vy.toArray ((h.hT t te hte).eq hq).1
    rcases ho with ⟨rfl, rfl⟩ | ⟨rfl, rfl⟩
    · exact ⟨rfl, rfl, .bool b, exec_bin .eql hx hy hg (by rw [run_eql_struct, hrun]; rfl), rep_bool.2 rfl, by simp [names, names2, names1, names0]⟩
    · exact ⟨rfl, rfl, .bool (!b), exec_bin .neq hx hy hg (by rw [run_neq_struct, hrun]; rfl), rep_bool.2 rfl, by simp [names, names2, names1, names0]⟩
  case h_4 h1 h2 h3 =>
    obtain ⟨b, hb, ho⟩ := eqv_inv h.hF he
    unfold eqB at hb
    split at hb
    case h_2 => cases hb
    case h_1 te hte =>
      cases ha : isAgg te.d
      case true => simp [ha] at hb
      case false =>
        simp only [ha, cond_false] at hb
        have cl : ∀ {c : AV} {u : Value}, Rep w g c u → (∃ B off, c = .ptr B off) ∨ c = .nilp ∨ (∃ q, c = .bool q) → Cl w g te [c] u ∧ u ≠ .nilIface ∧ (∀ cs, u ≠ .agg cs) ∧ ((∃ q, u = .bool q) ∨ ∃ q, u = .pointer q) := by
          intro c u hr hc
          rcases hc with ⟨B, off, rfl⟩ | rfl | ⟨q, rfl⟩
          · have hr' := hr
            obtain ⟨B', _, rfl⟩ := hr'
            exact ⟨by simp only [Cl, ha, cond_false]; exact ⟨_, rfl, hr⟩, by simp, by simp, .inr ⟨_, rfl⟩⟩
          · have hr' : u = .pointer none := hr
            subst hr'
            exact ⟨by simp only [Cl, ha, cond_false]; exact ⟨_, rfl, hr⟩, by simp, by simp, .inr ⟨_, rfl⟩⟩
          · have hr' := rep_bool.1 hr
            subst hr'
            exact ⟨by simp only [Cl, ha, cond_false]; exact ⟨_, rfl, hr⟩, by simp, by simp, .inl ⟨_, rfl⟩⟩
        have hkind : ((∃ B off, opnd V.tm x = .ptr B off) ∨ opnd V.tm x = .nilp ∨ ∃ q, opnd V.tm x = .bool q) ∧ ((∃ B off, opnd V.tm y = .ptr B off) ∨ opnd V.tm y = .nilp ∨ ∃ q, opnd V.tm y = .bool q) := by
          have hb' := hb
          unfold eq1 at hb'
          split at hb' <;> rename_i e1 e2 <;> (try (cases hb'; done))
          · simp only [List.cons.injEq, and_true] at e1 e2; exact absurd e2 (h1 _ _ _ _ e1)
          · simp only [List.cons.injEq, and_true] at e1 e2; exact ⟨.inr (.inr ⟨_, e1⟩), .inr (.inr ⟨_, e2⟩)⟩
          · simp only [List.cons.injEq, and_true] at e1 e2; exact absurd e2 (h2 _ _ e1)
          · simp only [List.cons.injEq, and_true] at e1 e2; exact ⟨.inr (.inl e1), .inr (.inl e2)⟩
          · simp only [List.cons.injEq, and_true] at e1 e2; exact ⟨.inr (.inl e1), .inl ⟨_, _, e2⟩⟩
          · simp only [List.cons.injEq, and_true] at e1 e2; exact ⟨.inl ⟨_, _, e1⟩, .inr (.inl e2)⟩
        obtain ⟨cx, nx, ax, kx⟩ := cl hx hkind.1
        obtain ⟨cy, ny, ay, ky⟩ := cl hy hkind.2
        have hrun := eq1_ok (P := P) h.hT hte ha cx cy hb 9999
        have hg := eqGuard_run (P := P) (w := w) op t x y (v := a.eval y) nx ax
        have beq : (binOp .eql t (a.eval x) (a.eval y)).run P w = .ok (.bool b) w := by
          rcases kx with ⟨q, hq⟩ | ⟨q, hq⟩ <;> rw [hq] at hrun ⊢ <;> simp only [binOp] <;> simp [Op.equal, Op.maxDepth, hrun]
        have bne : (binOp .neq t (a.eval x) (a.eval y)).run P w = .ok (.bool (!b)) w := by
          rcases kx with ⟨q, hq⟩ | ⟨q, hq⟩ <;> rw [hq] at hrun ⊢ <;> simp only [binOp] <;> simp [Op.equal, Op.maxDepth, hrun]
        rcases ho with ⟨rfl, rfl⟩ | ⟨rfl, rfl⟩
        · exact ⟨rfl, rfl, .bool b, exec_bin .eql rfl rfl hg beq, rep_bool.2 rfl, by simp [names, names2, names1, names0]⟩
        · exact ⟨rfl, rfl, .bool (!b), exec_bin .neq rfl rfl hg bne, rep_bool.2 rfl, by simp [names, names2, names1, names0]⟩
end
end Go.Proofs.Ytcjhegiidnjepaa.Ev
