/- Lengths, extrema; what is told becomes protected. -/
import Derived.Test.YtcjhegiidnjepaaEvA
import Derived.Laws.Slices
namespace Go.Proofs.Ytcjhegiidnjepaa.Ev
open Go.RowKit
set_option linter.unusedVariables false
set_option linter.unusedSimpArgs false

section
variable {P : Program} {X : Fix} {U : Nat → Prop} {dst : Option Tmp} {ty : TypeId} {pos : String} {af : Array Edge} {gd : Option (Nat × Bool)} {s : Sx} {a : Act} {w : World} {g : Gh} {e : Eff} {V : Vw}
theorem rep_len (h : Hyp P X U V s a w g) {t : Nat} {te : TyE} (ht : get V.T t = some te) {x : AV} {u : Value} (hx : Rep w g x u) (he : oLen V te.d x some = some e) :
    ∃ n : Nat, e = ⟨.int .i64 n, [], []⟩ ∧ (Builtin.len_ #[t] ty #[u]).run P w = .ok (goInt n) w := by
  have hu := (h.hT _ _ ht).und
  have sl : isSl te.d = true → P.underlying t = some (.slice (P.elem t)) := by
    intro hs
    cases hd : te.d <;> simp only [hd, isSl] at hs hu <;> first | cases hs | skip
    simp [hu, Program.elem]
  unfold oLen at he
  split at he
  case h_5 => cases he
  case h_1 b =>
    obtain ⟨hs, he⟩ := chk_some he
    rw [kInt_eq h.hF] at he
    cases he
    rw [rep_str] at hx
    cases hd : te.d <;> simp only [hd, isStr] at hs hu <;> first | cases hs | skip
    exact ⟨b.size, rfl, by simp [Builtin.len_, hx, run_underlying hu]⟩
  case h_2 =>
    obtain ⟨hs, he⟩ := chk_some he
    rw [kInt_eq h.hF] at he
    cases he
    have hx' : u = .slice none 0 0 := hx
    subst hx'
    exact ⟨0, rfl, run_len_slice w t ty none 0 0 (sl hs)⟩
  case h_3 r l =>
    obtain ⟨hs, he⟩ := chk_some he
    rw [kInt_eq h.hF] at he
    cases he
    have hx' : RepLeaf w g.prot (.sl r) l u := hx
    simp only [RepLeaf] at hx'
    obtain ⟨A, c, rfl, _⟩ := hx'
    exact ⟨l.length, rfl, run_len_slice w t ty _ _ _ (sl hs)⟩
  case h_4 b =>
    split at he
    case h_2 => cases he
    case h_1 r l h3 =>
      rw [h.rd] at h3
      obtain ⟨hs, he⟩ := chk_some he
      rw [kInt_eq h.hF] at he
      cases he
      obtain ⟨e1, e2, e3⟩ := h.sim.blk b _ h3
      have hx' : Rep0 w g (.own b) u := hx
      simp only [Rep0] at hx'
      cases hB : g.at_ b with
      | none =>
        rw [hB] at hx'
        obtain ⟨rfl, _⟩ := hx'
        have := e2 hB
        subst this
        exact ⟨0, rfl, run_len_slice w t ty none 0 0 (sl hs)⟩
      | some B =>
        rw [hB] at hx'
        subst hx'
        exact ⟨l.length, rfl, by rw [← e1]; exact run_len_slice w t ty _ _ _ (sl hs)⟩
theorem rep_max (hF : V.F.Law) {k : IntKind} : ∀ (l : List AV) (us : List Value) (n : Int), RepL (Rep w g) l us → oMax V k n l some = some e → ∃ m, e = ⟨.int k m, [], []⟩ ∧ (us.foldlM Builtin.max2 (.int k n)).run P w = .ok (.int k m) w
  | [], us, n, hl, he => by
    simp only [RepL] at hl
    subst hl
    exact ⟨n, val_inv he, by simp⟩
  | c :: l, [], n, hl, _ => by simp [RepL] at hl
  | c :: l, u :: us, n, hl, he => by
    simp only [RepL] at hl
    cases c <;> simp only [oMax] at he <;> (try (cases he; done))
    rename_i j y
    rw [hF.i] at he
    have hu := rep_int.1 hl.1
    subst hu
    obtain ⟨m, h1, h2⟩ := rep_max hF l us _ hl.2 he
    refine ⟨m, h1, ?_⟩
    simp only [List.foldlM_cons, Sem.run_bind, Builtin.max2, Sem.run_pure, Result.andThen_ok]
    exact h2
theorem rep_min (hF : V.F.Law) {k : IntKind} : ∀ (l : List AV) (us : List Value) (n : Int), RepL (Rep w g) l us → oMin V k n l some = some e → ∃ m, e = ⟨.int k m, [], []⟩ ∧ (us.foldlM Builtin.min2 (.int k n)).run P w = .ok (.int k m) w
  | [], us, n, hl, he => by
    simp only [RepL] at hl
    subst hl
    exact ⟨n, val_inv he, by simp⟩
  | c :: l, [], n, hl, _ => by simp [RepL] at hl
  | c :: l, u :: us, n, hl, he => by
    simp only [RepL] at hl
    cases c <;> simp only [oMin] at he <;> (try (cases he; done))
    rename_i j y
    rw [hF.i] at he
    have hu := rep_int.1 hl.1
    subst hu
    obtain ⟨m, h1, h2⟩ := rep_min hF l us _ hl.2 he
    refine ⟨m, h1, ?_⟩
    simp only [List.foldlM_cons, Sem.run_bind, Builtin.min2, Sem.run_pure, Result.andThen_ok]
    exact h2
theorem call_builtin {c : Call} {b : Builtin} (hc : c.callee = .builtin b) {ρ : Operand → Value} :
    (execOp ρ ⟨dst, .call c, ty, pos, af, gd⟩).run P w = (builtin b c.argTypes ty (c.args.map fun | .const _ => true | _ => false) (c.args.map ρ)).run P w := by
  obtain ⟨callee, args, ats⟩ := c
  simp only at hc
  subst hc
  simp [execOp, resolve, invoke]
  rfl
theorem oCall_len (h : Hyp P X U V s a w g) {c : Call} (hc : c.callee = .builtin .len) (he : oCall V c some = some e) : VOk P U ⟨dst, .call c, ty, pos, af, gd⟩ a w g e := by
  have ho := opnds_rep h c.args.toList
  unfold oCall at he
  rw [hc] at he
  simp only at he
  split at he
  case h_2 => cases he
  case h_1 x t h1 h2 =>
    split at he
    case h_2 => cases he
    case h_1 te hte =>
      rw [h1] at ho
      cases hm : c.args.toList.map a.eval with
      | nil => rw [hm] at ho; simp [RepL] at ho
      | cons u r =>
        rw [hm] at ho
        simp only [RepL] at ho
        obtain ⟨hx, rfl⟩ := ho
        obtain ⟨n, rfl, hr⟩ := rep_len (ty := ty) h hte hx he
        have ha : c.args.map a.eval = #[u] := by apply Array.ext'; simpa using hm
        have ht : c.argTypes = #[t] := by apply Array.ext'; simpa using h2
        refine ⟨rfl, rfl, goInt n, ?_, rep_int.2 rfl, by simp [names, names2, names1, names0]⟩
        rw [call_builtin hc, ha, ht]
        simp [builtin, hr]
theorem oCall_max (h : Hyp P X U V s a w g) {c : Call} (hc : c.callee = .builtin .max) (he : oCall V c some = some e) : VOk P U ⟨dst, .call c, ty, pos, af, gd⟩ a w g e := by
  have ho := opnds_rep h c.args.toList
  unfold oCall at he
  rw [hc] at he
  simp only at he
  split at he
  case h_2 => cases he
  case h_1 k n r h1 =>
    rw [h1] at ho
    cases hm : c.args.toList.map a.eval with
    | nil => rw [hm] at ho; simp [RepL] at ho
    | cons u us =>
      rw [hm] at ho
      simp only [RepL] at ho
      obtain ⟨hx, hl⟩ := ho
      rw [rep_int] at hx
      subst hx
      obtain ⟨m, rfl, hr⟩ := rep_max (P := P) h.hF r us n hl he
      refine ⟨rfl, rfl, _, ?_, rep_int.2 rfl, by simp [names, names2, names1, names0]⟩
      rw [call_builtin hc]
      simp [builtin, Builtin.max_, hm, hr]
theorem oCall_min (h : Hyp P X U V s a w g) {c : Call} (hc : c.callee = .builtin .min) (he : oCall V c some = some e) : VOk P U ⟨dst, .call c, ty, pos, af, gd⟩ a w g e := by
  have ho := opnds_rep h c.args.toList
  unfold oCall at he
  rw [hc] at he
  simp only at he
  split at he
  case h_2 => cases he
  case h_1 k n r h1 =>
    rw [h1] at ho
    cases hm : c.args.toList.map a.eval with
    | nil => rw [hm] at ho; simp [RepL] at ho
    | cons u us =>
      rw [hm] at ho
      simp only [RepL] at ho
      obtain ⟨hx, hl⟩ := ho
      rw [rep_int] at hx
      subst hx
      obtain ⟨m, rfl, hr⟩ := rep_min (P := P) h.hF r us n hl he
      refine ⟨rfl, rfl, _, ?_, rep_int.2 rfl, by simp [names, names2, names1, names0]⟩
      rw [call_builtin hc]
      simp [builtin, Builtin.min_, hm, hr]
end

/-! ### Own slices that are told as read ones: their cells become protected -/
theorem RepRow.keepB {w w' : World} {pr pr' : Nat → Nat → Prop} (h : Keeps w w' pr pr') : ∀ {r : Row} {x : Row.T r} {q q' : Nat → Value → Prop} {o : Nat}, (∀ j u, o ≤ j → j < o + Row.size r → q j u → q' j u) → RepRow w pr r x q o → RepRow w' pr' r x q' o
  | .one l, x, q, q', o, hq, hr => by
    simp only [RepRow] at hr ⊢
    obtain ⟨u, hu, hl⟩ := hr
    exact ⟨u, hq _ _ (Nat.le_refl _) (by simp [Row.size]) hu, RepLeaf.keep h hl⟩
  | .cons l r, x, q, q', o, hq, hr => by
    simp only [RepRow] at hr ⊢
    obtain ⟨⟨u, hu, hl⟩, hr⟩ := hr
    exact ⟨⟨u, hq _ _ (Nat.le_refl _) (by simp [Row.size]) hu, RepLeaf.keep h hl⟩, RepRow.keepB h (fun j u h1 h2 => hq j u (by omega) (by simp only [Row.size]; omega)) hr⟩
/-- The cells of the rows that are named become protected. -/
def protMore (s : Sx) (g : Gh) (ns : List Nat) (B o : Nat) : Prop := g.prot B o ∨ ∃ b ∈ ns, ∃ r l, get s.bl b = some (.row r l) ∧ g.at_ b = some B ∧ o < l.length * Row.size r
def Gh.more (s : Sx) (g : Gh) (ns : List Nat) : Gh := ⟨g.at_, g.len, g.cap, protMore s g ns⟩
theorem Gh.more_ext (s : Sx) (g : Gh) (ns : List Nat) (w : World) : GExt w w g (g.more s ns) (fun _ => True) := ⟨fun B o h => ⟨rfl, .inl h⟩, fun _ _ => rfl, fun _ _ => rfl, fun _ _ => rfl⟩
theorem memN_append {l l' : List Nat} {b : Nat} (h : memN (l ++ l') b = false) : memN l b = false ∧ memN l' b = false := by
  constructor
  · cases hc : memN l b with
    | false => rfl
    | true => rw [memN_iff] at hc; have : memN (l ++ l') b = true := (memN_iff _ _).2 (by simp [hc]); rw [h] at this; cases this
  · cases hc : memN l' b with
    | false => rfl
    | true => rw [memN_iff] at hc; have : memN (l ++ l') b = true := (memN_iff _ _).2 (by simp [hc]); rw [h] at this; cases this
theorem Sim.freeze {X : Fix} {U : Nat → Prop} {s : Sx} {a : Act} {w : World} {g : Gh} (h : Sim X U s a w g) (ns : List Nat) : Sim X U ⟨s.tm, s.bl, ns ++ s.fz, s.nx⟩ a w (g.more s ns) := by
  refine ⟨fun t => (h.tmps t).ext (Gh.more_ext s g ns w) (fun _ _ => trivial), h.size, h.dfr, ?_, ?_, ?_, h.inj, h.new, ?_, ?_, h.blt, h.below, h.nmT, h.nmB, h.nmK, h.u0, h.ext.trans (Gh.more_ext s g ns w) (fun _ _ => trivial), h.held, h.mkh, h.mkn, h.hok⟩
  · intro b x hb
    have hr := h.blk b x hb
    cases x with
    | box cs => exact BlkRep.ext (Gh.more_ext s g ns w) trivial (fun _ _ _ _ => trivial) (fun B hB => ⟨rfl, fun o ho => by
        rcases ho with ho | ⟨c, _, r, l, hc, hcB, _⟩
        · exact ho
        · exact absurd (h.inj b c _ _ B hb hc hB hcB) (by rintro rfl; rw [show get s.bl b = some (.box cs) from hb] at hc; cases hc)⟩) hr
    | row r l =>
      obtain ⟨h1, h2, h3⟩ := hr
      refine ⟨h1, h2, fun B hB => ?_⟩
      obtain ⟨arr, ty, e1, e2, e3, e4, e5⟩ := h3 B hB
      refine ⟨arr, ty, e1, e2, e3, fun i y hi => RepRow.keep (Gh.more_ext s g ns w).keep (fun _ _ hq => hq) (e4 i y hi), fun o ho => ?_⟩
      rcases ho with ho | ⟨c, _, r', l', hc, hcB, ho⟩
      · exact e5 o ho
      · obtain rfl := h.inj b c _ _ B hb hc hB hcB
        rw [show get s.bl b = some (.row r l) from hb] at hc
        cases hc
        exact ho
  · intro b cs B o hb hB hp
    rcases hp with hp | ⟨c, _, r, l, hc, hcB, _⟩
    · exact h.unp b cs B o hb hB hp
    · obtain rfl := h.inj b c _ _ B hb hc hB hcB
      rw [show get s.bl b = some (.box cs) from hb] at hc
      cases hc
  · intro b r l B o hb hf hB hp
    obtain ⟨hf1, hf2⟩ := memN_append hf
    rcases hp with hp | ⟨c, hcn, r', l', hc, hcB, _⟩
    · exact h.unf b r l B o hb hf2 hB hp
    · obtain rfl := h.inj b c _ _ B hb hc hB hcB
      rw [(memN_iff _ _).2 hcn] at hf1
      cases hf1
  · intro B o hB
    constructor
    · rintro (hp | ⟨c, _, r, l, hc, hcB, _⟩)
      · exact (h.prot0 B o hB).1 hp
      · exact absurd (.inl hB) (h.new c _ B hc hcB)
    · exact fun hp => .inl ((h.prot0 B o hB).2 hp)
  · rintro B o (hp | ⟨c, _, r, l, hc, hcB, _⟩)
    · exact h.plt B o hp
    · obtain ⟨_, _, h3⟩ := h.blk c _ hc
      obtain ⟨arr, ty, e1, _⟩ := h3 B hcB
      exact (Array.getElem?_eq_some_iff.1 e1).1
/-- A snapshot stands for the same value. -/
theorem snap1_rep {X : Fix} {U : Nat → Prop} {s : Sx} {a : Act} {w : World} {g : Gh} (h : Sim X U s a w g) {ns : List Nat} {v v' : AV} {u : Value} (hs : snap1 (get s.bl) v = some v') (hn : ∀ b ∈ names0 v, b ∈ ns) (hr : Rep0 w g v u) : Rep0 w (g.more s ns) v' u ∧ (∀ b ∈ names0 v', b ∈ names0 v) := by
  cases v
  case own b =>
    simp only [snap1] at hs
    split at hs
    case h_2 => cases hs
    case h_1 r l hb =>
      cases hs
      refine ⟨?_, by simp [names0]⟩
      obtain ⟨h1, h2, h3⟩ := h.blk b _ hb
      simp only [Rep0] at hr ⊢
      simp only [RepLeaf]
      cases hB : g.at_ b with
      | none =>
        rw [hB] at hr
        have := h2 hB
        subst this
        exact ⟨none, 0, hr.1, Nat.le_refl _, fun hl => absurd hl (by simp)⟩
      | some B =>
        rw [hB] at hr
        obtain ⟨arr, ty, e1, e2, e3, e4, e5⟩ := h3 B hB
        refine ⟨some ⟨B, 0, none⟩, g.cap b, by rw [hr, h1], e3.1, fun hl => ⟨B, 0, rfl, fun i x hi => ?_⟩⟩
        refine RepRow.keepB (Gh.more_ext s g ns w).keep (fun j u hj1 hj2 hq => ?_) (e4 i x hi)
        rw [Nat.zero_add]
        refine ⟨by rw [cell_of_row w B j arr ty (0, 0) e1]; exact hq, .inr ⟨b, hn b (by simp [names0]), r, l, hb, hB, ?_⟩⟩
        have hil : i < l.length := (List.getElem?_eq_some_iff.1 hi).1
        calc j < i * Row.size r + Row.size r := hj2
          _ = (i + 1) * Row.size r := by rw [Nat.add_mul, Nat.one_mul]
          _ ≤ l.length * Row.size r := Nat.mul_le_mul_right _ hil
  all_goals
    simp only [snap1, Option.some.injEq] at hs
    subst hs
    exact ⟨Rep0.ext (Gh.more_ext s g ns w) (fun _ _ => trivial) hr, fun b hb => hb⟩
end Go.Proofs.Ytcjhegiidnjepaa.Ev
