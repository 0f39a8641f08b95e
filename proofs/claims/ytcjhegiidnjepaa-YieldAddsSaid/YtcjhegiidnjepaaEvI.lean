/- Calls: what a function hands back. -/
import Derived.Test.YtcjhegiidnjepaaEvH
namespace Go.Proofs.Ytcjhegiidnjepaa.Ev
open Go.RowKit
set_option linter.unusedVariables false
set_option linter.unusedSimpArgs false

/-! ### Names are changed -/
structure Ren (w w' : World) (g g' : Gh) (f : Nat → Nat) (ns : Nat → Prop) : Prop where
  keep : Keeps w w' g.prot g'.prot
  at_ : ∀ b, ns b → g'.at_ (f b) = g.at_ b
  len : ∀ b, ns b → g'.len (f b) = g.len b
  cap : ∀ b, ns b → g'.cap (f b) = g.cap b
section
variable {w w' : World} {g g' : Gh} {f : Nat → Nat} {ns : Nat → Prop}
theorem Rep0.ren (h : Ren w w' g g' f ns) {c : AV} {v : Value} (hn : ∀ b ∈ names0 c, ns b) (hr : Rep0 w g c v) : Rep0 w' g' (ren0 f c) v := by
  cases c with
  | imm r l => exact RepLeaf.keep h.keep hr
  | own b =>
    have hb : ns b := hn b (by simp [names0])
    simp only [ren0, Rep0, h.at_ b hb, h.len b hb, h.cap b hb] at hr ⊢
    exact hr
  | ptr b o =>
    have hb : ns b := hn b (by simp [names0])
    simp only [ren0, Rep0, h.at_ b hb] at hr ⊢
    exact hr
  | eimm r l i off =>
    obtain ⟨B, o, x, hv, hx, hr⟩ := hr
    exact ⟨B, o, x, hv, hx, RepRow.keep h.keep (fun j u hu => ⟨(h.keep B (o + j) hu.2).1.trans hu.1, (h.keep B (o + j) hu.2).2⟩) hr⟩
  | eown b z i off =>
    have hb : ns b := hn b (by simp [names0])
    simp only [ren0, Rep0, h.at_ b hb, h.len b hb] at hr ⊢
    exact hr
  | yld b =>
    have hb : ns b := hn b (by simp [names0])
    simp only [ren0, Rep0, h.at_ b hb] at hr ⊢
    exact hr
  | undef => trivial
  | agg _ => simp [Rep0] at hr
  | tup _ => simp [Rep0] at hr
  | _ => exact hr
theorem RepL.map {R R' : AV → Value → Prop} {F : AV → AV} : ∀ {cs : List AV} {vs : List Value}, (∀ c ∈ cs, ∀ v, R c v → R' (F c) v) → RepL R cs vs → RepL R' (cs.map F) vs
  | [], _, _, hr => by simpa [RepL] using hr
  | c :: cs, [], _, hr => by simp [RepL] at hr
  | c :: cs, v :: vs, h, hr => by
    simp only [RepL, List.map_cons] at hr ⊢
    exact ⟨h c (by simp) v hr.1, RepL.map (fun c hc => h c (by simp [hc])) hr.2⟩
theorem ren0L_eq : ∀ cs, ren0L f cs = cs.map (ren0 f)
  | [] => rfl
  | c :: cs => by simp [ren0L, ren0L_eq cs]
theorem renL_eq : ∀ cs, renL f cs = cs.map (ren1 f)
  | [] => rfl
  | c :: cs => by simp [renL, renL_eq cs]
theorem renL2_eq : ∀ cs, renL2 f cs = cs.map (ren2 f)
  | [] => rfl
  | c :: cs => by simp [renL2, renL2_eq cs]
theorem ren1_of {c : AV} (h : ∀ q caps, c ≠ .fn q caps) : ren1 f c = ren0 f c ∧ ∀ q caps, ren0 f c ≠ .fn q caps := by cases c <;> first | exact ⟨rfl, by intro q caps; nofun⟩ | exact absurd rfl (h _ _)
theorem Rep1.ren (h : Ren w w' g g' f ns) {c : AV} {v : Value} (hn : ∀ b ∈ names1 c, ns b) (hr : Rep1 w g c v) : Rep1 w' g' (ren1 f c) v := by
  by_cases hf : ∃ q caps, c = .fn q caps
  · obtain ⟨q, caps, rfl⟩ := hf
    obtain ⟨vs, hv, hl⟩ := hr
    refine ⟨vs, hv, ?_⟩
    rw [ren0L_eq]
    exact hl.map fun c hc v hr => Rep0.ren h (fun b hb => hn b (by simp only [names1]; exact mem_names0L hc hb)) hr
  · have hf' : ∀ q caps, c ≠ .fn q caps := fun q caps e => hf ⟨q, caps, e⟩
    rw [(ren1_of hf').1, Rep1_of (ren1_of hf').2]
    rw [Rep1_of hf'] at hr
    have hn1 : names1 c = names0 c := by cases c <;> first | rfl | exact absurd rfl (hf' _ _)
    exact Rep0.ren h (by rw [hn1] at hn; exact hn) hr
theorem ren2_of {c : AV} (h : ∀ cs, c ≠ .agg cs) : ren2 f c = ren1 f c ∧ ∀ cs, ren1 f c ≠ .agg cs := by cases c <;> first | exact ⟨rfl, by intro cs; nofun⟩ | exact absurd rfl (h _)
theorem Rep2.ren (h : Ren w w' g g' f ns) {c : AV} {v : Value} (hn : ∀ b ∈ names2 c, ns b) (hr : Rep2 w g c v) : Rep2 w' g' (ren2 f c) v := by
  by_cases hf : ∃ cs, c = .agg cs
  · obtain ⟨cs, rfl⟩ := hf
    obtain ⟨vs, hv, hl⟩ := hr
    refine ⟨vs, hv, ?_⟩
    rw [renL_eq]
    exact hl.map fun c hc v hr => Rep1.ren h (fun b hb => hn b (by simp only [names2]; exact mem_namesL hc hb)) hr
  · have hf' : ∀ cs, c ≠ .agg cs := fun cs e => hf ⟨cs, e⟩
    rw [(ren2_of hf').1, Rep2_of (ren2_of hf').2]
    rw [Rep2_of hf'] at hr
    have hn1 : names2 c = names1 c := by cases c <;> first | rfl | exact absurd rfl (hf' _)
    exact Rep1.ren h (by rw [hn1] at hn; exact hn) hr
theorem renT_of {c : AV} (h : ∀ cs, c ≠ .tup cs) : Ev.ren f c = ren2 f c ∧ ∀ cs, ren2 f c ≠ .tup cs := by cases c <;> first | exact ⟨rfl, by intro cs; nofun⟩ | exact absurd rfl (h _)
theorem Rep.ren (h : Ren w w' g g' f ns) {c : AV} {v : Value} (hn : ∀ b ∈ names c, ns b) (hr : Rep w g c v) : Rep w' g' (Ev.ren f c) v := by
  by_cases hf : ∃ cs, c = .tup cs
  · obtain ⟨cs, rfl⟩ := hf
    obtain ⟨vs, hv, hl⟩ := hr
    refine ⟨vs, hv, ?_⟩
    rw [renL2_eq]
    exact hl.map fun c hc v hr => Rep2.ren h (fun b hb => hn b (by simp only [names]; exact mem_namesL2 hc hb)) hr
  · have hf' : ∀ cs, c ≠ .tup cs := fun cs e => hf ⟨cs, e⟩
    rw [(renT_of hf').1, Rep_of (renT_of hf').2]
    rw [Rep_of hf'] at hr
    have hn1 : names c = names2 c := by cases c <;> first | rfl | exact absurd rfl (hf' _)
    exact Rep2.ren h (by rw [hn1] at hn; exact hn) hr
theorem names0_ren (c : AV) : names0 (ren0 f c) = (names0 c).map f := by cases c <;> rfl
theorem names0L_ren : ∀ cs, names0L (ren0L f cs) = (names0L cs).map f
  | [] => rfl
  | c :: cs => by simp [ren0L, names0L, names0_ren, names0L_ren cs]
theorem names1_ren (c : AV) : names1 (ren1 f c) = (names1 c).map f := by cases c <;> first | rfl | exact names0L_ren _
theorem namesL_ren : ∀ cs, namesL (renL f cs) = (namesL cs).map f
  | [] => rfl
  | c :: cs => by simp [renL, namesL, names1_ren, namesL_ren cs]
theorem names2_ren (c : AV) : names2 (ren2 f c) = (names2 c).map f := by cases c <;> first | rfl | exact namesL_ren _ | exact names0L_ren _
theorem namesL2_ren : ∀ cs, namesL2 (renL2 f cs) = (namesL2 cs).map f
  | [] => rfl
  | c :: cs => by simp [renL2, namesL2, names2_ren, namesL2_ren cs]
theorem names_ren (c : AV) : names (ren f c) = (names c).map f := by cases c <;> first | rfl | exact namesL2_ren _ | exact namesL_ren _ | exact names0L_ren _
end

/-! ### What does not tell a list does not hang on what is protected -/
section
variable {w w' : World} {g g' : Gh}
theorem leaf_free {pr pr' : Nat → Nat → Prop} {l : Leaf} (hl : Leaf.deep l = false) {x : Leaf.T l} {v : Value} (h : RepLeaf w pr l x v) : RepLeaf w' pr' l x v := by
  cases l <;> first | exact h | simp [Leaf.deep] at hl
theorem row_free {pr pr' : Nat → Nat → Prop} : ∀ {r : Row} {x : Row.T r} {q : Nat → Value → Prop} {o : Nat}, Row.deep r = false → RepRow w pr r x q o → RepRow w' pr' r x q o
  | .one l, x, q, o, hd, h => by
    obtain ⟨u, hu, hl⟩ := h
    exact ⟨u, hu, leaf_free hd hl⟩
  | .cons l r, x, q, o, hd, h => by
    simp only [Row.deep, Bool.or_eq_false_iff] at hd
    obtain ⟨⟨u, hu, hl⟩, hr⟩ := h
    exact ⟨⟨u, hu, leaf_free hd.1 hl⟩, row_free hd.2 hr⟩
theorem Rep1.free (ha : ∀ b, g'.at_ b = g.at_ b) (hl : ∀ b, g'.len b = g.len b) (hc : ∀ b, g'.cap b = g.cap b) {c : AV} {v : Value} (hi : hasImm1 c = false) (h : Rep1 w g c v) : Rep1 w' g' c v := by
  cases c <;> simp only [hasImm1] at hi <;> (try (cases hi; done)) <;> simp only [Rep1, Rep0, ha, hl, hc] at h ⊢ <;> first | exact h | trivial
theorem Rep2.free (ha : ∀ b, g'.at_ b = g.at_ b) (hl : ∀ b, g'.len b = g.len b) (hc : ∀ b, g'.cap b = g.cap b) {c : AV} {v : Value} (hi : hasImm2 c = false) (h : Rep2 w g c v) : Rep2 w' g' c v := by
  by_cases hf : ∃ cs, c = .agg cs
  · obtain ⟨cs, rfl⟩ := hf
    obtain ⟨vs, hv, hl'⟩ := h
    simp only [hasImm2, List.any_eq_false, Bool.not_eq_true] at hi
    exact ⟨vs, hv, hl'.imp fun c hcm v hv => Rep1.free ha hl hc (hi c hcm) hv⟩
  · have hf' : ∀ cs, c ≠ .agg cs := fun cs e => hf ⟨cs, e⟩
    have hi1 : hasImm1 c = false := by cases c <;> first | exact hi | exact absurd rfl (hf' _)
    rw [Rep2_of hf'] at h ⊢
    exact Rep1.free ha hl hc hi1 h
theorem Rep.free (ha : ∀ b, g'.at_ b = g.at_ b) (hl : ∀ b, g'.len b = g.len b) (hc : ∀ b, g'.cap b = g.cap b) {c : AV} {v : Value} (hi : hasImm c = false) (h : Rep w g c v) : Rep w' g' c v := by
  by_cases hf : ∃ cs, c = .tup cs
  · obtain ⟨cs, rfl⟩ := hf
    obtain ⟨vs, hv, hl'⟩ := h
    simp only [hasImm, List.any_eq_false, Bool.not_eq_true] at hi
    exact ⟨vs, hv, hl'.imp fun c hcm v hv => Rep2.free ha hl hc (hi c hcm) hv⟩
  · have hf' : ∀ cs, c ≠ .tup cs := fun cs e => hf ⟨cs, e⟩
    have hi1 : hasImm2 c = false := by cases c <;> first | exact hi | exact absurd rfl (hf' _)
    rw [Rep_of hf'] at h ⊢
    exact Rep2.free ha hl hc hi1 h
theorem BlkRep.free (ha : ∀ b, g'.at_ b = g.at_ b) (hl : ∀ b, g'.len b = g.len b) (hc : ∀ b, g'.cap b = g.cap b) {b : Nat} {x : Blk} (hi : blkImm x = false) (hp : ∀ B, g.at_ b = some B → ∀ o, ¬ g'.prot B o) (h : BlkRep w g b x) : BlkRep w g' b x := by
  cases x with
  | box cs =>
    obtain ⟨B, arr, ty, h1, h2, h3⟩ := h
    simp only [blkImm, List.any_eq_false, Bool.not_eq_true] at hi
    exact ⟨B, arr, ty, (ha b).trans h1, h2, h3.imp fun c hcm v hv => Rep1.free ha hl hc (hi c hcm) hv⟩
  | row r l =>
    obtain ⟨h1, h2, h3⟩ := h
    refine ⟨(hl b).trans h1, fun e => h2 ((ha b).symm.trans e), fun B hB => ?_⟩
    have hB' : g.at_ b = some B := (ha b).symm.trans hB
    obtain ⟨arr, ty, e1, e2, e3, e4, e5⟩ := h3 B hB'
    exact ⟨arr, ty, e1, by rw [hc b]; exact e2, by rw [hc b]; exact e3, fun i y hy => row_free hi (e4 i y hy), fun o ho => absurd ho (hp B hB' o)⟩
end

/-! ### A function's answer -/
structure Ret (r : AV × List Blk) (pr : Nat → Nat → Prop) (w w' : World) (u : Value) (g : Gh) : Prop where
  below : Below w.heap.size w w'
  rep : Rep w' g r.1 u
  cls : ∀ b ∈ names r.1, b < r.2.length
  blk : ∀ i x, r.2[i]? = some x → BlkRep w' g i x
  cin : ∀ (i : Nat) (cs : List AV), r.2[i]? = some (Blk.box cs) → ∀ b ∈ namesL cs, b < r.2.length
  unp : ∀ (i : Nat) (x : Blk) B o, r.2[i]? = some x → ((∃ cs, x = .box cs) ∨ (hasImm r.1 || r.2.any blkImm) = false) → g.at_ i = some B → ¬ g.prot B o
  inj : ∀ i j x y B, r.2[i]? = some x → r.2[j]? = some y → g.at_ i = some B → g.at_ j = some B → i = j
  new : ∀ i x B, r.2[i]? = some x → g.at_ i = some B → w.heap.size ≤ B
  prot0 : ∀ B o, B < w.heap.size → (g.prot B o ↔ pr B o)
  plt : ∀ B o, g.prot B o → B < w'.heap.size
def g0 (pr : Nat → Nat → Prop) : Gh := ⟨fun _ => none, fun _ => 0, fun _ => 0, pr⟩
/-- The function answers so. -/
def FnOK (P : Program) (f : FuncId) (args : List AV) (r : AV × List Blk) : Prop :=
  ∀ (w : World) (pr : Nat → Nat → Prop) (vs : List Value), (∀ B o, pr B o → B < w.heap.size) → RepL (Rep w (g0 pr)) args vs → args.all known = true → namesL2 args = [] →
    Calls P f vs.toArray w fun
      | .returned u, w' => ∃ g, Ret r pr w w' u g
      | _, _ => False
abbrev Lt (n : Nat) : Nat → Prop := fun b => b < n
/-- More is held. -/
structure Fix.le (X Y : Fix) : Prop where
  w0 : Y.w0 = X.w0
  old0 : Y.old0 = X.old0
  gb : Y.gb = X.gb
  U0 : Y.U0 = X.U0
  nt : Y.nt = X.nt
  held : ∀ B o, X.held B = some o → Y.held B = some o
  mks : ∀ D ∈ Y.mks, D ∈ X.mks ∨ X.held D = none
theorem Fix.le.refl (X : Fix) : X.le X := ⟨rfl, rfl, rfl, rfl, rfl, fun _ _ h => h, fun _ h => .inl h⟩
theorem Fix.le.trans {X Y Z : Fix} (h : X.le Y) (k : Y.le Z) : X.le Z := ⟨k.w0.trans h.w0, k.old0.trans h.old0, k.gb.trans h.gb, k.U0.trans h.U0, k.nt.trans h.nt, fun B o hB => k.held B o (h.held B o hB), fun D hD => (k.mks D hD).elim (h.mks D) fun hn => .inr (by
  cases hx : X.held D with
  | none => rfl
  | some o => rw [h.held D o hx] at hn; cases hn)⟩
/-- What a call that is handed names says: its effect, on the caller's state. -/
def Answers (X : Fix) (U : Nat → Prop) (s : Sx) (a : Act) (nm : Nat) (e : Eff) : Ending → World → Prop
  | .returned u, w' => ∃ g', Rep w' g' e.val u ∧ (∀ b ∈ names e.val, upto nm U b) ∧ Sim X (upto nm U) ⟨s.tm, putB s.bl e.wr, e.fz ++ s.fz, s.nx⟩ a w' g'
  | _, _ => False
/-- A round of a range, met in an activation of an iterating function. -/
def RoundOk (P : Program) (X : Fix) (U : Nat → Prop) (s : Sx) (nm y : Nat) (args : List AV) (e : Eff) (w : World) : Prop :=
  ∀ (a : Act) (g : Gh) (L : Nat) (vs : List Value), Sim X U s a w g → g.at_ y = some L → RepL (Rep w g) args vs → args.all known = true → namesL2 args = [] →
    ∃ f tmps asg bd, (Instr.yield L vs.toArray).run P w = .ok (.round L f tmps asg bd) w ∧ ∀ ro, RoundIn (fw ro) 0 P L f tmps asg bd w (Answers X U s a nm e)
def YOk (P : Program) (Y : Fix) (rnd : Rnd) : Prop := ∀ y args s nm e, rnd y args s nm = some e → ∀ Y2, Y.le Y2 → ∀ w, RoundOk P Y2 (Lt nm) s nm y args e w
theorem YOk.mono {P : Program} {X Y : Fix} {rnd : Rnd} (h : YOk P X rnd) (hl : X.le Y) : YOk P Y rnd := fun y args s nm e he Y2 h2 => h y args s nm e he Y2 (hl.trans h2)
theorem noY_ok {P : Program} {Y : Fix} : YOk P Y noY := fun _ _ _ _ _ h => by cases h
/-- What stays the same for a function that is called from such a state. -/
def calleeFix (X : Fix) (w : World) (g : Gh) (nm nt : Nat) : Fix := ⟨w, X.old0, X.held, g, Lt nm, nt, []⟩
def CallSOk (P : Program) (call : CallS) : Prop := ∀ f args s nm rnd e, call f args s nm rnd = some e → ∃ fn, P.funcs[f]? = some fn ∧ fn.name ≠ "runtime.NumGoroutine" ∧ fn.body.isSome = true ∧ ∀ (X : Fix) (a : Act) (w : World) (g : Gh) (vs : List Value), Sim X (Lt nm) s a w g → RepL (Rep w g) args vs → args.all known = true → (∀ b ∈ namesL2 args, Lt nm b) → YOk P (calleeFix X w g nm fn.ntmps) (rndOf rnd) →
    Calls P f vs.toArray w (Answers X (Lt nm) s a nm e)
/-- The same of a view. -/
def CSok (P : Program) (X : Fix) (U : Nat → Prop) (s : Sx) (V : Vw) (w : World) : Prop := ∀ f args zs e, V.callS f args zs = some e → ∃ fn, P.funcs[f]? = some fn ∧ fn.name ≠ "runtime.NumGoroutine" ∧ fn.body.isSome = true ∧ ∀ (a : Act) (g : Gh) (vs : List Value), Sim X U ⟨s.tm, s.bl, zs ++ s.fz, s.nx⟩ a w g → RepL (Rep w g) args vs → args.all known = true → (∀ b ∈ namesL2 args, U b) →
    Calls P f vs.toArray w (Answers X U ⟨s.tm, s.bl, zs ++ s.fz, s.nx⟩ a V.nm e)
def YSok (P : Program) (X : Fix) (U : Nat → Prop) (s : Sx) (V : Vw) (w : World) : Prop := ∀ y args zs e, V.callY y args zs = some e → RoundOk P X U ⟨s.tm, s.bl, zs ++ s.fz, s.nx⟩ V.nm y args e w
def CallOk (P : Program) (call : CallF) : Prop := ∀ f args r, call f args = some (true, r) → ∃ fn, P.funcs[f]? = some fn ∧ fn.name ≠ "runtime.NumGoroutine" ∧ fn.body.isSome = true ∧ FnOK P f args r
end Go.Proofs.Ytcjhegiidnjepaa.Ev
