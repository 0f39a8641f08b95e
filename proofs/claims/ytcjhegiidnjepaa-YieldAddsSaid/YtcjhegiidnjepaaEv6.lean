/- One block is made or changed: the relation stays. Operations that only compute. -/
import Derived.Test.YtcjhegiidnjepaaEv5
import Derived.WalkKit
namespace Go.Proofs.Ytcjhegiidnjepaa.Ev
open Go.RowKit
set_option linter.unusedVariables false
set_option linter.unusedSimpArgs false

theorem BlkRep.ext {w w' : World} {g g' : Gh} {ns : Nat → Prop} (h : GExt w w' g g' ns) {b : Nat} {x : Blk} (hb : ns b) (hc : ∀ cs, x = .box cs → ∀ c ∈ namesL cs, ns c)
    (hs : ∀ B, g.at_ b = some B → w'.heap[B]? = w.heap[B]? ∧ ∀ o, g'.prot B o → g.prot B o) (hr : BlkRep w g b x) : BlkRep w' g' b x := by
  cases x with
  | box cs =>
    obtain ⟨B, arr, ty, h1, h2, h3⟩ := hr
    exact ⟨B, arr, ty, (h.at_ b hb).trans h1, (hs B h1).1.trans h2, h3.imp fun c hcm v hv => Rep1.ext h (fun n hn => hc cs rfl n (mem_namesL hcm hn)) hv⟩
  | row r l =>
    obtain ⟨h1, h2, h3⟩ := hr
    refine ⟨(h.len b hb).trans h1, fun e => h2 ((h.at_ b hb).symm.trans e), fun B hB => ?_⟩
    have hB' : g.at_ b = some B := (h.at_ b hb).symm.trans hB
    obtain ⟨arr, ty, e1, e2, e3, e4, e5⟩ := h3 B hB'
    exact ⟨arr, ty, (hs B hB').1.trans e1, by rw [h.cap b hb]; exact e2, by rw [h.cap b hb]; exact e3, fun i y hi => RepRow.keep h.keep (fun _ _ hq => hq) (e4 i y hi), fun o ho => e5 o ((hs B hB').2 o ho)⟩

/-- A block is made, or changed; another name may have been used up. -/
theorem Sim.one {X : Fix} {U U' : Nat → Prop} {s : Sx} {a : Act} {w w' : World} {g g' : Gh} (h : Sim X U s a w g) (n : Nat) (x : Blk) (bl' : Bls) (fz' : List Nat)
    (hU : ∀ b, U b → U' b) (hbl : ∀ b y, b ≠ n → get bl' b = some y → get s.bl b = some y) (hn : get bl' n = some x)
    (hfz : ∀ b, b ≠ n → memN fz' b = false → memN s.fz b = false) (hext : GExt w w' g g' U)
    (hsame : ∀ b y B, b ≠ n → get bl' b = some y → g.at_ b = some B → w'.heap[B]? = w.heap[B]? ∧ ∀ o, g'.prot B o → g.prot B o)
    (hrep : BlkRep w' g' n x) (hbox : ∀ cs B o, x = .box cs → g'.at_ n = some B → ¬ g'.prot B o) (hrow : ∀ r l B o, x = .row r l → memN fz' n = false → g'.at_ n = some B → ¬ g'.prot B o)
    (hinj : ∀ b y B, b ≠ n → get bl' b = some y → g.at_ b = some B → g'.at_ n ≠ some B) (hnew : ∀ B, g'.at_ n = some B → ¬ X.old B)
    (hprot : ∀ B o, X.old0 B → (g'.prot B o ↔ g.prot B o)) (hplt : ∀ B o, g'.prot B o → B < w'.heap.size) (hbelow : Unt X.old w w')
    (hUn : U' n) (hUc : ∀ cs, x = .box cs → ∀ c ∈ namesL cs, U' c) : Sim X U' ⟨s.tm, bl', fz', s.nx⟩ a w' g' := by
  have hat : ∀ b y, b ≠ n → get bl' b = some y → g'.at_ b = g.at_ b := fun b y hb hy => hext.at_ b (h.nmK b y (hbl b y hb hy))
  refine ⟨fun t => (h.tmps t).ext hext (h.nmT t), h.size, h.dfr, ?_, ?_, ?_, ?_, ?_, ?_, hplt, ?_, h.below.trans (hbelow.mono fun _ h => .inl h), fun t b hb => hU b (h.nmT t b hb), ?_, ?_, fun b hb => hU b (h.u0 b hb), h.ext.trans hext h.u0, fun B o hB => (hbelow.block B (.inr ⟨o, hB⟩)).trans (h.held B o hB), h.mkh, h.mkn, h.hok⟩
  · intro b y hy
    by_cases hb : b = n
    · subst hb
      have hy' : get bl' b = some y := hy
      rw [hn] at hy'
      cases hy'
      exact hrep
    · have ho := hbl b y hb hy
      exact BlkRep.ext hext (h.nmK b y ho) (fun cs e => h.nmB b cs (e ▸ ho)) (fun B hB => hsame b y B hb hy hB) (h.blk b y ho)
  · intro b cs B o hy hB
    by_cases hb : b = n
    · subst hb
      have hy' : get bl' b = some (.box cs) := hy
      rw [hn] at hy'
      cases hy'
      exact hbox cs B o rfl hB
    · have hB' : g.at_ b = some B := (hat b _ hb hy).symm.trans hB
      exact fun hp => h.unp b cs B o (hbl b _ hb hy) hB' ((hsame b _ B hb hy hB').2 o hp)
  · intro b r l B o hy hf hB
    by_cases hb : b = n
    · subst hb
      have hy' : get bl' b = some (.row r l) := hy
      rw [hn] at hy'
      cases hy'
      exact hrow r l B o rfl hf hB
    · have hB' : g.at_ b = some B := (hat b _ hb hy).symm.trans hB
      exact fun hp => h.unf b r l B o (hbl b _ hb hy) (hfz b hb hf) hB' ((hsame b _ B hb hy hB').2 o hp)
  · intro b c y z B hy hz hB hC
    by_cases hb : b = n
    · by_cases hc : c = n
      · rw [hb, hc]
      · subst hb
        exact absurd hB (hinj c z B hc hz ((hat c z hc hz).symm.trans hC))
    · by_cases hc : c = n
      · subst hc
        exact absurd hC (hinj b y B hb hy ((hat b y hb hy).symm.trans hB))
      · exact h.inj b c y z B (hbl b y hb hy) (hbl c z hc hz) ((hat b y hb hy).symm.trans hB) ((hat c z hc hz).symm.trans hC)
  · intro b y B hy hB
    by_cases hb : b = n
    · subst hb; exact hnew B hB
    · exact h.new b y B (hbl b y hb hy) ((hat b y hb hy).symm.trans hB)
  · exact fun B o hB => (hprot B o hB).trans (h.prot0 B o hB)
  · exact fun B hB => Nat.lt_of_lt_of_le (h.blt B hB) hbelow.size
  · intro b cs hy c hc
    by_cases hb : b = n
    · subst hb
      have hy' : get bl' b = some (.box cs) := hy
      rw [hn] at hy'
      cases hy'
      exact hUc cs rfl c hc
    · exact hU c (h.nmB b cs (hbl b _ hb hy) c hc)
  · intro b y hy
    by_cases hb : b = n
    · subst hb; exact hUn
    · exact hU b (h.nmK b y (hbl b y hb hy))

/-! ### An operation yields a value and does nothing else -/
/-- Frames of an activation, or of a round of a range over a function. -/
def fw (ro : Option Nat) : Fence := { fn := fun _ => True, depth := none, alive := false, round := ro }
theorem fw_none : fw none = Fence.wide := rfl
theorem fw_room (ro : Option Nat) (n : Nat) : (fw ro).room n := fun _ h => by cases h
theorem wp_run {P : Program} {o : Oper} {a : Act} {w : World} {next : Act → World → Prop} {Q : Exit → Act → World → Prop} {ro : Option Nat} (nd : ∀ c, o.op ≠ .defer c) {r : Result Next} (he : (execOp a.eval o).run P w = r) (hn : o.uponIn (fw ro) 0 P a next Q r) : o.wpIn (fw ro) 0 P a w next Q := by
  refine ⟨fun _ _ => trivial, ?_⟩
  rw [Oper.semAt_eq _ _ _ nd, he]
  exact hn
theorem callsIn_fw {P : Program} {ro : Option Nat} {f : FuncId} {args : Array Value} {w : World} {R : Ending → World → Prop} (h : Calls P f args w R) : CallsIn (fw ro) 0 P f args w R :=
  ⟨trivial, fun cs _ => (callsIn_wide (n := 0).2 h).2 cs (room_wide _)⟩
theorem wp_value {P : Program} {o : Oper} {a : Act} {w : World} {u : Value} {next : Act → World → Prop} {Q : Exit → Act → World → Prop} {ro : Option Nat} (nd : ∀ c, o.op ≠ .defer c) (he : (execOp a.eval o).run P w = .ok (.value u) w) (hn : next (a.put o.dst u) w) : o.wpIn (fw ro) 0 P a w next Q := wp_run nd he hn
theorem wp_to {P : Program} {o : Oper} {a : Act} {w w' : World} {u : Value} {next : Act → World → Prop} {Q : Exit → Act → World → Prop} {ro : Option Nat} (nd : ∀ c, o.op ≠ .defer c) (he : (execOp a.eval o).run P w = .ok (.value u) w') (hn : next (a.put o.dst u) w') : o.wpIn (fw ro) 0 P a w next Q := wp_run nd he hn
theorem wp_skipped {P : Program} {o : Oper} {a : Act} {w w' : World} {next : Act → World → Prop} {Q : Exit → Act → World → Prop} {ro : Option Nat} (nd : ∀ c, o.op ≠ .defer c) (he : (execOp a.eval o).run P w = .ok .skip w') (hn : next (a.put o.dst undef) w') : o.wpIn (fw ro) 0 P a w next Q := wp_run nd he hn

/-- What is known of a type. -/
structure TOk (P : Program) (t : Nat) (e : TyE) : Prop where
  und : match e.d with
    | .int k => P.underlying t = some (.int k)
    | .bool => P.underlying t = some .bool
    | .str => P.underlying t = some .string
    | .struct fs => ∃ F, P.underlying t = some (.struct F) ∧ fs = F.toList.map fun f => (f.offset, f.type)
    | .arr n el => P.underlying t = some (.array n el)
    | .slice el => P.underlying t = some (.slice el)
    | .ptr el => P.underlying t = some (.pointer el)
    | .func => ∃ d, P.underlying t = some d ∧ (match d with | .struct _ | .array _ _ => true | _ => false) = false
    | .other => ∃ d, P.underlying t = some d ∧ (match d with | .struct _ | .array _ _ => true | _ => false) = false
  info : ∃ i z, P.info? t = some i ∧ i.size = e.size ∧ i.bytes = e.bytes ∧ i.zero = some z ∧ e.zero = z.cells.toList.map ofConst ∧ z.cells.size = e.size
  row : ∀ r, e.row = some r → Row.size r = e.size
  eq : e.eq = true → P.eqGuardType P.depth t = false ∧ P.stoodInHeld t = false ∧ ∀ F, P.underlying t = some (.struct F) → ∀ f ∈ F.toList, f.name ≠ "_"
def TabOk (P : Program) (T : Tab) : Prop := ∀ t e, get T t = some e → TOk P t e

/-- The state after an effect. -/
def upto (nm : Nat) (U : Nat → Prop) : Nat → Prop := fun b => U b ∨ (nm ≤ b ∧ b ≤ nm + 7)
def OpOk (P : Program) (X : Fix) (U : Nat → Prop) (o : Oper) (s : Sx) (a : Act) (w : World) (nm : Nat) (e : Eff) : Prop :=
  ∀ (ro : Option Nat) (next : Act → World → Prop) (Q : Exit → Act → World → Prop), (∀ c, o.op ≠ .defer c) → (∀ a' w' g', Sim X (upto nm U) (after e o.dst s) a' w' g' → next a' w') → o.wpIn (fw ro) 0 P a w next Q

theorem Sim.more {X : Fix} {U U' : Nat → Prop} {s : Sx} {a : Act} {w : World} {g : Gh} (h : Sim X U s a w g) (hU : ∀ b, U b → U' b) : Sim X U' s a w g :=
  { h with nmT := fun t b hb => hU b (h.nmT t b hb), nmB := fun b cs hb c hc => hU c (h.nmB b cs hb c hc), nmK := fun b x hb => hU b (h.nmK b x hb), u0 := fun b hb => hU b (h.u0 b hb) }
theorem opOk_value {P : Program} {X : Fix} {U : Nat → Prop} {o : Oper} {s : Sx} {a : Act} {w : World} {g : Gh} {nm : Nat} {v : AV} {u : Value} (h : Sim X U s a w g) (hd : ∀ t, o.dst = some t → t < X.nt) (he : (execOp a.eval o).run P w = .ok (.value u) w) (hr : Rep w g v u) (hn : ∀ b ∈ names v, U b) : OpOk P X U o s a w nm ⟨v, [], []⟩ :=
  fun ro next Q nd hk => wp_value nd he (hk _ _ g (((h.put hd hr hn).more fun b hb => .inl hb)))

section
variable {P : Program} {X : Fix} {U : Nat → Prop} {dst : Option Tmp} {ty : TypeId} {pos : String} {af : Array Edge} {gd : Option (Nat × Bool)} {s : Sx} {a : Act} {w : World} {g : Gh} {nm : Nat} {e : Eff} {V : Vw}
end
end Go.Proofs.Ytcjhegiidnjepaa.Ev
