/- Code. -/
import Derived.Test.YtcjhegiidnjepaaEvK
namespace Go.Proofs.Ytcjhegiidnjepaa.Ev
open Go.RowKit
set_option linter.unusedVariables false
set_option linter.unusedSimpArgs false

/-- A loop's body stands ahead, and the loop behind it. -/
def FromLoop (ro : Option Nat) (P : Program) (c : Code) (Q : Exit → Act → World → Prop) (a : Act) (w : World) : Prop :=
  ∀ (b : Frame) (k : List Item) (cs : List Frame), b.roundOf = ro → ∃ e a' w', Q e a' w' ∧ ArrivesIn (Machine.fenced P (fw ro)) P (lone (b.atR a (.code c :: .inLoop c :: k)) cs w) b k cs e a' w'
theorem fromLoop_round {ro : Option Nat} {P : Program} {c : Code} {Q : Exit → Act → World → Prop} {a : Act} {w : World} (h : c.wpIn (fw ro) 0 P (Exit.then (FromLoop ro P c Q) Q) a w) : FromLoop ro P c Q a w := by
  intro b k cs hro
  obtain ⟨e, a₁, w₁, hq, harr⟩ := h b (.inLoop c :: k) cs hro trivial (fw_room ro _)
  cases e with
  | normal =>
    obtain ⟨e₂, a₂, w₂, hq₂, harr₂⟩ := hq b k cs hro
    exact ⟨e₂, a₂, w₂, hq₂, .of_steps (StepsIn.trans harr (.one (fenced_calm (F := fw ro) (n := 0) trivial (fw_room ro _) rfl) stepR_inLoop)) harr₂⟩
  | exit id => exact ⟨_, a₁, w₁, hq, .pass (x := .inLoop c) rfl (fun _ _ => .inl (by simp)) harr⟩
  | goto l => exact ⟨_, a₁, w₁, hq, .pass (x := .inLoop c) rfl (fun _ _ => .inl (by simp)) harr⟩
  | ret => exact ⟨_, a₁, w₁, hq, .pass (x := .inLoop c) rfl (fun _ _ => .inl (by simp)) harr⟩
  | panic ch => exact ⟨_, a₁, w₁, hq, .pass (x := .inLoop c) rfl (fun _ _ => .inl (by simp)) harr⟩
  | outgrown => exact ⟨_, a₁, w₁, hq, .pass (x := .inLoop c) rfl (fun _ _ => .inl (by simp)) harr⟩
theorem fromLoop_wp {ro : Option Nat} {P : Program} {c : Code} {Q : Exit → Act → World → Prop} {a : Act} {w : World} (h : FromLoop ro P c Q a w) : (Code.loop c).wpIn (fw ro) 0 P Q a w := by
  intro b k cs hro _ _
  obtain ⟨e, a', w', hq, harr⟩ := h b k cs hro
  exact ⟨e, a', w', hq, .of_steps (.one (fenced_calm (F := fw ro) (n := 0) trivial (fw_room ro _) rfl) stepR_loop) harr⟩
structure KOk (X : Fix) {β : Type} (r : β) (k : Kont β) (Q : Exit → Act → World → Prop) : Prop where
  n : ∀ Y, X.le Y → ∀ s a w g, Sim Y (Lt s.nx) s a w g → k.n s = some r → Q .normal a w
  x : ∀ Y, X.le Y → ∀ j s a w g, Sim Y (Lt s.nx) s a w g → k.x j s = some r → Q (.exit j) a w
  r : ∀ Y, X.le Y → ∀ s a w g, Sim Y (Lt s.nx) s a w g → k.r s = some r → Q .ret a w
theorem KOk.mono {X Y : Fix} {β : Type} {r : β} {k : Kont β} {Q : Exit → Act → World → Prop} (h : KOk X r k Q) (hl : X.le Y) : KOk Y r k Q :=
  ⟨fun Z hz => h.n Z (hl.trans hz), fun Z hz => h.x Z (hl.trans hz), fun Z hz => h.r Z (hl.trans hz)⟩
/-- A region's static part: what is needed of its operations. -/
def RegOk (P : Program) (C : Cx) (nt : Nat) (ops : Array Oper) (draw : Bool) : Prop :=
  ∀ (X : Fix), X.nt = nt → YOk P X C.callY → ∀ (ro : Option Nat) {β : Type} (k : Sx → Option β) (r : β) (Q : Exit → Act → World → Prop) (s : Sx) (a : Act) (w : World) (g : Gh), Sim X (Lt s.nx) s a w g →
    (regK C ops.toList draw s.nx ops.toList 0 s [] fun s' lg => endReg draw ops.toList s' lg k) = some r → (∀ s' a' w' g', Sim X (Lt s'.nx) s' a' w' g' → k s' = some r → Q .normal a' w') → ∀ id, (Code.region id ops draw).wpIn (fw ro) 0 P Q a w
def CodeOk (P : Program) (C : Cx) (nt : Nat) : Code → Prop
  | .skip => True
  | .region _ ops draw => RegOk P C nt ops draw
  | .seq a b => CodeOk P C nt a ∧ CodeOk P C nt b
  | .cond _ a b => CodeOk P C nt a ∧ CodeOk P C nt b
  | .block _ b => CodeOk P C nt b
  | .loop b => CodeOk P C nt b
  | .rangeFunc _ ps a b => (∀ t ∈ ps.toList, t < nt) ∧ CodeOk P C nt a ∧ CodeOk P C nt b
  | _ => True
def NormAt (X : Fix) (H : List (Nat × List Keep)) : Prop := ∀ ks, (∃ n, get H n = some ks) → ∀ {β : Type} (K : Sx → Option β) (r : β) (s : Sx) (a : Act) (w : World) (g : Gh), Sim X (Lt s.nx) s a w g → normal ks s K = some r → ∃ s' g', Sim X (Lt s'.nx) s' a w g' ∧ K s' = some r
def NormalOk (H : List (Nat × List Keep)) : Prop := ∀ X : Fix, (∀ b, ¬ X.U0 b) → NormAt X H
theorem norm_nil {X : Fix} : NormAt X [] := by
  rintro ks ⟨n, h⟩
  cases h
theorem nrm_ok {X : Fix} {H : List (Nat × List Keep)} (hN : NormAt X H) {m : Nat} {β : Type} {K : Sx → Option β} {r : β} {s : Sx} {a : Act} {w : World} {g : Gh} (h : Sim X (Lt s.nx) s a w g) (he : nrm (get H m) s K = some r) : ∃ s' g', Sim X (Lt s'.nx) s' a w g' ∧ K s' = some r := by
  unfold nrm at he
  split at he
  · rename_i ks hks
    exact hN ks ⟨_, hks⟩ K r s a w g h he
  · exact ⟨s, g, h, he⟩
/-- What is needed of ranges over functions. -/
def ROk (P : Program) (C : Cx) (ro : Option Nat) {β : Type} (R : RF β) (r : β) : Prop := ∀ (g : Operand) (ps : Array Tmp) (asg bd : Code) (s : Sx) (K : Sx → Option β) (Q : Exit → Act → World → Prop) (X : Fix) (a : Act) (w : World) (gh : Gh),
  CodeOk P C X.nt (.rangeFunc g ps asg bd) → YOk P X C.callY → Sim X (Lt s.nx) s a w gh → R g ps asg bd s K = some r → (∀ Y, X.le Y → ∀ s' a' w' g', Sim Y (Lt s'.nx) s' a' w' g' → K s' = some r → Q .normal a' w') → (Code.rangeFunc g ps asg bd).wpIn (fw ro) 0 P Q a w
theorem noR_ok {P : Program} {C : Cx} {ro : Option Nat} {β : Type} {r : β} : ROk P C ro noR r := fun _ _ _ _ _ _ _ _ _ _ _ _ _ _ h => by cases h
theorem code_ok {P : Program} {C : Cx} {H : List (Nat × List Keep)} {ro : Option Nat} {U : Nat → Prop} (hN : ∀ X : Fix, X.U0 = U → NormAt X H) (n : Nat) {β : Type} {r : β} {R : RF β} (hR : ROk P C ro R r) : ∀ (c : Code) (X : Fix) (s : Sx) (k : Kont β) (Q : Exit → Act → World → Prop) (a : Act) (w : World) (g : Gh), X.U0 = U → YOk P X C.callY → CodeOk P C X.nt c → Sim X (Lt s.nx) s a w g → evCodeG R C H n c s k = some r → KOk X r k Q → c.wpIn (fw ro) 0 P Q a w := by
  intro c
  induction c with
  | skip => intro X s k Q a w g hU hY hc h he hk; exact wpIn_skip (hk.n X (.refl X) s a w g h he)
  | region i ops draw => intro X s k Q a w g hU hY hc h he hk; exact hc X rfl hY ro k.n r Q s a w g h he (fun s' a' w' g' h' he' => hk.n X (.refl X) s' a' w' g' h' he') i
  | seq x y ihx ihy =>
    intro X s k Q a w g hU hY hc h he hk
    exact wpIn_seq (ihx X s _ _ a w g hU hY hc.1 h he ⟨fun Y hl s' a' w' g' h' he' => ihy Y s' k Q a' w' g' (hl.U0.trans hU) (hY.mono hl) (hl.nt ▸ hc.2) h' he' (hk.mono hl), hk.x, hk.r⟩)
  | cond c x y ihx ihy =>
    intro X s k Q a w g hU hY hc h he hk
    have hr := h.opnd c
    simp only [evCodeG] at he
    unfold condK at he
    split at he
    case h_2 => cases he
    case h_1 b hb =>
      rw [hb, rep_bool] at hr
      cases b
      · exact wpIn_cond_false hr (ihy X s k Q a w g hU hY hc.2 h he hk)
      · exact wpIn_cond_true hr (ihx X s k Q a w g hU hY hc.1 h he hk)
  | block i b ih =>
    intro X s k Q a w g hU hY hc h he hk
    refine wpIn_block (ih X s _ _ a w g hU hY hc h he ⟨fun Y hl s' a' w' g' h' he' => ?_, fun Y hl j s' a' w' g' h' he' => ?_, hk.r⟩)
    · obtain ⟨s2, g2, h2, e2⟩ := nrm_ok (hN Y (hl.U0.trans hU)) h' he'
      exact hk.n Y hl s2 a' w' g2 h2 e2
    simp only [Exit.inBlock]
    by_cases hj : j = i
    · rw [if_pos hj]
      simp only [blockK, (beq_eq hj : Nat.beq j i = true), cond_true] at he'
      exact hk.n Y hl s' a' w' g' h' he'
    · rw [if_neg hj]
      simp only [blockK, (beq_ne hj : Nat.beq j i = false), cond_false] at he'
      exact hk.x Y hl j s' a' w' g' h' he'
  | loop b ih =>
    intro X s k Q a w g hU hY hc h he hk
    have key : ∀ (m : Nat) (Y : Fix) (s : Sx) (a : Act) (w : World) (g : Gh), X.le Y → Sim Y (Lt s.nx) s a w g → loopN (get H (3 * firstRegion b)) (evCodeG R C H n b) m s k = some r → FromLoop ro P b Q a w := by
      intro m
      induction m with
      | zero => intro Y s a w g hl h he; cases he
      | succ m ihm =>
        intro Y s a w g hl h he
        simp only [loopN] at he
        refine fromLoop_round (ih Y s _ _ a w g (hl.U0.trans hU) (hY.mono hl) (hl.nt ▸ hc) h he ⟨fun Z hz s2 a2 w2 g2 h2 he2 => ?_, (hk.mono hl).x, (hk.mono hl).r⟩)
        obtain ⟨s3, g3, h3, e3⟩ := nrm_ok (hN Z (hz.U0.trans (hl.U0.trans hU))) h2 he2
        exact ihm Z s3 a2 w2 g3 (hl.trans hz) h3 e3
    obtain ⟨s1, g1, h1, e1⟩ := nrm_ok (hN X hU) h he
    exact fromLoop_wp (key n X s1 a w g1 (.refl X) h1 e1)
  | exit i =>
    intro X s k Q a w g hU hY hc h he hk
    obtain ⟨s1, g1, h1, e1⟩ := nrm_ok (hN X hU) h he
    exact wpIn_exit (hk.x X (.refl X) i s1 a w g1 h1 e1)
  | ret =>
    intro X s k Q a w g hU hY hc h he hk
    obtain ⟨s1, g1, h1, e1⟩ := nrm_ok (hN X hU) h he
    exact wpIn_ret (hk.r X (.refl X) s1 a w g1 h1 e1)
  | rangeFunc f ps asg bd _ _ =>
    intro X s k Q a w g hU hY hc h he hk
    exact hR f ps asg bd s k.n Q X a w g hc hY h he (fun Y hl s' a' w' g' h' he' => hk.n Y hl s' a' w' g' h' he')
  | _ => intro X s k Q a w g hU hY hc h he hk; cases he
end Go.Proofs.Ytcjhegiidnjepaa.Ev
