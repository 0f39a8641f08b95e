/- Code. -/
import Derived.Test.YtdhgbgbdnifonaaEvK
namespace Go.Proofs.Ytdhgbgbdnifonaa.Ev
open Go.RowKit
set_option linter.unusedVariables false
set_option linter.unusedSimpArgs false

/-- A loop's body stands ahead, and the loop behind it. -/
def FromLoop (P : Program) (c : Code) (Q : Exit → Act → World → Prop) (a : Act) (w : World) : Prop :=
  ∀ (b : Frame) (k : List Item) (cs : List Frame), ∃ e a' w', Q e a' w' ∧ Arrives P (lone (b.at a (.code c :: .inLoop c :: k)) cs w) b k cs e a' w'
theorem fromLoop_round {P : Program} {c : Code} {Q : Exit → Act → World → Prop} {a : Act} {w : World} (h : c.wp P (Exit.then (FromLoop P c Q) Q) a w) : FromLoop P c Q a w := by
  intro b k cs
  obtain ⟨e, a₁, w₁, hq, harr⟩ := h b (.inLoop c :: k) cs
  cases e with
  | normal =>
    obtain ⟨e₂, a₂, w₂, hq₂, harr₂⟩ := hq b k cs
    exact ⟨e₂, a₂, w₂, hq₂, .of_steps (Steps.trans harr (.one step_inLoop)) harr₂⟩
  | exit id => exact ⟨_, a₁, w₁, hq, .pass (x := .inLoop c) rfl (fun _ _ => .inl (by simp)) harr⟩
  | goto l => exact ⟨_, a₁, w₁, hq, .pass (x := .inLoop c) rfl (fun _ _ => .inl (by simp)) harr⟩
  | ret => exact ⟨_, a₁, w₁, hq, .pass (x := .inLoop c) rfl (fun _ _ => .inl (by simp)) harr⟩
  | panic ch => exact ⟨_, a₁, w₁, hq, .pass (x := .inLoop c) rfl (fun _ _ => .inl (by simp)) harr⟩
  | outgrown => exact ⟨_, a₁, w₁, hq, .pass (x := .inLoop c) rfl (fun _ _ => .inl (by simp)) harr⟩
theorem fromLoop_wp {P : Program} {c : Code} {Q : Exit → Act → World → Prop} {a : Act} {w : World} (h : FromLoop P c Q a w) : (Code.loop c).wp P Q a w := by
  intro b k cs
  obtain ⟨e, a', w', hq, harr⟩ := h b k cs
  exact ⟨e, a', w', hq, .of_steps (.one step_loop) harr⟩
structure KOk (X : Fix) {β : Type} (r : β) (k : Kont β) (Q : Exit → Act → World → Prop) : Prop where
  n : ∀ s a w g, Sim X (Lt s.nx) s a w g → k.n s = some r → Q .normal a w
  x : ∀ j s a w g, Sim X (Lt s.nx) s a w g → k.x j s = some r → Q (.exit j) a w
  r : ∀ s a w g, Sim X (Lt s.nx) s a w g → k.r s = some r → Q .ret a w
/-- A region's static part: what is needed of its operations. -/
def RegOk (P : Program) (C : Cx) (nt : Nat) (ops : Array Oper) (draw : Bool) : Prop :=
  ∀ (X : Fix), X.nt = nt → ∀ {β : Type} (k : Sx → Option β) (r : β) (Q : Exit → Act → World → Prop) (s : Sx) (a : Act) (w : World) (g : Gh), Sim X (Lt s.nx) s a w g →
    (regK C ops.toList draw s.nx ops.toList 0 s [] fun s' lg => endReg draw ops.toList s' lg k) = some r → (∀ s' a' w' g', Sim X (Lt s'.nx) s' a' w' g' → k s' = some r → Q .normal a' w') → ∀ id, (Code.region id ops draw).wp P Q a w
def CodeOk (P : Program) (C : Cx) (nt : Nat) : Code → Prop
  | .skip => True
  | .region _ ops draw => RegOk P C nt ops draw
  | .seq a b => CodeOk P C nt a ∧ CodeOk P C nt b
  | .cond _ a b => CodeOk P C nt a ∧ CodeOk P C nt b
  | .block _ b => CodeOk P C nt b
  | .loop b => CodeOk P C nt b
  | _ => True
def NormalOk (H : List (Nat × List Keep)) : Prop := ∀ ks, (∃ n, get H n = some ks) → ∀ (X : Fix) {β : Type} (K : Sx → Option β) (r : β) (s : Sx) (a : Act) (w : World) (g : Gh), Sim X (Lt s.nx) s a w g → normal ks s K = some r → ∃ s' g', Sim X (Lt s'.nx) s' a w g' ∧ K s' = some r
theorem nrm_ok {H : List (Nat × List Keep)} (hN : NormalOk H) {m : Nat} {X : Fix} {β : Type} {K : Sx → Option β} {r : β} {s : Sx} {a : Act} {w : World} {g : Gh} (h : Sim X (Lt s.nx) s a w g) (he : nrm (get H m) s K = some r) : ∃ s' g', Sim X (Lt s'.nx) s' a w g' ∧ K s' = some r := by
  unfold nrm at he
  split at he
  · rename_i ks hks
    exact hN ks ⟨_, hks⟩ X K r s a w g h he
  · exact ⟨s, g, h, he⟩
theorem code_ok {P : Program} {X : Fix} {C : Cx} {H : List (Nat × List Keep)} (hN : NormalOk H) (n : Nat) {β : Type} {r : β} : ∀ (c : Code) (s : Sx) (k : Kont β) (Q : Exit → Act → World → Prop) (a : Act) (w : World) (g : Gh), CodeOk P C X.nt c → Sim X (Lt s.nx) s a w g → evCode C H n c s k = some r → KOk X r k Q → c.wp P Q a w := by
  intro c
  induction c with
  | skip => intro s k Q a w g hc h he hk; exact wp_skip (hk.n s a w g h he)
  | region i ops draw => intro s k Q a w g hc h he hk; exact hc X rfl k.n r Q s a w g h he (fun s' a' w' g' h' he' => hk.n s' a' w' g' h' he') i
  | seq x y ihx ihy =>
    intro s k Q a w g hc h he hk
    exact wp_seq (ihx s _ _ a w g hc.1 h he ⟨fun s' a' w' g' h' he' => ihy s' k Q a' w' g' hc.2 h' he' hk, hk.x, hk.r⟩)
  | cond c x y ihx ihy =>
    intro s k Q a w g hc h he hk
    have hr := h.opnd c
    simp only [evCode] at he
    unfold condK at he
    split at he
    case h_2 => cases he
    case h_1 b hb =>
      rw [hb, rep_bool] at hr
      cases b
      · exact wp_cond_false hr (ihy s k Q a w g hc.2 h he hk)
      · exact wp_cond_true hr (ihx s k Q a w g hc.1 h he hk)
  | block i b ih =>
    intro s k Q a w g hc h he hk
    refine wp_block (ih s _ _ a w g hc h he ⟨fun s' a' w' g' h' he' => ?_, fun j s' a' w' g' h' he' => ?_, hk.r⟩)
    · obtain ⟨s2, g2, h2, e2⟩ := nrm_ok hN h' he'
      exact hk.n s2 a' w' g2 h2 e2
    simp only [Exit.inBlock]
    by_cases hj : j = i
    · rw [if_pos hj]
      simp only [blockK, (beq_eq hj : Nat.beq j i = true), cond_true] at he'
      exact hk.n s' a' w' g' h' he'
    · rw [if_neg hj]
      simp only [blockK, (beq_ne hj : Nat.beq j i = false), cond_false] at he'
      exact hk.x j s' a' w' g' h' he'
  | loop b ih =>
    intro s k Q a w g hc h he hk
    have key : ∀ (m : Nat) (s : Sx) (a : Act) (w : World) (g : Gh), Sim X (Lt s.nx) s a w g → loopN (get H (3 * firstRegion b)) (evCode C H n b) m s k = some r → FromLoop P b Q a w := by
      intro m
      induction m with
      | zero => intro s a w g h he; cases he
      | succ m ihm =>
        intro s a w g h he
        simp only [loopN] at he
        refine fromLoop_round (ih s _ _ a w g hc h he ⟨fun s2 a2 w2 g2 h2 he2 => ?_, hk.x, hk.r⟩)
        obtain ⟨s3, g3, h3, e3⟩ := nrm_ok hN h2 he2
        exact ihm s3 a2 w2 g3 h3 e3
    obtain ⟨s1, g1, h1, e1⟩ := nrm_ok hN h he
    exact fromLoop_wp (key n s1 a w g1 h1 e1)
  | exit i =>
    intro s k Q a w g hc h he hk
    obtain ⟨s1, g1, h1, e1⟩ := nrm_ok hN h he
    exact wp_exit (hk.x i s1 a w g1 h1 e1)
  | ret =>
    intro s k Q a w g hc h he hk
    obtain ⟨s1, g1, h1, e1⟩ := nrm_ok hN h he
    exact wp_ret (hk.r s1 a w g1 h1 e1)
  | _ => intro s k Q a w g hc h he hk; cases he
end Go.Proofs.Ytdhgbgbdnifonaa.Ev
