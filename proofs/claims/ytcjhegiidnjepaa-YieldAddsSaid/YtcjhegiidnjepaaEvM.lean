/- What is kept at a loop's head. -/
import Derived.Test.YtcjhegiidnjepaaEvO
namespace Go.Proofs.Ytcjhegiidnjepaa.Ev
open Go.RowKit
set_option linter.unusedVariables false
set_option linter.unusedSimpArgs false

section
variable {X : Fix} {U : Nat → Prop} {s : Sx} {a : Act} {w : World} {g : Gh}
/-- A nil slice gets a name. -/
theorem Sim.newNil (h : Sim X U s a w g) {n : Nat} (hn : ¬ U n) (r : Row) (fz' : List Nat) (hfz : ∀ c, memN fz' c = false → memN s.fz c = false) (nx : Nat) :
    Sim X (upto1 U n) ⟨s.tm, setB s.bl n (.row r []), fz', nx⟩ a w (g.setO n none 0 0) := by
  have hat : (g.setO n none 0 0).at_ n = none := by simp [Gh.setO]
  have hext : GExt w w g (g.setO n none 0 0) U := ⟨fun k o hp => ⟨rfl, hp⟩, fun b hb => by simp only [Gh.setO]; rw [if_neg (by rintro rfl; exact hn hb)], fun b hb => by simp only [Gh.setO]; rw [if_neg (by rintro rfl; exact hn hb)], fun b hb => by simp only [Gh.setO]; rw [if_neg (by rintro rfl; exact hn hb)]⟩
  exact (h.one (w' := w) (g' := g.setO n none 0 0) (U' := upto1 U n) n (.row r []) (setB s.bl n (.row r [])) fz' (fun b hb => .inl hb) (fun c y hc hy => by rw [get_setB, if_neg hc] at hy; exact hy) (by rw [get_setB, if_pos rfl]) (fun c _ hf => hfz c hf) hext (fun c y B hc hy hB => ⟨rfl, fun o ho => ho⟩)
    ⟨by simp [Gh.setO], fun _ => rfl, fun B hB => by rw [hat] at hB; cases hB⟩ (fun cs B o hx => by cases hx) (fun r l B o _ _ hB => by rw [hat] at hB; cases hB) (fun c y B _ _ _ hB => by rw [hat] at hB; cases hB) (fun B hB => by rw [hat] at hB; cases hB) (fun _ _ _ => Iff.rfl) (fun B o hp => h.plt B o hp) (Unt.refl _ _) (.inr rfl) (fun cs hx => by cases hx)).at_nx nx
theorem Sim.fzMore (h : Sim X U s a w g) {fz' : List Nat} (hfz : ∀ c, memN fz' c = false → memN s.fz c = false) (nx : Nat) : Sim X U ⟨s.tm, s.bl, fz', nx⟩ a w g :=
  ⟨h.tmps, h.size, h.dfr, h.blk, h.unp, fun b r l B o hb hf hB => h.unf b r l B o hb (hfz b hf) hB, h.inj, h.new, h.prot0, h.plt, h.blt, h.below, h.nmT, h.nmB, h.nmK, h.u0, h.ext, h.held, h.mkh, h.mkn, h.hok⟩
theorem Sim.reBlk (h : Sim X U s a w g) {b : Nat} {cs cs' : List AV} (hb : get s.bl b = some (.box cs)) (hr : BlkRep w g b (.box cs')) (hn : ∀ c ∈ namesL cs', U c) : Sim X U ⟨s.tm, setB s.bl b (.box cs'), s.fz, s.nx⟩ a w g := by
  exact h.one (w' := w) (g' := g) (U' := U) b (.box cs') (setB s.bl b (.box cs')) s.fz (fun _ hb => hb) (fun c y hc hy => by rw [get_setB, if_neg hc] at hy; exact hy) (by rw [get_setB, if_pos rfl]) (fun _ _ hf => hf) ⟨fun _ _ hp => ⟨rfl, hp⟩, fun _ _ => rfl, fun _ _ => rfl, fun _ _ => rfl⟩ (fun c y B hc hy hB => ⟨rfl, fun o ho => ho⟩)
    hr (fun _ B o _ hB => h.unp b cs B o hb hB) (fun r l B o hx => by cases hx) (fun c y B hc hy hB hB2 => hc (h.inj c b _ _ B (by rw [get_setB, if_neg hc] at hy; exact hy) hb hB hB2)) (fun B hB => h.new b _ B hb hB) (fun _ _ _ => Iff.rfl) (fun B o hp => h.plt B o hp) (Unt.refl _ _) (h.nmK b _ hb) (fun cs2 hx c hc => by cases hx; exact hn c hc)
theorem Sim.reBox (h : Sim X U s a w g) {b : Nat} {cs cs' : List AV} (hb : get s.bl b = some (.box cs)) (hr : ∀ vs, RepL (Rep1 w g) cs vs → RepL (Rep1 w g) cs' vs) (hn : ∀ c ∈ namesL cs', U c) : Sim X U ⟨s.tm, setB s.bl b (.box cs'), s.fz, s.nx⟩ a w g := by
  obtain ⟨B, arr, ty, h1, h2, h3⟩ := h.blk b _ hb
  exact h.reBlk hb ⟨B, arr, ty, h1, h2, hr _ h3⟩ hn
end
theorem gext_setO {w : World} {g : Gh} {n m : Nat} (h : n ≤ m) : GExt w w g (g.setO m none 0 0) (Lt n) :=
  ⟨fun _ _ hp => ⟨rfl, hp⟩, fun b hb => by simp only [Gh.setO]; rw [if_neg (by have hb' : b < n := hb; omega)], fun b hb => by simp only [Gh.setO]; rw [if_neg (by have hb' : b < n := hb; omega)], fun b hb => by simp only [Gh.setO]; rw [if_neg (by have hb' : b < n := hb; omega)]⟩
/-- What stays true while names are given. -/
structure On (w : World) (s s' : Sx) (g g' : Gh) : Prop where
  tm : s'.tm = s.tm
  le : s.nx ≤ s'.nx
  ext : GExt w w g g' (Lt s.nx)
theorem On.refl (w : World) (s : Sx) (g : Gh) : On w s s g g := ⟨rfl, Nat.le_refl _, ⟨fun _ _ hp => ⟨rfl, hp⟩, fun _ _ => rfl, fun _ _ => rfl, fun _ _ => rfl⟩⟩
theorem On.trans {w : World} {s s1 s2 : Sx} {g g1 g2 : Gh} (h : On w s s1 g g1) (k : On w s1 s2 g1 g2) : On w s s2 g g2 :=
  ⟨k.tm.trans h.tm, Nat.le_trans h.le k.le, ⟨fun B o hp => ⟨rfl, (k.ext.keep B o (h.ext.keep B o hp).2).2⟩, fun b hb => (k.ext.at_ b (Nat.lt_of_lt_of_le hb h.le)).trans (h.ext.at_ b hb), fun b hb => (k.ext.len b (Nat.lt_of_lt_of_le hb h.le)).trans (h.ext.len b hb), fun b hb => (k.ext.cap b (Nat.lt_of_lt_of_le hb h.le)).trans (h.ext.cap b hb)⟩⟩
theorem asRow_ok {X : Fix} {s s' : Sx} {a : Act} {w : World} {g : Gh} (h : Sim X (Lt s.nx) s a w g) {r : Row} {fz : Bool} {v v' : AV} (he : asRow r fz v s = some (v', s')) (hn : ∀ b ∈ names v, b < s.nx) :
    ∃ g', Sim X (Lt s'.nx) s' a w g' ∧ On w s s' g g' ∧ (∀ u, Rep w g v u → Rep w g' v' u) ∧ (∀ b ∈ names v', b < s'.nx) ∧ plain1 v' = true ∧ ((∀ b, v ≠ .own b) → ∀ c, c ≠ s.nx → get s'.bl c = get s.bl c) ∧ (∀ b, v = .own b → s'.bl = s.bl) ∧ (∃ b, v' = .own b) := by
  unfold asRow at he
  split at he
  case h_3 => cases he
  case h_1 =>
    cases he
    have hfresh : ¬ Lt s.nx s.nx := Nat.lt_irrefl _
    refine ⟨g.setO s.nx none 0 0, (h.newNil hfresh r _ (fun c hc => ?_) (s.nx + 1)).more (fun b hb => ?_), ⟨rfl, Nat.le_succ _, gext_setO (Nat.le_refl _)⟩, fun u hu => ?_, fun b hb => ?_, rfl, fun _ c hc => by rw [get_setB, if_neg hc], fun b hb => absurd hb (by simp), ⟨_, rfl⟩⟩
    · cases fz
      · exact hc
      · simp only [cond_true, memN] at hc
        cases hb : Nat.beq s.nx c
        · rw [hb] at hc; exact hc
        · rw [hb] at hc; cases hc
    · rcases hb with hb | hb
      · exact Nat.lt_succ_of_lt hb
      · subst hb; exact Nat.lt_succ_self _
    · have hu' : u = .slice none 0 0 := hu
      subst hu'
      simp [Rep, Rep2, Rep1, Rep0, Gh.setO]
    · simp only [names, names2, names1, names0, List.mem_singleton] at hb
      subst hb
      exact Nat.lt_succ_self _
  case h_2 b =>
    cases fz
    · simp only [cond_false] at he
      cases hf : memN s.fz b
      · rw [hf] at he
        cases he
        exact ⟨g, h, On.refl w s g, fun u hu => hu, hn, rfl, fun hc => absurd rfl (hc b), fun _ _ => rfl, ⟨_, rfl⟩⟩
      · rw [hf] at he; cases he
    · simp only [cond_true] at he
      cases he
      refine ⟨g, h.fzMore (fun c hc => ?_) s.nx, ⟨rfl, Nat.le_refl _, (On.refl w s g).ext⟩, fun u hu => hu, hn, rfl, fun hc => absurd rfl (hc b), fun _ _ => rfl, ⟨_, rfl⟩⟩
      simp only [memN] at hc
      cases hb : Nat.beq b c
      · rw [hb] at hc; exact hc
      · rw [hb] at hc; cases hc
theorem cellAt_eq : ∀ (cs : List AV) (i : Nat), cellAt cs i = (cs[i]?).getD .undef
  | [], i => by simp [cellAt]
  | x :: r, 0 => rfl
  | x :: r, i + 1 => by simp [cellAt, cellAt_eq r i]
theorem setCell_rep {R : AV → Value → Prop} {v : AV} : ∀ {cs : List AV} {i : Nat} {vs : List Value}, (∀ c u, cs[i]? = some c → R c u → R v u) → RepL R cs vs → RepL R (setCell cs i v) vs
  | [], i, vs, _, h => by simpa [setCell, RepL] using h
  | c :: cs, i, [], _, h => by simp [RepL] at h
  | c :: cs, 0, u :: vs, hv, h => by
    simp only [RepL, setCell] at h ⊢
    exact ⟨hv c u rfl h.1, h.2⟩
  | c :: cs, i + 1, u :: vs, hv, h => by
    simp only [RepL, setCell] at h ⊢
    exact ⟨h.1, setCell_rep (fun c u hc => hv c u (by simpa using hc)) h.2⟩
theorem setCell_names {v : AV} {b : Nat} : ∀ {cs : List AV} {i : Nat}, b ∈ namesL (setCell cs i v) → b ∈ namesL cs ∨ b ∈ names1 v
  | [], i, h => .inl h
  | c :: cs, 0, h => by
    simp only [setCell, namesL, List.mem_append] at h ⊢
    exact h.elim .inr (fun h => .inl (.inr h))
  | c :: cs, i + 1, h => by
    simp only [setCell, namesL, List.mem_append] at h ⊢
    rcases h with h | h
    · exact .inl (.inl h)
    · exact (setCell_names h).imp .inr id
theorem asRows_ok {X : Fix} {a : Act} {w : World} {b : Nat} : ∀ (q : List (Nat × Row × Bool)) {s s' : Sx} {g : Gh}, Sim X (Lt s.nx) s a w g → asRows b q s = some s' → ∃ g', Sim X (Lt s'.nx) s' a w g' ∧ On w s s' g g'
  | [], s, s', g, h, he => by
    simp only [asRows, Option.some.injEq] at he
    subst he
    exact ⟨g, h, On.refl w s g⟩
  | (i, r, fz) :: q, s, s', g, h, he => by
    simp only [asRows] at he
    split at he
    case h_2 => cases he
    case h_1 cs hcs =>
      split at he
      case h_2 => cases he
      case h_1 v s1 hv =>
        have hbU : b < s.nx := h.nmK b _ hcs
        obtain ⟨B, arr, ty, e1, e2, e3⟩ := h.blk b _ hcs
        have hcell : ∀ c, cs[i]? = some c → cellAt cs i = c := fun c hc => by rw [cellAt_eq, hc]; rfl
        have hnm : ∀ n ∈ names (cellAt cs i), n < s.nx := by
          intro n hn
          cases hc : cs[i]? with
          | none => rw [cellAt_eq, hc] at hn; simp [names, names2, names1, names0] at hn
          | some c =>
            rw [hcell c hc] at hn
            obtain ⟨u, hu, hr⟩ := e3.get hc
            rw [(rep1_names hr).2] at hn
            exact h.nmB b cs hcs n (mem_namesL (List.mem_of_getElem? hc) hn)
        obtain ⟨g1, h1, o1, r1, n1, p1, k1, k2, ⟨bo, hbo⟩⟩ := asRow_ok h hv hnm
        have hcs1 : get s1.bl b = some (.box cs) := by
          by_cases ho : ∃ c, cellAt cs i = .own c
          · obtain ⟨c, hc⟩ := ho
            rw [k2 c hc]
            exact hcs
          · rw [k1 (fun c hc => ho ⟨c, hc⟩) b (by omega)]
            exact hcs
        have h2 := h1.reBox (cs' := setCell cs i v) hcs1 (fun vs hvs => by
          refine setCell_rep (fun c u hc hr => ?_) hvs
          subst hbo
          -- the cell's value is told by the same model value
          have hcg : Rep w g (cellAt cs i) u → Rep w g1 (.own bo) u := r1 u
          have hcu : Rep w g (cellAt cs i) u := by
            rw [hcell c hc]
            -- c is nils or an own slice: what it stands for does not change between g and g1
            have hcc := hcell c hc
            unfold asRow at hv
            rw [hcc] at hv
            split at hv
            case h_1 => exact hr
            case h_2 b' =>
              have hb' : b' < s.nx := hnm b' (by rw [hcc]; simp [names, names2, names1, names0])
              have : Rep0 w g1 (.own b') u := hr
              simp only [Rep0, o1.ext.at_ b' hb', o1.ext.len b' hb', o1.ext.cap b' hb'] at this
              exact this
            case h_3 => cases hv
          exact hcg hcu) (fun c hc => by
            rcases setCell_names hc with hc | hc
            · exact h1.nmB b cs hcs1 c hc
            · exact n1 c (by subst hbo; exact hc))
        obtain ⟨g2, h3, o3⟩ := asRows_ok q h2 he
        exact ⟨g2, h3, o1.trans ⟨o3.tm, o3.le, o3.ext⟩⟩
/-- The temporaries that are kept. -/
def KeptOk (a : Act) (w : World) (s : Sx) (g : Gh) (tms : List (Nat × AV)) : Prop := ∀ p ∈ tms, Rep w g p.2 (a.tmps.getD p.1 undef) ∧ (∀ b ∈ names p.2, b < s.nx)
theorem KeptOk.on {a : Act} {w : World} {s s' : Sx} {g g' : Gh} {tms : List (Nat × AV)} (h : KeptOk a w s g tms) (o : On w s s' g g') : KeptOk a w s' g' tms :=
  fun p hp => ⟨(h p hp).1.ext o.ext (h p hp).2, fun b hb => Nat.lt_of_lt_of_le ((h p hp).2 b hb) o.le⟩
theorem leaf_enc {w : World} {g : Gh} {l : Leaf} {x : Leaf.T l} {v : Value} (h : RepLeaf w g.prot l x v) : Rep1 w g (Leaf.enc l x) v ∧ names1 (Leaf.enc l x) = [] := by
  cases l <;> exact ⟨h, rfl⟩
theorem row_enc {w : World} {g : Gh} : ∀ {r : Row} {cs : List AV} {x : Row.T r} {vs : List Value}, Row.dec r cs = some x → RepL (Rep1 w g) cs vs → RepL (Rep1 w g) (Row.enc r x) vs ∧ namesL (Row.enc r x) = []
  | .one l, cs, x, vs, hd, h => by
    have hd' : one1 (Leaf.dec l) cs = some x := hd
    unfold one1 at hd'
    split at hd'
    case h_2 => exact (none_some hd').elim
    case h_1 c =>
      cases vs with
      | nil => simp [RepL] at h
      | cons v vs =>
        simp only [RepL] at h
        have := leaf_enc (leaf_dec hd' h.1)
        exact ⟨⟨this.1, h.2⟩, by simp [Row.enc, namesL, this.2]⟩
  | .cons l r, cs, x, vs, hd, h => by
    have hd' : cons1 (Leaf.dec l) (Row.dec r) cs = some x := hd
    unfold cons1 at hd'
    split at hd'
    case h_2 => exact (none_some hd').elim
    case h_1 c cs =>
      obtain ⟨h1, h2⟩ := pairO_inv hd'
      cases vs with
      | nil => simp [RepL] at h
      | cons v vs =>
        simp only [RepL] at h
        have a1 := leaf_enc (leaf_dec h1 h.1)
        have a2 := row_enc h2 h.2
        exact ⟨⟨a1.1, a2.1⟩, by simp [Row.enc, namesL, a1.2, a2.2]⟩
theorem row_enc_names : ∀ {r : Row} (x : Row.T r), namesL (Row.enc r x) = []
  | .one l, x => by cases l <;> rfl
  | .cons l r, x => by
    simp only [Row.enc, namesL, row_enc_names (r := r) x.2, List.append_nil]
    cases l <;> rfl
theorem dat_ok {X : Fix} {U : Nat → Prop} {s : Sx} {a : Act} {w : World} {g : Gh} (h : Sim X U s a w g) {ns : List Nat} {agg : Bool} {r : Row} {v v' : AV} {u : Value} (hd : datV (get s.bl) agg r v = some v') (hn : ∀ b ∈ names2 v, b ∈ ns) (hr : Rep w g v u) : Rep w (g.more s ns) v' u ∧ names v' = [] := by
  unfold datV at hd
  obtain ⟨hc, hd⟩ := chk_some hd
  split at hd
  case h_2 => exact (none_some hd).elim
  case h_1 cs hcs =>
    split at hd
    case h_2 => exact (none_some hd).elim
    case h_1 x hx =>
      have := Option.some.inj hd
      subst this
      clear hd
      cases agg
      · simp only [cond_false] at hc
        have hone : cellsOf v = [v] := by cases v <;> first | rfl | simp [plain1] at hc
        have hr1 : Rep1 w g v u := by cases v <;> first | exact hr | simp [plain1] at hc
        have hn1 : names2 v = names1 v := by cases v <;> first | rfl | simp [plain1] at hc
        rw [hone] at hcs
        have hs := snapL_rep h (ns := ns) (vs := [u]) hcs (fun b hb => hn b (by rw [hn1]; simpa [namesL] using hb)) ⟨hr1, rfl⟩
        obtain ⟨e1, e2⟩ := row_enc hx hs
        cases hE : Row.enc r x with
        | nil =>
          rw [hE] at e1
          simp [RepL] at e1
        | cons y ys =>
          rw [hE] at e1 e2
          simp only [RepL] at e1
          cases ys with
          | cons _ _ => simp [RepL] at e1
          | nil =>
            refine ⟨(rep1_names e1.1).1, ?_⟩
            show names y = []
            rw [(rep1_names e1.1).2]
            simpa [namesL] using e2
      · simp only [cond_true] at hc
        obtain ⟨cs0, rfl⟩ : ∃ cs0, v = .agg cs0 := by cases v <;> first | exact ⟨_, rfl⟩ | exact (Bool.noConfusion hc)
        obtain ⟨vs, rfl, hl⟩ := hr
        have hs := snapL_rep h (ns := ns) hcs (fun b hb => hn b hb) hl
        obtain ⟨e1, e2⟩ := row_enc hx hs
        exact ⟨⟨vs, rfl, e1⟩, e2⟩
theorem keepAll_ok {X : Fix} {a : Act} {w : World} : ∀ (ks : List Keep) {s s' : Sx} {g : Gh} {acc tms : List (Nat × AV)}, Sim X (Lt s.nx) s a w g → KeptOk a w s g acc → keepAll ks s acc = some (tms, s') → ∃ g', Sim X (Lt s'.nx) s' a w g' ∧ KeptOk a w s' g' tms
  | [], s, s', g, acc, tms, h, hk, he => by
    simp only [keepAll, Option.some.injEq, Prod.mk.injEq] at he
    obtain ⟨rfl, rfl⟩ := he
    exact ⟨g, h, fun p hp => hk p (List.mem_reverse.1 hp)⟩
  | .asis t :: q, s, s', g, acc, tms, h, hk, he => by
    simp only [keepAll] at he
    cases hkn : known (look s.tm t)
    · rw [hkn] at he; cases he
    · rw [hkn] at he
      refine keepAll_ok q h (fun p hp => ?_) he
      rcases List.mem_cons.1 hp with rfl | hp
      · exact ⟨h.tmps t, h.nmT t⟩
      · exact hk p hp
  | .row t r fz :: q, s, s', g, acc, tms, h, hk, he => by
    simp only [keepAll] at he
    split at he
    case h_2 => cases he
    case h_1 v s1 hv =>
      obtain ⟨g1, h1, o1, r1, n1, _⟩ := asRow_ok h hv (h.nmT t)
      refine keepAll_ok q h1 (fun p hp => ?_) he
      rcases List.mem_cons.1 hp with rfl | hp
      · exact ⟨r1 _ (h.tmps t), n1⟩
      · exact hk.on o1 p hp
  | .dat t agg r :: q, s, s', g, acc, tms, h, hk, he => by
    simp only [keepAll] at he
    split at he
    case h_2 => cases he
    case h_1 v hv =>
      obtain ⟨h1, h2⟩ := dat_ok h (ns := names2 (look s.tm t)) hv (fun b hb => hb) (h.tmps t)
      refine keepAll_ok q (h.freeze (names2 (look s.tm t))) (fun p hp => ?_) he
      rcases List.mem_cons.1 hp with rfl | hp
      · exact ⟨h1, fun b hb => by rw [h2] at hb; simp at hb⟩
      · exact ⟨(hk p hp).1.ext (Gh.more_ext s g _ w) (fun _ _ => trivial), (hk p hp).2⟩
  | .datb t r :: q, s, s', g, acc, tms, h, hk, he => by
    simp only [keepAll] at he
    split at he
    case h_2 => cases he
    case h_1 b off hb =>
      split at he
      case h_2 => cases he
      case h_1 cs hcs =>
        split at he
        case h_2 => cases he
        case h_1 x hx =>
          unfold decS at hx
          split at hx
          case h_2 => exact (none_some hx).elim
          case h_1 cs' hcs' =>
            have hf := h.freeze (namesL cs)
            obtain ⟨B0, arr0, ty0, b1, b2, b3⟩ := h.blk b _ hcs
            have h2 := hf.reBlk (b := b) (cs := cs) (cs' := Row.enc r x) hcs ⟨B0, arr0, ty0, b1, b2, (row_enc hx (snapL_rep h hcs' (fun b hb => hb) b3)).1⟩ (fun c hc => ?_)
            · refine keepAll_ok q h2 (fun p hp => ?_) he
              rcases List.mem_cons.1 hp with rfl | hp
              · have ht := h2.tmps t
                have hn := h2.nmT t
                rw [hb] at ht hn
                exact ⟨ht, hn⟩
              · exact ⟨(hk p hp).1.ext (Gh.more_ext s g _ w) (fun _ _ => trivial), (hk p hp).2⟩
            · rw [(row_enc_names x)] at hc
              simp at hc
  | .box t cells :: q, s, s', g, acc, tms, h, hk, he => by
    simp only [keepAll] at he
    split at he
    case h_2 => cases he
    case h_1 b off hb =>
      split at he
      case h_2 => cases he
      case h_1 s1 hs1 =>
        obtain ⟨g1, h1, o1⟩ := asRows_ok cells h hs1
        refine keepAll_ok q h1 (fun p hp => ?_) he
        rcases List.mem_cons.1 hp with rfl | hp
        · have ht := h1.tmps t
          have hn := h1.nmT t
          rw [o1.tm, hb] at ht hn
          exact ⟨ht, hn⟩
        · exact hk.on o1 p hp
theorem look_mkT {f : Nat → Nat} : ∀ (l : List (Nat × AV)) (t : Tr) (m : Nat), (∃ p ∈ l, p.1 = m ∧ look (mkT f l t) m = ren f p.2) ∨ look (mkT f l t) m = look t m ∨ look (mkT f l t) m = .undef
  | [], t, m => .inr (.inl rfl)
  | (n, v) :: r, t, m => by
    simp only [mkT]
    rcases look_mkT r (putT t n (ren f v)) m with ⟨p, hp, h1, h2⟩ | h | h
    · exact .inl ⟨p, by simp [hp], h1, h2⟩
    · rcases look_put t n (ren f v) m with ⟨h1, h2⟩ | ⟨h1, h2⟩ | h2
      · exact .inl ⟨(n, v), by simp, h1.symm, h.trans h2⟩
      · exact .inr (.inl (h.trans h2))
      · exact .inr (.inr (h.trans h2))
    · exact .inr (.inr h)
theorem get_pick {bl : Bls} {f : Nat → Nat} : ∀ {l : List Nat} {i : Nat} {y : Blk}, get (pick1 bl f l) i = some y → ∃ b x, b ∈ l ∧ f b = i ∧ get bl b = some x ∧ y = blkRen f x
  | [], i, y, h => by simp [pick1, get] at h
  | b :: r, i, y, h => by
    simp only [pick1] at h
    split at h
    case h_1 x hx =>
      simp only [get] at h
      cases hb : Nat.beq (f b) i
      · rw [hb] at h
        obtain ⟨c, z, h1, h2⟩ := get_pick (l := r) h
        exact ⟨c, z, by simp [h1], h2⟩
      · rw [hb] at h
        exact ⟨b, x, by simp, Nat.eq_of_beq_eq_true hb, hx, (Option.some.inj h).symm⟩
    case h_2 =>
      obtain ⟨c, z, h1, h2⟩ := get_pick (l := r) h
      exact ⟨c, z, by simp [h1], h2⟩
theorem names_T {l : List (Nat × AV)} {p : Nat × AV} (hp : p ∈ l) {b : Nat} (hb : b ∈ names p.2) : b ∈ namesT l := by
  induction l with
  | nil => simp at hp
  | cons q r ih =>
    obtain ⟨n, v⟩ := q
    simp only [namesT, List.mem_append]
    rcases List.mem_cons.1 hp with rfl | hp
    · exact .inl hb
    · exact .inr (ih hp)
theorem normal_ok (H : List (Nat × List Keep)) : NormalOk H := by
  intro X hX ks _ β K r s a w g h he
  unfold normal at he
  split at he
  case h_2 => cases he
  case h_1 q hq =>
    obtain ⟨tms, s1⟩ := q
    obtain ⟨g1, h1, hk⟩ := keepAll_ok ks h (fun p hp => by simp at hp) hq
    rw [seqN_eq] at he
    generalize reach s1.bl 60 (namesT tms) [] = ns at he
    obtain ⟨hc, he⟩ := chk_some he
    simp only [Bool.and_eq_true] at hc
    obtain ⟨⟨c1, c2⟩, c3⟩ := hc
    have c1 : ∀ b ∈ namesT tms, b ∈ ns := fun b hb => (memN_iff _ _).1 (List.all_eq_true.1 c1 b hb)
    have hin := closed_inv c2
    refine ⟨normal2 tms s1 ns, g1.pick ns g1.prot, ?_, he⟩
    have hren := pick_ren (w := w) (g := g1) (ns := ns)
    have hl : ∀ m, (∃ p ∈ tms, p.1 = m ∧ look (mkT (idx ns) tms .nil) m = ren (idx ns) p.2) ∨ look (mkT (idx ns) tms .nil) m = .undef := by
      intro m
      rcases look_mkT (f := idx ns) tms .nil m with h | h | h
      · exact .inl h
      · exact .inr (h.trans (look_nil m))
      · exact .inr h
    have hat : ∀ b, b ∈ ns → (g1.pick ns g1.prot).at_ (idx ns b) = g1.at_ b := fun b hb => hren.at_ b hb
    have hg : ∀ {i : Nat} {y : Blk}, get (normal2 tms s1 ns).bl i = some y → ∃ b x, b ∈ ns ∧ idx ns b = i ∧ get s1.bl b = some x ∧ y = blkRen (idx ns) x := fun hy => get_pick hy
    refine ⟨fun m => ?_, h1.size, h1.dfr, ?_, ?_, ?_, ?_, ?_, h1.prot0, h1.plt, h1.blt, h1.below, fun m b hb => ?_, ?_, ?_, fun b hb => absurd hb (hX b), ⟨h1.ext.keep, fun b hb => absurd hb (hX b), fun b hb => absurd hb (hX b), fun b hb => absurd hb (hX b)⟩, h1.held, h1.mkh, h1.mkn, h1.hok⟩
    · show Rep w _ (look (mkT (idx ns) tms .nil) m) _
      rcases hl m with ⟨p, hp, rfl, hm⟩ | hm
      · rw [hm]
        exact Rep.ren hren (fun b hb => c1 b (names_T hp hb)) (hk p hp).1
      · rw [hm]; trivial
    · intro i y hy
      obtain ⟨b, x, hb, rfl, hx, rfl⟩ := hg hy
      refine BlkRep.ren hren hb (fun cs hxc c hc => ?_) (fun B hB => ⟨rfl, fun o ho => ho⟩) (h1.blk b x hx)
      obtain ⟨x', hx', hcl⟩ := hin b hb
      rw [hx] at hx'
      cases hx'
      subst hxc
      exact hcl c hc
    · intro i cs B o hy hB hp
      obtain ⟨b, x, hb, rfl, hx, hxe⟩ := hg hy
      rw [hat b hb] at hB
      cases x with
      | row q l => cases hxe
      | box cs' => exact h1.unp b cs' B o hx hB hp
    · intro i q l B o hy hf hB hp
      obtain ⟨b, x, hb, rfl, hx, hxe⟩ := hg hy
      rw [hat b hb] at hB
      cases x with
      | box cs' => cases hxe
      | row q' l' =>
        refine h1.unf b q' l' B o hx ?_ hB hp
        cases hfb : memN s1.fz b
        · rfl
        · have : memN (normal2 tms s1 ns).fz (idx ns b) = true := (memN_iff _ _).2 (List.mem_map.2 ⟨b, List.mem_filter.2 ⟨hb, hfb⟩, rfl⟩)
          rw [this] at hf
          cases hf
    · intro i j x y B hx hy hB hC
      obtain ⟨b, x', hb, rfl, hbx, _⟩ := hg hx
      obtain ⟨c, y', hc, rfl, hcy, _⟩ := hg hy
      rw [hat b hb] at hB
      rw [hat c hc] at hC
      rw [h1.inj b c x' y' B hbx hcy hB hC]
    · intro i x B hx hB
      obtain ⟨b, x', hb, rfl, hbx, _⟩ := hg hx
      rw [hat b hb] at hB
      exact h1.new b x' B hbx hB
    · have hb' : b ∈ names (look (mkT (idx ns) tms .nil) m) := hb
      rcases hl m with ⟨p, hp, rfl, hm⟩ | hm
      · rw [hm, names_ren] at hb'
        obtain ⟨c, hc, rfl⟩ := List.mem_map.1 hb'
        exact (idx_get (c1 c (names_T hp hc))).2
      · rw [hm] at hb'
        simp [names, names2, names1, names0] at hb'
    · intro i cs hy c hc
      obtain ⟨b, x, hb, rfl, hx, hxe⟩ := hg hy
      cases x with
      | row q l => cases hxe
      | box cs' =>
        cases hxe
        rw [namesL_ren] at hc
        obtain ⟨d, hd, rfl⟩ := List.mem_map.1 hc
        obtain ⟨x', hx', hcl⟩ := hin b hb
        rw [hx] at hx'
        cases hx'
        exact (idx_get (hcl d hd)).2
    · intro i y hy
      obtain ⟨b, x, hb, rfl, hx, _⟩ := hg hy
      exact (idx_get hb).2
end Go.Proofs.Ytcjhegiidnjepaa.Ev
