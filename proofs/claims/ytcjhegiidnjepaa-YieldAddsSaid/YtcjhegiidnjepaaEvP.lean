/- On what an operation hangs: its operands' values, the blocks that they name. -/
import Derived.Test.YtcjhegiidnjepaaEvM
namespace Go.Proofs.Ytcjhegiidnjepaa.Ev
open Go.RowKit
set_option linter.unusedVariables false
set_option linter.unusedSimpArgs false

section
variable {tm tm' : Tr} {rd rd' : Nat → Option Blk}
theorem opnds_congr : ∀ {l : List Operand}, (∀ x ∈ l, opnd tm x = opnd tm' x) → opnds tm l = opnds tm' l
  | [], _ => rfl
  | x :: r, h => by simp only [opnds]; rw [h x (by simp), opnds_congr (l := r) fun y hy => h y (by simp [hy])]
theorem partsOf_congr : ∀ {l : List (Nat × Operand)}, (∀ x ∈ l.map (·.2), opnd tm x = opnd tm' x) → partsOf tm l = partsOf tm' l
  | [], _ => rfl
  | x :: r, h => by simp only [partsOf]; rw [h x.2 (by simp), partsOf_congr (l := r) fun y hy => h y (by simp only [List.map_cons, List.mem_cons]; exact .inr hy)]
theorem snap1_congr {v : AV} (h : ∀ b ∈ names0 v, rd b = rd' b) : snap1 rd v = snap1 rd' v := by
  cases v <;> first | rfl | (rename_i b; simp only [snap1]; rw [h b (by simp [names0])])
theorem snapL_congr : ∀ {l : List AV}, (∀ b ∈ namesL l, rd b = rd' b) → snapL rd l = snapL rd' l
  | [], _ => rfl
  | v :: r, h => by
    simp only [snapL]
    rw [snap1_congr (v := v) (rd := rd) (rd' := rd') (fun b hb => h b (by
      simp only [namesL, List.mem_append]
      left
      cases v <;> first | exact hb | simp [names0] at hb)), snapL_congr (l := r) fun b hb => h b (by simp [namesL, hb])]
theorem snap_congr {v : AV} (h : ∀ b ∈ names2 v, rd b = rd' b) : snap rd v = snap rd' v := by
  cases v
  case agg cs => simp only [snap]; rw [snapL_congr (l := cs) h]
  case own b => exact snap1_congr (v := .own b) h
  all_goals rfl
theorem snaps_congr : ∀ {l : List AV}, (∀ b ∈ namesL2 l, rd b = rd' b) → snaps rd l = snaps rd' l
  | [], _ => rfl
  | v :: r, h => by
    simp only [snaps]
    rw [snap_congr (v := v) (rd := rd) (rd' := rd') (fun b hb => h b (by simp [namesL2, hb])), snaps_congr (l := r) fun b hb => h b (by simp [namesL2, hb])]
theorem listOf_congr {r : Row} {v : AV} (h : ∀ b ∈ names0 v, rd b = rd' b) : listOf rd r v = listOf rd' r v := by
  cases v <;> first | rfl | (rename_i b; simp only [listOf]; rw [h b (by simp [names0])])
end
/-- The same view with other temporaries, blocks, freezings. -/
def Vw.wi (V : Vw) (tm : Tr) (rd : Nat → Option Blk) (fz : Nat → Bool) : Vw := ⟨V.T, V.F, V.call, V.callS, V.callY, tm, rd, fz, V.nm, V.rdr, V.pop⟩
theorem fillNames {offs : Nat → Option (Nat × Nat)} : ∀ (ps : List (Nat × AV)) {cs cs' : List AV}, fillParts offs cs ps = some cs' → ∀ b ∈ namesL cs', b ∈ namesL cs ∨ ∃ p ∈ ps, b ∈ namesL (cellsOf p.2)
  | [], cs, cs', h, b, hb => by
    simp only [fillParts, Option.some.injEq] at h
    subst h
    exact .inl hb
  | p :: ps, cs, cs', h, b, hb => by
    simp only [fillParts] at h
    split at h
    case h_2 => cases h
    case h_1 pl hpl =>
      cases hc : (cellsOf p.2).all plain1 && Nat.beq (cellsOf p.2).length pl.2 && Nat.ble (pl.1 + pl.2) cs.length
      · rw [hc] at h; cases h
      · rw [hc] at h
        simp only [cond_true] at h
        simp only [Bool.and_eq_true, Nat.ble_eq] at hc
        rcases fillNames ps h b hb with hb | ⟨q, hq, hb⟩
        · rw [splice_eq _ _ _ (by omega)] at hb
          have key : ∀ l l' : List AV, b ∈ namesL (l ++ l') → b ∈ namesL l ∨ b ∈ namesL l' := by
            intro l l'
            induction l with
            | nil => exact fun h => .inr h
            | cons c l ih => simp only [List.cons_append, namesL, List.mem_append]; rintro (h | h); exact .inl (.inl h); exact (ih h).imp .inr id
          rcases key _ _ hb with hb | hb
          · rcases key _ _ hb with hb | hb
            · exact .inl (names_mem_take hb)
            · exact .inr ⟨p, by simp, hb⟩
          · exact .inl (names_mem_drop hb)
        · exact .inr ⟨q, by simp [hq], hb⟩
theorem cellsOf_names (v : AV) : ∀ b ∈ namesL (cellsOf v), b ∈ names2 v := by
  intro b hb
  cases v <;> first | exact hb | (simp only [cellsOf, namesL, List.append_nil] at hb; exact hb)
theorem partsOf_mem {tm : Tr} : ∀ {l : List (Nat × Operand)} {p : Nat × AV}, p ∈ partsOf tm l → p.2 ∈ opnds tm (l.map (·.2))
  | [], p, h => by simp [partsOf] at h
  | x :: r, p, h => by
    simp only [partsOf, List.mem_cons] at h
    simp only [List.map_cons, opnds, List.mem_cons]
    rcases h with rfl | h
    · exact .inl rfl
    · exact .inr (partsOf_mem h)
section
variable {P : Program} {V : Vw} {tm' : Tr} {rd' : Nat → Option Blk} {fz' : Nat → Bool} {e : Eff}
theorem fit_wi (t : Nat) (cs : List AV) (off : Nat) (K : AV → Option Eff) : fit (V.wi tm' rd' fz') t cs off K = fit V t cs off K := rfl
theorem mem_opnds {tm : Tr} {l : List Operand} {x : Operand} (h : x ∈ l) {b : Nat} (hb : b ∈ names2 (opnd tm x)) : b ∈ namesL2 (opnds tm l) := by
  refine mem_namesL2 (c := opnd tm x) ?_ hb
  induction l with
  | nil => simp at h
  | cons y r ih =>
    simp only [opnds, List.mem_cons]
    rcases List.mem_cons.1 h with rfl | h
    · exact .inl rfl
    · exact .inr (ih h)
theorem opK_congr (hF : V.F.Law) (hT : TabOk P V.T) {o : Op} (ho : ∀ x ∈ o.operands.toList, opnd V.tm x = opnd tm' x) (hr : ∀ b ∈ namesL2 (opnds V.tm o.operands.toList), V.rd b = rd' b) (he : opK V o some = some e) (hz : ∀ b ∈ e.wr.map (·.1), V.isFz b = fz' b) : opK (V.wi tm' rd' fz') o some = some e := by
  have hr1 : ∀ x ∈ o.operands.toList, ∀ b ∈ names2 (opnd V.tm x), V.rd b = rd' b := fun x hx b hb => hr b (mem_opnds hx hb)
  unfold opK at he ⊢
  cases o <;> simp only [Op.operands] at ho hr1 hr he ⊢ <;> (try (cases he; done))
  case move x =>
    have h1 := ho x (by simp)
    unfold oMove at he ⊢
    rw [show (V.wi tm' rd' fz').tm = tm' from rfl, ← h1]
    exact he
  case assign x =>
    have h1 := ho x (by simp)
    unfold oMove at he ⊢
    rw [show (V.wi tm' rd' fz').tm = tm' from rfl, ← h1]
    exact he
  case pick c x y =>
    have h1 := ho c (by simp)
    have h2 := ho x (by simp)
    have h3 := ho y (by simp)
    unfold oPick oMove at he ⊢
    rw [show (V.wi tm' rd' fz').tm = tm' from rfl, ← h1, ← h2, ← h3]
    exact he
  case alloc t => exact he
  case box t x =>
    have h1 := ho x (by simp)
    unfold oBox at he ⊢
    rw [show (V.wi tm' rd' fz').tm = tm' from rfl, ← h1]
    exact he
  case build t ps =>
    have h1 := partsOf_congr (tm := V.tm) (tm' := tm') (l := ps.toList) (fun x hx => ho x (by simpa using hx))
    unfold oBuild at he ⊢
    rw [show (V.wi tm' rd' fz').tm = tm' from rfl, ← h1]
    exact he
  case buildSlice t len ps =>
    have h1 := partsOf_congr (tm := V.tm) (tm' := tm') (l := ps.toList) (fun x hx => ho x (by simpa using hx))
    unfold oBuildSlice at he ⊢
    rw [show (V.wi tm' rd' fz').tm = tm' from rfl, ← h1]
    rw [show elemOf (V.wi tm' rd' fz') t = elemOf V t from rfl]
    split at he
    case h_2 => cases he
    case h_1 ee hel =>
      obtain ⟨el, hu, hee⟩ := elemOf_inv hT hel
      split at he
      case h_2 => cases he
      case h_1 r hrr =>
        split at he
        case h_2 => cases he
        case h_1 cs hcs =>
          have hsn : snapL V.rd cs = snapL rd' cs := snapL_congr fun b hb => by
            rcases fillNames _ hcs b hb with hb | ⟨p, hp, hb⟩
            · obtain ⟨i, z, _, _, _, _, _, _, g7⟩ := zero_rep (w := default) (g := g0 fun _ _ => False) hT hee
              rw [names_rep g7] at hb
              simp at hb
            · have hm := partsOf_mem hp
              exact hr b (mem_namesL2 (by simpa using hm) (cellsOf_names _ b hb))
          rw [forceCells_eq (V := V.wi tm' rd' fz') hF]
          rw [forceCells_eq hF] at he
          unfold oBuildSlice2 at he ⊢
          rw [show (V.wi tm' rd' fz').rd = rd' from rfl, ← hsn]
          exact he
  case load t x =>
    have h1 := ho x (by simp)
    have h2 := hr1 x (by simp)
    unfold oLoad at he ⊢
    rw [show (V.wi tm' rd' fz').tm = tm' from rfl, ← h1]
    split at he
    case h_1 b off hx =>
      rw [hx] at h2
      rw [show (V.wi tm' rd' fz').rd b = V.rd b from (h2 b (by simp [names2, names1, names0])).symm]
      exact he
    case h_2 => exact he
    case h_3 b sz i off hx =>
      rw [hx] at h2
      rw [show (V.wi tm' rd' fz').rd b = V.rd b from (h2 b (by simp [names2, names1, names0])).symm]
      exact he
    case h_4 => cases he
  case store t x y =>
    have h1 := ho x (by simp)
    have h2 := ho y (by simp)
    have h3 := hr1 x (by simp)
    have h4 := hr1 y (by simp)
    unfold oStore at he ⊢
    rw [show (V.wi tm' rd' fz').tm = tm' from rfl, ← h1, ← h2]
    rw [show (V.wi tm' rd' fz').T = V.T from rfl]
    split at he
    case h_2 => cases he
    case h_1 te hte =>
      obtain ⟨hc, he⟩ := chk_some he
      rw [hc]
      show storeTo (V.wi tm' rd' fz') te.size (opnd V.tm x) (cellsOf (opnd V.tm y)) some = some e
      unfold storeTo at he ⊢
      split at he
      case h_3 => cases he
      case h_1 b off hx =>
        rw [hx] at h3
        rw [show (V.wi tm' rd' fz').rd b = V.rd b from (h3 b (by simp [names2, names1, names0])).symm]
        exact he
      case h_2 b z i off hx =>
        rw [hx] at h3
        rw [show (V.wi tm' rd' fz').rd b = V.rd b from (h3 b (by simp [names2, names1, names0])).symm]
        obtain ⟨hf, he⟩ := chk_some he
        have hsn : snapL V.rd (cellsOf (opnd V.tm y)) = snapL rd' (cellsOf (opnd V.tm y)) := snapL_congr fun c hc => h4 c (cellsOf_names _ c hc)
        split at he
        case h_2 => cases he
        case h_1 r l hb =>
          have hst : storeRow (V.wi tm' rd' fz') b i off r l (cellsOf (opnd V.tm y)) some = storeRow V b i off r l (cellsOf (opnd V.tm y)) some := by
            unfold storeRow
            rw [show (V.wi tm' rd' fz').rd = rd' from rfl, ← hsn]
            rfl
          have hw : b ∈ e.wr.map (·.1) := by
            obtain ⟨_, he⟩ := chk_some he
            unfold storeRow at he
            obtain ⟨_, he⟩ := chk_some he
            split at he
            case h_2 => cases he
            case h_1 =>
              split at he
              case h_2 => cases he
              case h_1 =>
                rw [hF.l] at he
                have := Option.some.inj he
                subst this
                simp
          rw [hst, show (V.wi tm' rd' fz').isFz b = V.isFz b from (hz b hw).symm, hf]
          exact he
  case nilCheck x =>
    have h1 := ho x (by simp)
    unfold oNilCheck at he ⊢
    rw [show (V.wi tm' rd' fz').tm = tm' from rfl, ← h1]
    exact he
  case binOp op t x y t2 =>
    have h1 := ho x (by simp)
    have h2 := ho y (by simp)
    rw [show (V.wi tm' rd' fz').tm = tm' from rfl, ← h1, ← h2]
    exact he
  case unOp op t x =>
    have h1 := ho x (by simp)
    rw [show (V.wi tm' rd' fz').tm = tm' from rfl, ← h1]
    exact he
  case convert src d x =>
    have h1 := ho x (by simp)
    unfold oConvert at he ⊢
    rw [show (V.wi tm' rd' fz').tm = tm' from rfl, ← h1]
    exact he
  case extract x i =>
    have h1 := ho x (by simp)
    unfold oExtract at he ⊢
    rw [show (V.wi tm' rd' fz').tm = tm' from rfl, ← h1]
    exact he
  case fieldAddr t x f =>
    have h1 := ho x (by simp)
    unfold oFieldAddr at he ⊢
    rw [show (V.wi tm' rd' fz').tm = tm' from rfl, ← h1]
    exact he
  case field t x f =>
    have h1 := ho x (by simp)
    unfold oField at he ⊢
    rw [show (V.wi tm' rd' fz').tm = tm' from rfl, ← h1]
    exact he
  case indexAddr t x i =>
    have h1 := ho x (by simp)
    have h2 := ho i (by simp)
    have h3 := hr1 x (by simp)
    unfold oIndexAddr at he ⊢
    rw [show (V.wi tm' rd' fz').tm = tm' from rfl, ← h1, ← h2]
    have hs : ∀ ee n, idxSlice (V.wi tm' rd' fz') ee (opnd V.tm x) n some = idxSlice V ee (opnd V.tm x) n some := by
      intro ee n
      unfold idxSlice
      split
      · rfl
      · rename_i b hx
        rw [hx] at h3
        rw [show (V.wi tm' rd' fz').rd b = V.rd b from (h3 b (by simp [names2, names1, names0])).symm]
      · rfl
    simp only [hs]
    exact he
  case index t x i =>
    have h1 := ho x (by simp)
    have h2 := ho i (by simp)
    unfold oIndex at he ⊢
    rw [show (V.wi tm' rd' fz').tm = tm' from rfl, ← h1, ← h2]
    exact he
  case slice t x lo hi mx =>
    have h1 := ho x (by simp)
    have h2 := hr1 x (by simp)
    have hb : ∀ (y : Option Operand) (d : Int), (∀ z, y = some z → z ∈ (#[x] ++ lo.toArray ++ hi.toArray ++ mx.toArray).toList) → bnd (V.wi tm' rd' fz') y d = bnd V y d := by
      intro y d hy
      cases y with
      | none => rfl
      | some z =>
        have h3 := ho z (hy z rfl)
        simp only [bnd]
        rw [show (V.wi tm' rd' fz').tm = tm' from rfl, ← h3]
    have hlo := hb lo 0 (fun z hz => by subst hz; simp)
    have hhi := fun d => hb hi d (fun z hz => by subst hz; simp)
    have hs : snap1 V.rd (opnd V.tm x) = snap1 rd' (opnd V.tm x) := snap1_congr fun b hb => h2 b (by cases hx : opnd V.tm x <;> rw [hx] at hb <;> first | exact hb | simp [names0] at hb)
    have hcs : ∀ sz l0, cutSlice (V.wi tm' rd' fz') sz (opnd V.tm x) l0 hi some = cutSlice V sz (opnd V.tm x) l0 hi some := by
      intro sz l0
      unfold cutSlice
      simp only [hhi]
      rw [show (V.wi tm' rd' fz').rd = rd' from rfl, ← hs]
      rfl
    have hpp : ∀ sz, popS V sz (opnd V.tm x) hi some = some e → popS (V.wi tm' rd' fz') sz (opnd V.tm x) hi some = some e := by
      intro sz hp
      cases hb : opnd V.tm x <;> rw [hb] at hp <;> try (cases hp; done)
      rename_i b
      have hb2 : V.rd b = rd' b := h2 b (by rw [hb]; simp [names2, names1, names0])
      simp only [popS] at hp ⊢
      rw [show (V.wi tm' rd' fz').rd = rd' from rfl, ← hb2]
      split at hp
      case h_2 => cases hp
      case h_1 r l hl =>
        rw [hhi]
        split at hp
        case h_2 => cases hp
        case h_1 h0 hh0 =>
          have c1 := (chk_some hp).1
          replace hp := (chk_some hp).2
          have c2 := (chk_some hp).1
          replace hp := (chk_some hp).2
          have c3 := (chk_some hp).1
          replace hp := (chk_some hp).2
          have c4 := (chk_some hp).1
          replace hp := (chk_some hp).2
          rw [c1, c2, c3]
          rw [hF.l] at hp
          have := Option.some.inj hp
          subst this
          have hz2 : V.isFz b = fz' b := hz b (by simp)
          rw [show (V.wi tm' rd' fz').isFz b = fz' b from rfl, ← hz2, c4]
          show V.F.l (l.take h0.toNat) (fun l' => some (⟨.own V.nm, [(b, none), (V.nm, some (.row r l'))], []⟩ : Eff)) = _
          rw [hF.l]
    have hct : ∀ l0, cutStr (V.wi tm' rd' fz') (opnd V.tm x) l0 hi some = cutStr V (opnd V.tm x) l0 hi some := by
      intro l0
      unfold cutStr
      simp only [hhi]
    unfold oSlice at he ⊢
    rw [hlo, show (V.wi tm' rd' fz').tm = tm' from rfl, ← h1]
    simp only [hcs, hct]
    split at he
    case h_2 => cases he
    case h_1 te l0 hte hl0 =>
      rw [show (V.wi tm' rd' fz').T = V.T from rfl, hte, hl0]
      simp only
      split at he
      case h_3 => cases he
      case h_2 => exact he
      case h_1 el hdd =>
        split at he
        case h_2 => cases he
        case h_1 ee hee =>
          rw [show popT (V.wi tm' rd' fz') x lo = popT V x lo from rfl]
          cases hpt : popT V x lo
          · rw [hpt] at he
            exact he
          · rw [hpt] at he
            exact hpp _ he
  case makeFunc fn first caps =>
    have h1 := opnds_congr (tm := V.tm) (tm' := tm') (l := caps.toList) (fun x hx => ho x (by simp at hx ⊢; exact .inr hx))
    unfold oMakeFunc at he ⊢
    rw [show (V.wi tm' rd' fz').tm = tm' from rfl, ← h1]
    exact he
  case call c =>
    have h1 := opnds_congr (tm := V.tm) (tm' := tm') (l := c.args.toList) (fun x hx => ho x (by simp only [Call.operands, Array.toList_append, List.mem_append]; exact .inr hx))
    have hargs : ∀ b ∈ namesL2 (opnds V.tm c.args.toList), V.rd b = rd' b := fun b hb => hr b (by
      simp only [Call.operands, Array.toList_append]
      have key : ∀ l l' : List Operand, b ∈ namesL2 (opnds V.tm l') → b ∈ namesL2 (opnds V.tm (l ++ l')) := by
        intro l l' h
        induction l with
        | nil => exact h
        | cons x l ih => simp only [List.cons_append, opnds, namesL2, List.mem_append]; exact .inr ih
      exact key _ _ hb)
    unfold oCall at he ⊢
    cases hc : c.callee with
    | invoke r m => rw [hc] at he; cases he
    | value q =>
      rw [hc] at he
      have hq := ho q (by simp [Call.operands, hc])
      have hqn := hr1 q (by simp [Call.operands, hc])
      simp only at he ⊢
      rw [show (V.wi tm' rd' fz').tm = tm' from rfl, ← hq, ← h1]
      split at he
      case h_3 => cases he
      case h_2 y hyq =>
        show oYield (V.wi tm' rd' fz') y (opnds V.tm c.args.toList) some = some e
        unfold oYield at he ⊢
        rw [show (V.wi tm' rd' fz').rd = rd' from rfl, ← snaps_congr hargs]
        exact he
      case h_1 f caps hfn =>
        rw [hfn] at hqn
        obtain ⟨hcap, he⟩ := chk_some he
        rw [hcap]
        show (match V.rdr f with | some r => oRead (V.wi tm' rd' fz') r f (opnds V.tm c.args.toList ++ caps) some | none => oCallVal (V.wi tm' rd' fz') f (opnds V.tm c.args.toList ++ caps) some) = some e
        have hall : ∀ b ∈ namesL2 (opnds V.tm c.args.toList ++ caps), V.rd b = rd' b := fun b hb => by
          have key : ∀ l l' : List AV, b ∈ namesL2 (l ++ l') → b ∈ namesL2 l ∨ b ∈ namesL2 l' := by
            intro l l'
            induction l with
            | nil => exact fun h => .inr h
            | cons c l ih => simp only [List.cons_append, namesL2, List.mem_append]; rintro (h | h); exact .inl (.inl h); exact (ih h).imp .inr id
          rcases key _ _ hb with hb | hb
          · exact hargs b hb
          · refine hqn b ?_
            exact caps_names hcap hb
        split at he
        case h_1 r hrd =>
          rw [hrd]
          simp only
          generalize opnds V.tm c.args.toList ++ caps = L at he hall ⊢
          unfold oRead at he ⊢
          split at he
          case h_2 => cases he
          case h_1 b off rest =>
            have hb : V.rd b = rd' b := hall b (by simp [namesL2, names2, names1, names0])
            have hsn : snaps V.rd rest = snaps rd' rest := snaps_congr fun c hc => hall c (by simp only [namesL2, List.mem_append]; exact .inr hc)
            rw [show (V.wi tm' rd' fz').rd = rd' from rfl, ← hb, ← hsn]
            exact he
        case h_2 hrd =>
        rw [hrd]
        simp only
        unfold oCallVal at he ⊢
        have hsn : snaps V.rd (opnds V.tm c.args.toList ++ caps) = snaps rd' (opnds V.tm c.args.toList ++ caps) := snaps_congr fun b hb => by
          have key : ∀ l l' : List AV, b ∈ namesL2 (l ++ l') → b ∈ namesL2 l ∨ b ∈ namesL2 l' := by
            intro l l'
            induction l with
            | nil => exact fun h => .inr h
            | cons c l ih => simp only [List.cons_append, namesL2, List.mem_append]; rintro (h | h); exact .inl (.inl h); exact (ih h).imp .inr id
          rcases key _ _ hb with hb | hb
          · exact hargs b hb
          · refine hqn b ?_
            exact caps_names hcap hb
        rw [show (V.wi tm' rd' fz').rd = rd' from rfl, ← hsn]
        exact he
    | builtin bi =>
      rw [hc] at he
      cases bi <;> simp only at he ⊢ <;> (try (cases he; done))
      case append =>
        rw [show (V.wi tm' rd' fz').tm = tm' from rfl, ← h1]
        split at he
        case h_2 => cases he
        case h_1 sT xT sv xv ha1 ha2 =>
          obtain ⟨ht, he⟩ := chk_some he
          rw [ht]
          show (match elemOf V sT with | some ee => (match ee.row with | some r => chk (Nat.ble ee.bytes 1024) (oAppend (V.wi tm' rd' fz') r sv xv some) | none => none) | none => none) = some e
          split at he
          case h_2 => cases he
          case h_1 ee hel =>
            split at he
            case h_2 => cases he
            case h_1 r hrr =>
              obtain ⟨hb, he⟩ := chk_some he
              rw [hel]
              simp only
              rw [hrr]
              simp only
              rw [hb]
              show oAppend (V.wi tm' rd' fz') r sv xv some = some e
              rw [ha2] at hargs
              have hs : ∀ b ∈ names2 sv, V.rd b = rd' b := fun b hb => hargs b (by simp [namesL2, hb])
              have hx : ∀ b ∈ names2 xv, V.rd b = rd' b := fun b hb => hargs b (by simp [namesL2, hb])
              have hlx : listOf V.rd r xv = listOf rd' r xv := listOf_congr fun b hb => hx b (by cases xv <;> first | exact hb | simp [names0] at hb)
              unfold oAppend at he ⊢
              rw [show (V.wi tm' rd' fz').rd = rd' from rfl, ← hlx]
              split at he
              case h_3 => cases he
              case h_1 l hl => exact he
              case h_2 =>
                rename_i b l hl q1 q2
                have hls : listOf V.rd r (.own b) = listOf rd' r (.own b) := listOf_congr fun c hc => hs c hc
                rw [← hls]
                split at he
                case h_2 => cases he
                case h_1 l0 hl0 =>
                  obtain ⟨m1, he⟩ := chk_some he
                  obtain ⟨m2, he⟩ := chk_some he
                  rw [hF.l] at he
                  rw [m1, m2]
                  show V.F.l (l0 ++ l) (fun l' => some (⟨.own V.nm, [(b, none), (V.nm, some (.row r l'))], bif fz' b then [V.nm] else []⟩ : Eff)) = some e
                  rw [hF.l]
                  have := Option.some.inj he
                  subst this
                  rw [hz b (by simp)]
      case len =>
        rw [show (V.wi tm' rd' fz').tm = tm' from rfl, ← h1]
        split at he
        case h_2 => cases he
        case h_1 x t ha1 ha2 =>
          rw [ha1] at hargs
          have hl : ∀ d, oLen (V.wi tm' rd' fz') d x some = oLen V d x some := by
            intro d
            cases x <;> first | rfl | (rename_i b; simp only [oLen]; rw [show (V.wi tm' rd' fz').rd b = V.rd b from (hargs b (by simp [namesL2, names2, names1, names0])).symm]; rfl)
          simp only [hl]
          exact he
      case max =>
        have hm : ∀ (l : List AV) (k : IntKind) (n : Int), oMax (V.wi tm' rd' fz') k n l some = oMax V k n l some := by
          intro l
          induction l with
          | nil => intro k n; rfl
          | cons c l ih => intro k n; cases c <;> first | rfl | (simp only [oMax, ih]; rfl)
        rw [show (V.wi tm' rd' fz').tm = tm' from rfl, ← h1]
        simp only [hm]
        exact he
      case min =>
        have hm : ∀ (l : List AV) (k : IntKind) (n : Int), oMin (V.wi tm' rd' fz') k n l some = oMin V k n l some := by
          intro l
          induction l with
          | nil => intro k n; rfl
          | cons c l ih => intro k n; cases c <;> first | rfl | (simp only [oMin, ih]; rfl)
        rw [show (V.wi tm' rd' fz').tm = tm' from rfl, ← h1]
        simp only [hm]
        exact he
end
end Go.Proofs.Ytcjhegiidnjepaa.Ev
