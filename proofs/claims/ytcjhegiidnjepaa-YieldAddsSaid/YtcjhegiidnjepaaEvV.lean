/- Regions that draw their order: all orders end alike. -/
import Derived.Test.YtcjhegiidnjepaaEvU
namespace Go.Proofs.Ytcjhegiidnjepaa.Ev
open Go.RowKit
set_option linter.unusedVariables false
set_option linter.unusedSimpArgs false

theorem Sim.drew {X : Fix} {U : Nat → Prop} {s : Sx} {a : Act} {w : World} {g : Gh} (h : Sim X U s a w g) : Sim X U s a { w with drawn := w.drawn + 1 } g := by
  have hext : GExt w { w with drawn := w.drawn + 1 } g g (fun _ => True) := ⟨fun _ _ hp => ⟨rfl, hp⟩, fun _ _ => rfl, fun _ _ => rfl, fun _ _ => rfl⟩
  exact ⟨fun t => (h.tmps t).ext hext (fun _ _ => trivial), h.size, h.dfr, fun b x hb => BlkRep.ext hext trivial (fun _ _ _ _ => trivial) (fun B hB => ⟨rfl, fun o ho => ho⟩) (h.blk b x hb), h.unp, h.unf, h.inj, h.new, h.prot0, h.plt, h.blt, h.below.drew, h.nmT, h.nmB, h.nmK, h.u0, h.ext.trans hext (fun _ _ => trivial), h.held, h.mkh, h.mkn, h.hok⟩
/-- The names that are in use. -/
def UL (nm : Nat) (L : Nat → Bool) : Nat → Prop := fun b => b < nm ∨ ∃ j, L j = true ∧ nm + 8 * j ≤ b ∧ b ≤ nm + 8 * j + 7
theorem filter_less {p p' : Nat → Bool} {i : Nat} (hp : ∀ j, p' j = true → p j = true) (hi : p i = true) (hi' : p' i = false) : ∀ {l : List Nat}, i ∈ l → (l.filter p').length < (l.filter p).length
  | [], h => by simp at h
  | j :: r, h => by
    have mono : ∀ l : List Nat, (l.filter p').length ≤ (l.filter p).length := by
      intro l
      induction l with
      | nil => exact Nat.le_refl _
      | cons k l ih =>
        simp only [List.filter_cons]
        cases hk : p' k
        · cases p k <;> simp <;> omega
        · rw [hp k hk]; simpa using ih
    simp only [List.filter_cons]
    rcases List.mem_cons.1 h with rfl | h
    · rw [hi, hi']
      simp only [if_true, Bool.false_eq_true, if_false, List.length_cons]
      have := mono r
      omega
    · have ih := filter_less hp hi hi' h
      cases hk : p' j
      · cases p j <;> simp <;> omega
      · rw [hp j hk]; simpa using ih
theorem tmps_looks {ops : List Oper} {o : Oper} {t : Nat} (h : Operand.tmp t ∈ o.op.operands.toList) : t ∈ looksL ops o := by
  refine List.mem_append.2 (.inl (List.mem_filterMap.2 ⟨.tmp t, h, rfl⟩))
theorem opnd_same {tm tm' : Tr} {x : Operand} (h : ∀ t, x = .tmp t → look tm t = look tm' t) : opnd tm x = opnd tm' x := by
  cases x <;> first | rfl | exact h _ rfl
theorem region_draw_ok {P : Program} {X : Fix} {C : Cx} {ro : Option Nat} (hC : CxOk P C) (hY : YOk P X C.callY) (hm : P.follows .mixedOrders = true) {ops : Array Oper} (hdst : ∀ o ∈ ops.toList, ∀ t, o.dst = some t → t < X.nt) (D : DrawOk ops.toList) {β : Type} {k : Sx → Option β} {r : β} {Q : Exit → Act → World → Prop} {s : Sx} {a : Act} {w : World} {g : Gh}
    (h : Sim X (Lt s.nx) s a w g) (he : (regK C ops.toList true s.nx ops.toList 0 s [] fun s' lg => endReg true ops.toList s' lg k) = some r) (hk : ∀ s' a' w' g', Sim X (Lt s'.nx) s' a' w' g' → k s' = some r → Q .normal a' w') (id : Nat) : (Code.region id ops true).wpIn (fw ro) 0 P Q a w := by
  refine wpIn_region_any hm ?_
  obtain ⟨ex, s', lg', he', hnx, _, hsame, facts⟩ := reg_path hC.hF D.lt ops.toList 0 s [] rfl he
  unfold endReg at he'
  rw [frcN_eq] at he'
  simp only [cond_true] at he'
  obtain ⟨hlog, hkr⟩ := chk_some he'
  have hord : ∀ {i j : Nat}, ordered ops.toList i j = true → ordered ops.toList j i = true := by
    intro i j h
    simpa [ordered, Bool.or_comm] using h
  have main : ∀ (fuel : Nat) (listed : Array Bool) (L : Nat → Bool) (a : Act) (w : World) (g : Gh), listed.size = ops.size → (∀ j, L j = listed.getD j false) → ((List.range ops.size).filter fun j => !L j).length ≤ fuel → Closed ops.toList L → Sim X (UL s.nx L) (stOf L ex ops.toList 0 s) a w g → wpAnyIn (fw ro) 0 P .any ops Q fuel listed a w := by
    intro fuel
    -- all are listed: the end
    have done : ∀ (listed : Array Bool) (L : Nat → Bool) (a : Act) (w : World) (g : Gh), listed.size = ops.size → (∀ j, L j = listed.getD j false) → (∀ j, j < ops.size → L j = true) → Sim X (UL s.nx L) (stOf L ex ops.toList 0 s) a w g → Q .normal a w := by
      intro listed L a w g hsz hL hall hsim
      have e1 : Same (stOf L ex ops.toList 0 s) (stOf (fun _ => true) ex ops.toList 0 s) := by
        have hlt : ∀ j, j < ops.toList.length → L (0 + j) = true := fun j hj => by rw [Nat.zero_add]; exact hall j (by simpa using hj)
        exact ⟨fun m => agreeT D.lt (fun j o hj _ => hlt j (List.getElem?_eq_some_iff.1 hj).1) rfl, fun b => agreeB (fun j hj _ => hlt j hj) rfl, fun b => agreeZ (fun j hj _ => hlt j hj) rfl⟩
      have h2 := hsim.same (e1.trans hsame.symm)
      refine hk _ a w g (Sim.at_nx (h2.more fun b hb => ?_) _) hkr
      show b < s'.nx + 8 * ops.toList.length
      rw [hnx]
      rcases hb with hb | ⟨j, hj, h1, h3⟩
      · omega
      · have hjl : j < ops.size := by
          rw [hL j] at hj
          by_cases hjs : j < listed.size
          · omega
          · simp [Array.getD, hjs] at hj
        simp
        omega
    -- what is not listed and has the least place is ready
    have least : ∀ (listed : Array Bool) (L : Nat → Bool), listed.size = ops.size → (∀ j, L j = listed.getD j false) → Region.ready .any ops listed = [] → ∀ j, j < ops.size → L j = true := by
      intro listed L hsz hL hr j
      induction j using Nat.strongRecOn with
      | _ j ih =>
        intro hj
        cases hLj : L j
        · exfalso
          have hmem : j ∈ Region.ready .any ops listed := by
            refine List.mem_filter.2 ⟨List.mem_range.2 hj, ?_⟩
            have hl : listed.getD j true = false := by
              rw [hL j] at hLj
              simp only [Array.getD, show j < listed.size by omega, dif_pos] at hLj ⊢
              exact hLj
            rw [hl, Array.getElem?_eq_getElem hj]
            simp only [Bool.not_false, Bool.true_and, Option.map_some, Option.getD_some]
            rw [Array.all_eq_true_iff_forall_mem]
            intro e hem
            cases hb : Region.binds .any e
            · rfl
            · have hlt := D.back j ops[j] (by simp [hj]) e (Array.mem_toList_iff.2 hem) hb
              have := ih e.on hlt (by omega)
              rw [hL] at this
              simp [this]
          rw [hr] at hmem
          simp at hmem
        · rfl
    induction fuel with
    | zero =>
      intro listed L a w g hsz hL hfuel hcl hsim
      have hall : ∀ j, j < ops.size → L j = true := by
        intro j hj
        cases hLj : L j
        · exfalso
          have : j ∈ (List.range ops.size).filter fun j => !L j := List.mem_filter.2 ⟨List.mem_range.2 hj, by rw [hLj]; rfl⟩
          have hnil : (List.range ops.size).filter (fun j => !L j) = [] := List.eq_nil_of_length_eq_zero (by omega)
          rw [hnil] at this
          simp at this
        · rfl
      refine ⟨?_, done listed L a w g hsz hL hall hsim⟩
      refine List.filter_eq_nil_iff.2 fun j hj => ?_
      have hjs := List.mem_range.1 hj
      have hjl : j < listed.size := by omega
      have h1 := hall j hjs
      rw [hL j] at h1
      have h2 : listed[j] = true := by simpa [Array.getD, hjl] using h1
      have hl : listed.getD j true = true := by simp [Array.getD, hjl, h2]
      rw [hl]
      simp
    | succ fuel ih =>
      intro listed L a w g hsz hL hfuel hcl hsim
      refine ⟨fun hr => done listed L a w g hsz hL (least listed L hsz hL hr) hsim, fun i hi => ?_⟩
      obtain ⟨hir, hic⟩ := List.mem_filter.1 hi
      have hilt := List.mem_range.1 hir
      simp only [Bool.and_eq_true, Bool.not_eq_true', Array.getElem?_eq_getElem hilt, Option.map_some, Option.getD_some] at hic
      obtain ⟨hnl, hedges⟩ := hic
      have hoi : ops.toList[i]? = some ops[i] := by simp [hilt]
      generalize ho : ops[i] = o at hoi hedges
      have hio : ops[i]? = some o := by rw [Array.getElem?_eq_getElem hilt, ho]
      have hLi : L i = false := by
        rw [hL i]
        simp only [Array.getD, show i < listed.size by omega, dif_pos] at hnl ⊢
        exact hnl
      have hpre : ∀ j ∈ bfAt ops.toList i, L j = true := by
        intro j hj
        obtain ⟨e, hem, hb, hje⟩ := (bf_iff D hoi j).1 hj
        have := (Array.all_eq_true_iff_forall_mem.1 hedges) e (Array.mem_toList_iff.1 hem)
        have hb' : Region.binds .any e = true := hb
        rw [hb'] at this
        have hLe : L e.on = true := by rw [hL]; simpa using this
        rcases hje with rfl | hje
        · exact hLe
        · exact hcl _ hLe j hje
      have side : ∀ {j : Nat}, (j = i ∨ ordered ops.toList i j = true) → decide (j < i) = L j := fun hj => ready_side D hcl hLi hpre hj
      have hod : ∀ t, o.dst = some t → t < X.nt := hdst o (List.mem_of_getElem? hoi)
      have hod4 : ∀ t, o.dst = some t → t < 4095 := D.lt o (List.mem_of_getElem? hoi)
      obtain ⟨s1, b, s2, hS, hg, h12, hcase⟩ := facts i o hoi
      rw [Nat.zero_add] at hS hcase
      have hT : ∀ t ∈ looksL ops.toList o, look s1.tm t = look (stOf L ex ops.toList 0 s).tm t := by
        intro t ht
        rw [hS.T t]
        refine agreeT D.lt (fun j o' hj hdj => ?_) rfl
        rw [Nat.zero_add]
        refine side ?_
        by_cases hji : j = i
        · exact .inl hji
        · exact .inr (hord (D.look j o' i o hj hoi hji t hdj ht))
      have hg3 : ∃ s3, guardIs ops.toList o (stOf L ex ops.toList 0 s) b s3 := by
        rcases hg with ⟨h1, h2, h3⟩ | ⟨q, t, h1, h2, h3⟩
        · exact ⟨_, .inl ⟨h1, h2, rfl⟩⟩
        · have htl : t ∈ looksL ops.toList o := List.mem_append.2 (.inr (by rw [h1]; simp [h2]))
          rcases h3 with ⟨h4, h5, _⟩ | ⟨c, h4, h5, _⟩
          · exact ⟨_, .inr ⟨q, t, h1, h2, .inl ⟨(hT t htl).symm.trans h4, h5, rfl⟩⟩⟩
          · exact ⟨_, .inr ⟨q, t, h1, h2, .inr ⟨c, (hT t htl).symm.trans h4, h5, rfl⟩⟩⟩
      obtain ⟨s3, hg3⟩ := hg3
      obtain ⟨hw, _⟩ := guard_wanted hsim hdst hg3
      have hL' : ∀ j, addL L i j = (listed.setIfInBounds i true).getD j false := by
        intro j
        by_cases hji : j = i
        · subst hji
          rw [addL_self]
          simp [Array.getD, show j < listed.size by omega]
        · rw [addL_ne hji, hL j, Array.getD_eq_getD_getElem?, Array.getD_eq_getD_getElem?, Array.getElem?_setIfInBounds_ne (fun e => hji e.symm)]
      have hfuel' : ((List.range ops.size).filter fun j => !addL L i j).length ≤ fuel := by
        have := filter_less (p := fun j => !L j) (p' := fun j => !addL L i j) (i := i) (fun j hj => by
          cases hLj : L j
          · rfl
          · simp [addL, hLj] at hj) (by rw [hLi]; rfl) (by rw [addL_self]; rfl) hir
        omega
      have hcl' : Closed ops.toList (addL L i) := by
        intro j hj m hmj
        have key : L m = true := by
          by_cases hji : j = i
          · subst hji; exact hpre m hmj
          · rw [addL_ne hji] at hj
            exact hcl j hj m hmj
        simp [addL, key]
      have pair : ∀ {j : Nat} {ej : Eff}, ex j = some ej → j < ops.size → ∀ {e : Eff}, ex i = some e → j ≠ i → ordered ops.toList i j = true ∨ ((∀ b ∈ e.wr.map (·.1), b ∉ ej.fz ∧ b ∉ ej.wr.map (·.1)) ∧ (∀ b ∈ ej.wr.map (·.1), b ∉ opNames s2.tm o.op ∧ b ∉ e.wr.map (·.1))) := by
        intro j ej hej hjl e hei hji
        obtain ⟨oj, hoj⟩ : ∃ oj, ops.toList[j]? = some oj := ⟨ops[j], by simp [hjl]⟩
        obtain ⟨sj, bj, sj2, _, _, _, hcj⟩ := facts j oj hoj
        rw [Nat.zero_add] at hcj
        rcases hcj with ⟨_, hn⟩ | ⟨_, e2, he2, _, hmj⟩
        · rw [hej] at hn; cases hn
        · rw [hej] at he2
          cases he2
          rcases hcase with ⟨_, hn⟩ | ⟨_, e3, he3, _, hmi⟩
          · rw [hei] at hn; cases hn
          · rw [hei] at he3
            cases he3
            rcases log_pair hlog hmi hmj (fun e => hji e.symm) with h1 | ⟨h1, h2⟩
            · exact .inl h1
            · refine .inr ⟨fun b hb => ⟨fun hf => (h1 b hb).1 (List.mem_append.2 (.inl hf)), (h1 b hb).2⟩, fun b hb => ⟨fun hf => (h2 b hb).1 (List.mem_append.2 (.inr hf)), (h2 b hb).2⟩⟩
      have hLlt : ∀ j, L j = true → j < ops.size := by
        intro j hj
        rw [hL j] at hj
        by_cases hjs : j < listed.size
        · omega
        · simp [Array.getD, hjs] at hj
      have hstep : Same (app (ex i) o.dst (stOf L ex ops.toList 0 s)) (stOf (addL L i) ex ops.toList 0 s) := by
        refine ⟨fun m => (stepT hoi D.lt (fun j o' hj hji n hn => D.ne i o j o' hoi hj (fun e => hji e.symm) n hn)).symm, fun c => (stepB hoi fun hc j hij hjl hLj hcj => ?_).symm, fun c => (stepZ hoi).symm⟩
        have hji : j ≠ i := by omega
        have hside : ordered ops.toList i j ≠ true := by
          intro hc2
          have := side (.inr hc2)
          rw [hLj] at this
          simp at this
          omega
        cases hei : ex i with
        | none => rw [hei] at hc; simp [wrOf] at hc
        | some e =>
          cases hej : ex j with
          | none => rw [hej] at hcj; simp [wrOf] at hcj
          | some ej =>
            rw [hei] at hc
            rw [hej] at hcj
            rcases pair hej (hLlt j hLj) hei hji with h1 | ⟨h1, _⟩
            · exact hside h1
            · exact (h1 c hc).2 hcj
      have hU : ∀ b, upto (s.nx + 8 * i) (UL s.nx L) b → UL s.nx (addL L i) b := by
        rintro b ((hb | ⟨j, hj, h1, h2⟩) | ⟨h1, h2⟩)
        · exact .inl hb
        · exact .inr ⟨j, by simp [addL, hj], h1, h2⟩
        · exact .inr ⟨i, addL_self L i, h1, h2⟩
      unfold wpOpIn
      simp only [hio, hw]
      rcases hcase with ⟨rfl, hx⟩ | ⟨rfl, e, hx, hop, hmi⟩
      · simp only [Bool.false_eq_true, if_false]
        have h3 := skip_sim hsim hod
        have h4 : Sim X (UL s.nx L) (app (ex i) o.dst (stOf L ex ops.toList 0 s)) (a.put o.dst undef) w g := by rw [hx]; exact h3
        exact ⟨fun _ _ => trivial, ih _ (addL L i) _ w g (by simpa using hsz) hL' hfuel' hcl' ((h4.same hstep).more fun b hb => hU b (.inl hb))⟩
      · simp only [if_true]
        cases hp : pivot ops.toList i with
        | true =>
          have hpo : ∀ j, j < ops.size → j ≠ i → ordered ops.toList i j = true := by
            intro j hj hji
            have h1 := List.all_eq_true.1 hp j (List.mem_range.2 (by simpa using hj))
            simp only [bf_head, Bool.or_eq_true] at h1
            rcases h1 with (h1 | h1) | h1
            · exact absurd (Nat.eq_of_beq_eq_true h1) hji
            · simp [ordered, h1]
            · simp [ordered, h1]
          have hLe : ∀ j, j < ops.size → decide (j < i) = L j := by
            intro j hj
            by_cases hji : j = i
            · exact side (.inl hji)
            · exact side (.inr (hpo j hj hji))
          have hsame2 : Same (stOf L ex ops.toList 0 s) s2 := by
            have e1 : Same (stOf (fun m => decide (m < i)) ex ops.toList 0 s) (stOf L ex ops.toList 0 s) :=
              ⟨fun m => agreeT D.lt (fun j o hj _ => by rw [Nat.zero_add]; exact hLe j (by simpa using (List.getElem?_eq_some_iff.1 hj).1)) rfl, fun b => agreeB (fun j hj _ => by rw [Nat.zero_add]; exact hLe j (by simpa using hj)) rfl, fun b => agreeZ (fun j hj _ => by rw [Nat.zero_add]; exact hLe j (by simpa using hj)) rfl⟩
            exact (e1.symm.trans hS.symm).trans h12
          have hsim2 : Sim X (Lt (s.nx + 8 * i)) s2 a w g := by
            refine (hsim.same hsame2).more fun b hb => ?_
            rcases hb with hb | ⟨j, hj, h1, h2⟩
            · show b < s.nx + 8 * i
              omega
            · have h3 := hLe j (hLlt j hj)
              rw [hj] at h3
              have h4 : j < i := by simpa using h3
              show b < s.nx + 8 * i
              omega
          have hCi := hC.at_ true ops.toList i
          refine op_ok (hyp_of hCi hsim2) hCi.call (cs_of hCi) (ys_of (yok_at hY true ops.toList i)) hod hop ro _ _ (opK_defer hop) fun a' w' g' h2 => ?_
          have h4 : Sim X (UL s.nx (addL L i)) (app (ex i) o.dst (stOf L ex ops.toList 0 s)) a' w' g' := by
            rw [hx]
            refine (Sim.same (app_same (x := some e) hod4 hsame2.symm) h2).more fun b hb => ?_
            have hb' : b < s.nx + 8 * i + 8 := by
              rcases hb with hb | hb
              · have hb' : b < s.nx + 8 * i := hb
                omega
              · have hb' : b ≤ s.nx + 8 * i + 7 := hb.2
                omega
            by_cases hlo : b < s.nx
            · exact .inl hlo
            · right
              refine ⟨(b - s.nx) / 8, ?_, by omega, by omega⟩
              by_cases hji : (b - s.nx) / 8 = i
              · rw [hji]; exact addL_self L i
              · rw [addL_ne hji, ← hLe _ (by omega)]
                simp
                omega
          exact ih _ (addL L i) a' w' g' (by simpa using hsz) hL' hfuel' hcl' (h4.same hstep)
        | false =>
          have hat : C.at_ true ops.toList i = ⟨C.T, C.F, C.call, noS, noY, C.hasY, C.rdr, C.pop⟩ := by
            unfold Cx.at_
            simp only [cond_true, hp]
            rfl
          have hC2 := hC.at_ true ops.toList i
          rw [hat] at hop hC2
          generalize hC2e : (⟨C.T, C.F, C.call, noS, noY, C.hasY, C.rdr, C.pop⟩ : Cx) = C2 at hop hC2
          have hNS : C2.callS = noS := by rw [← hC2e]
          have hNY : C2.callY = noY := by rw [← hC2e]
          have hyp : Hyp P X (UL s.nx L) (C2.vw (stOf L ex ops.toList 0 s) (s.nx + 8 * i)) (stOf L ex ops.toList 0 s) a w g := by
            refine ⟨hsim, hC2.hF, hC2.hT, rfl, rfl, rfl, ?_⟩
            rintro b h1 h2 (hb | ⟨j, hj, h3, h4⟩)
            · have h1' : s.nx + 8 * i ≤ b := h1
              omega
            · have h1' : s.nx + 8 * i ≤ b := h1
              have h2' : b ≤ s.nx + 8 * i + 7 := h2
              have : j = i := by omega
              subst this
              rw [hLi] at hj
              cases hj
          have hop2 : opK (C2.vw (stOf L ex ops.toList 0 s) (s.nx + 8 * i)) o.op some = some e := by
            have hvw : C2.vw (stOf L ex ops.toList 0 s) (s.nx + 8 * i) = (C2.vw s2 (s.nx + 8 * i)).wi (stOf L ex ops.toList 0 s).tm (get (stOf L ex ops.toList 0 s).bl) (memN (stOf L ex ops.toList 0 s).fz) := by
              simp only [Cx.vw, Vw.wi, hNS, noS, hNY, noY]
            rw [hvw]
            refine opK_congr (P := P) (V := C2.vw s2 (s.nx + 8 * i)) (tm' := (stOf L ex ops.toList 0 s).tm) (rd' := get (stOf L ex ops.toList 0 s).bl) (fz' := memN (stOf L ex ops.toList 0 s).fz) hC2.hF hC2.hT ?_ ?_ hop ?_
            · intro x hx
              refine opnd_same fun t ht => ?_
              subst ht
              exact (h12.T t).symm.trans (hT t (tmps_looks hx))
            · intro b hb
              show get s2.bl b = get (stOf L ex ops.toList 0 s).bl b
              rw [← h12.B b, hS.B b]
              refine agreeB (fun j hj hwj => ?_) rfl
              rw [Nat.zero_add] at hwj ⊢
              refine side ?_
              by_cases hji : j = i
              · exact .inl hji
              · right
                cases hej : ex j with
                | none => rw [hej] at hwj; simp [wrOf] at hwj
                | some ej =>
                  rw [hej] at hwj
                  rcases pair hej (by simpa using hj) hx hji with h1 | ⟨_, h1⟩
                  · exact h1
                  · exact absurd hb (h1 b hwj).1
            · intro b hb
              show memN s2.fz b = memN (stOf L ex ops.toList 0 s).fz b
              rw [← h12.Z b, hS.Z b]
              refine agreeZ (fun j hj hfj => ?_) rfl
              rw [Nat.zero_add] at hfj ⊢
              refine side ?_
              by_cases hji : j = i
              · exact .inl hji
              · right
                cases hej : ex j with
                | none => rw [hej] at hfj; simp [fzOf] at hfj
                | some ej =>
                  rw [hej] at hfj
                  rcases pair hej (by simpa using hj) hx hji with h1 | ⟨h1, _⟩
                  · exact h1
                  · exact absurd hfj (h1 b hb).1
          refine op_ok hyp hC2.call (fun f args zs e he => by have he : C2.callS f args _ _ _ = some e := he; rw [hNS] at he; cases he) (fun y args zs e he => by have he : C2.callY y args _ _ = some e := he; rw [hNY] at he; cases he) hod hop2 ro _ _ (opK_defer hop2) fun a' w' g' h2 => ?_
          have h4 : Sim X (upto (s.nx + 8 * i) (UL s.nx L)) (app (ex i) o.dst (stOf L ex ops.toList 0 s)) a' w' g' := by rw [hx]; exact h2
          exact ih _ (addL L i) a' w' g' (by simpa using hsz) hL' hfuel' hcl' ((h4.same hstep).more hU)
  have hL0 : ∀ j, (fun _ : Nat => false) j = (Array.replicate ops.size false).getD j false := by
    intro j
    by_cases hj : j < ops.size <;> simp [Array.getD, hj]
  refine main ops.size _ (fun _ => false) a _ g (by simp) hL0 ?_ (fun i hi => by cases hi) ?_
  · refine Nat.le_trans (List.length_filter_le _ _) ?_
    simp
  · rw [stOf_none fun _ _ => rfl]
    exact h.drew.more fun b hb => .inl hb
end Go.Proofs.Ytcjhegiidnjepaa.Ev
