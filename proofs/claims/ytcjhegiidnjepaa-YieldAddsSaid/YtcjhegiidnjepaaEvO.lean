/- Functions: what they hand back. -/
import Derived.Test.YtcjhegiidnjepaaEvN
namespace Go.Proofs.Ytcjhegiidnjepaa.Ev
open Go.RowKit
set_option linter.unusedVariables false
set_option linter.unusedSimpArgs false

theorem idx_get : ∀ {l : List Nat} {n : Nat}, n ∈ l → l[idx l n]? = some n ∧ idx l n < l.length
  | [], n, h => by simp at h
  | a :: r, n, h => by
    simp only [idx]
    by_cases ha : a = n
    · subst ha
      simp
    · rw [(beq_ne ha : Nat.beq a n = false)]
      simp only [cond_false, List.getElem?_cons_succ, List.length_cons]
      have := idx_get (l := r) ((List.mem_cons.1 h).resolve_left (fun e => ha e.symm))
      exact ⟨this.1, by omega⟩
theorem distinct_inj : ∀ {l : List Nat}, distinct l = true → ∀ {i j n : Nat}, l[i]? = some n → l[j]? = some n → i = j
  | [], _, i, j, n, hi, _ => by simp at hi
  | a :: r, h, i, j, n, hi, hj => by
    simp only [distinct, Bool.and_eq_true, Bool.not_eq_true'] at h
    have hm : n ∈ r → n ≠ a := by
      rintro hr rfl
      rw [(memN_iff _ _).2 hr] at h
      exact absurd h.1 (by simp)
    cases i with
    | zero =>
      cases j with
      | zero => rfl
      | succ j =>
        simp only [List.getElem?_cons_zero, Option.some.injEq] at hi
        simp only [List.getElem?_cons_succ] at hj
        exact absurd hi.symm (hm (List.mem_of_getElem? hj))
    | succ i =>
      simp only [List.getElem?_cons_succ] at hi
      cases j with
      | zero =>
        simp only [List.getElem?_cons_zero, Option.some.injEq] at hj
        exact absurd hj.symm (hm (List.mem_of_getElem? hi))
      | succ j =>
        simp only [List.getElem?_cons_succ] at hj
        rw [distinct_inj h.2 hi hj]
theorem closed_inv {bl : Bls} {ns : List Nat} : ∀ {l : List Nat}, closed1 bl ns l = true → ∀ b ∈ l, ∃ x, get bl b = some x ∧ ∀ c ∈ blkNames x, c ∈ ns
  | [], _, b, hb => by simp at hb
  | a :: r, h, b, hb => by
    simp only [closed1] at h
    split at h
    case h_2 => cases h
    case h_1 x hx =>
      simp only [Bool.and_eq_true] at h
      rcases List.mem_cons.1 hb with rfl | hb
      · exact ⟨x, hx, fun c hc => (memN_iff _ _).1 (List.all_eq_true.1 h.1 c hc)⟩
      · exact closed_inv h.2 b hb
theorem pick_get {bl : Bls} {f : Nat → Nat} : ∀ {l : List Nat}, (∀ b ∈ l, ∃ x, get bl b = some x) → ∀ i : Nat, (pick1 bl f l)[i]? = (l[i]?).bind fun b => (get bl b).map fun x => (f b, blkRen f x)
  | [], _, i => by simp [pick1]
  | b :: r, h, i => by
    obtain ⟨x, hx⟩ := h b (by simp)
    simp only [pick1, hx]
    cases i with
    | zero => simp [hx]
    | succ i => simpa using pick_get (fun c hc => h c (by simp [hc])) i
theorem pick_len {bl : Bls} {f : Nat → Nat} : ∀ {l : List Nat}, (∀ b ∈ l, ∃ x, get bl b = some x) → (pick1 bl f l).length = l.length
  | [], _ => rfl
  | b :: r, h => by
    obtain ⟨x, hx⟩ := h b (by simp)
    simp only [pick1, hx, List.length_cons]
    rw [pick_len fun c hc => h c (by simp [hc])]
/-- The ghost with the names changed. -/
def Gh.pick (g : Gh) (ns : List Nat) (pr : Nat → Nat → Prop) : Gh := ⟨fun (i : Nat) => (ns[i]?).bind g.at_, fun (i : Nat) => ((ns[i]?).map g.len).getD 0, fun (i : Nat) => ((ns[i]?).map g.cap).getD 0, pr⟩
theorem pick_ren {w : World} {g : Gh} {ns : List Nat} : Ren w w g (g.pick ns g.prot) (idx ns) (· ∈ ns) :=
  ⟨fun _ _ h => ⟨rfl, h⟩, fun b hb => by simp [Gh.pick, (idx_get hb).1], fun b hb => by simp [Gh.pick, (idx_get hb).1], fun b hb => by simp [Gh.pick, (idx_get hb).1]⟩
section
variable {P : Program} {X : Fix} {s : Sx} {a : Act} {w : World} {g : Gh} {V : Vw}
theorem load_fit (hF : V.F.Law) (hT : TabOk P V.T) {t : Nat} {cs : List AV} {vs : List Value} {B off : Nat} {v : AV} (hr : RepL (Rep1 w g) cs vs) (hc : ∀ j v, vs[j]? = some v → w.cell? ⟨B, j, none⟩ = some v) (h : fit V t cs off (fun v => bif known v then some v else none) = some v) :
    known v = true ∧ ∃ u, (loadVar t ⟨B, off, none⟩).run P w = .ok u w ∧ Rep w g v u ∧ ∀ b ∈ names v, b ∈ namesL cs := by
  have kn : ∀ {c : AV}, (bif known c then some c else none) = some v → c = v ∧ known c = true := by
    intro c hc
    cases hk : known c
    · rw [hk] at hc; cases hc
    · rw [hk] at hc; exact ⟨Option.some.inj hc, rfl⟩
  obtain ⟨e, he, hl, h1 | h1⟩ := fit_inv hF h
  · obtain ⟨rfl, hk⟩ := kn h1.2
    have hr2 := RepL.take e.size (hr.drop off)
    have hlen : ((vs.drop off).take e.size).length = e.size := by
      rw [← hr2.length]
      simp
      omega
    have hl2 := run_loadCells_list (P := P) w ⟨B, off, none⟩ ((vs.drop off).take e.size) (fun j v hv => by
      rw [add_zero]
      refine hc _ v ?_
      rw [List.getElem?_take] at hv
      split at hv
      · simpa using hv
      · simp at hv)
    rw [hlen] at hl2
    refine ⟨hk, .agg ((vs.drop off).take e.size).toArray, ?_, rep_agg hr2, ?_⟩
    · unfold loadVar
      simp only [Sem.run_bind, (hT t e he).agg_run, h1.1, Result.andThen_ok, if_true, (hT t e he).size_run, hl2]
      rfl
    · intro b hb
      exact names_mem_drop (names_mem_take (by simpa [names, names2] using hb))
  · obtain ⟨ha, c, hcc, hk⟩ := h1
    obtain ⟨rfl, hk2⟩ := kn hk
    obtain ⟨u, hu, hcv⟩ := hr.get hcc
    refine ⟨hk2, u, ?_, (rep1_names hcv).1, ?_⟩
    · unfold loadVar
      simp [(hT t e he).agg_run, ha, hc off u hu]
    · intro b hb
      rw [(rep1_names hcv).2] at hb
      exact mem_namesL (List.mem_of_getElem? hcc) hb
def resV (a : Act) : ResultVar → Sem Value
  | .tmp t => pure (a.tmps.getD t undef)
  | .cell x t => do loadVar t (← asAddr (a.tmps.getD x undef))
theorem res_ok {C : Cx} (hC : CxOk P C) {U : Nat → Prop} (h : Sim X U s a w g) {x : ResultVar} {v : AV} (he : resOf C s x = some v) : known v = true ∧ ∃ u, (resV a x).run P w = .ok u w ∧ Rep w g v u ∧ ∀ b ∈ names v, U b := by
  unfold resOf at he
  split at he
  case h_1 t =>
    cases hk : known (look s.tm t)
    · rw [hk] at he; cases he
    · rw [hk] at he
      have := Option.some.inj he
      subst this
      exact ⟨hk, _, rfl, h.tmps t, h.nmT t⟩
  case h_2 x t =>
    have hx := h.tmps x
    split at he
    case h_2 => cases he
    case h_1 b off hb =>
      rw [hb] at hx
      obtain ⟨B, hB, hv⟩ := hx
      split at he
      case h_2 => cases he
      case h_1 cs hcs =>
        obtain ⟨B', vs, hB', hr, hc, hu⟩ := cells_at h hcs
        obtain rfl : B = B' := Option.some.inj (hB.symm.trans hB')
        obtain ⟨hk, u, k1, k2, k3⟩ := load_fit (P := P) (V := C.vw s 0) hC.hF hC.hT hr hc he
        refine ⟨hk, u, ?_, k2, fun b hb => hu b (k3 b hb)⟩
        simp [resV, hv, asAddr, k1]
theorem ress_ok {C : Cx} (hC : CxOk P C) {U : Nat → Prop} (h : Sim X U s a w g) : ∀ {xs : List ResultVar} {vs : List AV}, ress C s xs = some vs → ∃ us : List Value, (xs.mapM (resV a)).run P w = .ok us w ∧ RepL (Rep2 w g) vs us ∧ (∀ v ∈ vs, known v = true) ∧ ∀ v ∈ vs, ∀ b ∈ names v, U b
  | [], vs, he => by
    simp only [ress, Option.some.injEq] at he
    subst he
    exact ⟨[], by simp, by simp [RepL], by simp, by simp⟩
  | x :: xs, vs, he => by
    simp only [ress] at he
    split at he
    case h_2 => cases he
    case h_1 v l h1 h2 =>
      cases he
      obtain ⟨hk, u, k1, k2, k3⟩ := res_ok hC h h1
      obtain ⟨us, m1, m2, m3, m4⟩ := ress_ok hC h h2
      refine ⟨u :: us, by simp [List.mapM_cons, k1, m1], ?_, ?_, ?_⟩
      · simp only [RepL]
        rw [Rep_of (by rintro cs rfl; simp [known] at hk)] at k2
        exact ⟨k2, m2⟩
      · intro y hy
        rcases List.mem_cons.1 hy with rfl | hy
        · exact hk
        · exact m3 y hy
      · intro y hy
        rcases List.mem_cons.1 hy with rfl | hy
        · exact k3
        · exact m4 y hy
theorem results_eq (fn : Func) (a : Act) {us : List Value} (h : (fn.results.toList.mapM (resV a)).run P w = .ok us w) : (results fn a.tmps).run P w = .ok (if h : us.toArray.size = 1 then us.toArray[0] else .tuple us.toArray) w := by
  have e1 : fn.results.mapM (resV a) = List.toArray <$> fn.results.toList.mapM (resV a) := Array.mapM_eq_mapM_toList
  have e2 : results fn a.tmps = (do let vs ← fn.results.mapM (resV a); pure (if h : vs.size = 1 then vs[0] else .tuple vs)) := by
    unfold results
    congr 1
  rw [e2, e1]
  simp [h]
/-- What a function hands back. -/
theorem close_ok {C : Cx} (hC : CxOk P C) {U : Nat → Prop} (h : Sim X U s a w g) (hw : X.old0 = fun B => B < X.w0.heap.size) (hp : ∀ B o, X.p0 B o → B < X.w0.heap.size) {fn : Func} {r : AV × List Blk} (he : close C fn.results.toList s = some (true, r)) :
    ∃ u, (results fn a.tmps).run P w = .ok u w ∧ ∃ gR, Ret r X.p0 X.w0 w u gR := by
  unfold close at he
  split at he
  case h_2 => cases he
  case h_1 vs hvs =>
    obtain ⟨us, k1, k2, k3, k4⟩ := ress_ok hC h hvs
    refine ⟨_, results_eq fn a k1, ?_⟩
    have hone : Rep w g (oneOf vs) (if h : us.toArray.size = 1 then us.toArray[0] else .tuple us.toArray) ∧ ∀ b ∈ names (oneOf vs), U b := by
      have hlen := k2.length
      unfold oneOf
      split
      case h_1 v =>
        cases us with
        | nil => simp at hlen
        | cons u us =>
          cases us with
          | cons _ _ => simp at hlen
          | nil =>
            simp only [RepL] at k2
            have hk := k3 v (by simp)
            refine ⟨?_, k4 v (by simp)⟩
            rw [Rep_of (by rintro cs rfl; simp [known] at hk)]
            simpa using k2.1
      case h_2 hne =>
        have : us.length ≠ 1 := by
          intro hc
          rw [hc] at hlen
          match vs, hlen with
          | [v], _ => exact hne v rfl
        refine ⟨?_, ?_⟩
        · rw [dif_neg (by simpa using this)]
          exact ⟨us, rfl, k2⟩
        · intro b hb
          have key : ∀ l : List AV, (∀ v ∈ l, known v = true) → b ∈ namesL2 l → ∃ v ∈ l, b ∈ names v := by
            intro l hl hb
            induction l with
            | nil => simp [namesL2] at hb
            | cons v l ih =>
              simp only [namesL2, List.mem_append] at hb
              rcases hb with hb | hb
              · have hk := hl v (by simp)
                exact ⟨v, by simp, by cases v <;> first | exact hb | simp [known] at hk⟩
              · obtain ⟨x, hx, hb⟩ := ih (fun v hv => hl v (by simp [hv])) hb
                exact ⟨x, by simp [hx], hb⟩
          obtain ⟨v, hv, hb⟩ := key vs k3 hb
          exact k4 v hv b hb
    generalize (if h : us.toArray.size = 1 then us.toArray[0] else .tuple us.toArray) = u at hone
    generalize oneOf vs = v at hone he
    generalize reach s.bl 60 (names v) [] = ns at he
    unfold closeN at he
    obtain ⟨hc, he⟩ := chk_some he
    simp only [Bool.and_eq_true] at hc
    obtain ⟨⟨c1, c2⟩, c3⟩ := hc
    have c1 : ∀ b ∈ names v, b ∈ ns := fun b hb => (memN_iff _ _).1 (List.all_eq_true.1 c1 b hb)
    have hin := closed_inv c2
    have hex : ∀ b ∈ ns, ∃ x, get s.bl b = some x := fun b hb => let ⟨x, hx, _⟩ := hin b hb; ⟨x, hx⟩
    have := (Prod.mk.inj (Option.some.inj he)).2
    subst this
    clear he
    have hgetR : ∀ i y, ((pick1 s.bl (idx ns) ns).map (·.2))[i]? = some y → ∃ b x, ns[i]? = some b ∧ b ∈ ns ∧ idx ns b = i ∧ get s.bl b = some x ∧ y = blkRen (idx ns) x := by
      intro i y hy
      rw [List.getElem?_map, pick_get hex] at hy
      cases hb : ns[i]? with
      | none => rw [hb] at hy; simp at hy
      | some b =>
        have hbm : b ∈ ns := List.mem_of_getElem? hb
        obtain ⟨x, hx⟩ := hex b hbm
        rw [hb] at hy
        simp only [Option.bind_some, hx, Option.map_some, Option.some.injEq] at hy
        exact ⟨b, x, rfl, hbm, distinct_inj c3 (idx_get hbm).1 hb, hx, hy.symm⟩
    have hlenR : ((pick1 s.bl (idx ns) ns).map (·.2)).length = ns.length := by rw [List.length_map, pick_len hex]
    have hatI : ∀ {i b : Nat} {pr : Nat → Nat → Prop}, ns[i]? = some b → (g.pick ns pr).at_ i = g.at_ b := by
      intro i b pr hb
      simp [Gh.pick, hb]
    -- all but 'unp', with what is protected now
    have hren := pick_ren (w := w) (g := g) (ns := ns)
    have base : (∀ (i : Nat) (x : Blk) B o, ((pick1 s.bl (idx ns) ns).map (·.2))[i]? = some x → ((∃ cs, x = .box cs) ∨ (hasImm (Ev.ren (idx ns) v) || ((pick1 s.bl (idx ns) ns).map (·.2)).any blkImm) = false) → (g.pick ns g.prot).at_ i = some B → ¬ g.prot B o) → Ret (Ev.ren (idx ns) v, (pick1 s.bl (idx ns) ns).map (·.2)) X.p0 X.w0 w u (g.pick ns g.prot) := by
      intro hunp
      refine ⟨h.below.below (by rw [hw]; exact fun _ hk => hk), Rep.ren hren c1 hone.1, ?_, ?_, ?_, hunp, ?_, ?_, ?_, h.plt⟩
      · intro b hb
        rw [names_ren] at hb
        obtain ⟨c, hc, rfl⟩ := List.mem_map.1 hb
        rw [hlenR]
        exact (idx_get (c1 c hc)).2
      · intro i y hy
        obtain ⟨b, x, hb, hbm, hi, hx, rfl⟩ := hgetR i y hy
        rw [← hi]
        exact BlkRep.ren hren hbm (fun cs hxc c hc => by
          obtain ⟨x', hx', hcl⟩ := hin b hbm
          rw [hx] at hx'
          cases hx'
          subst hxc
          exact hcl c hc) (fun B hB => ⟨rfl, fun o ho => ho⟩) (h.blk b x hx)
      · intro i cs hy c hc
        obtain ⟨b, x, hb, hbm, hi, hx, hxr⟩ := hgetR i _ hy
        obtain ⟨x', hx', hcl⟩ := hin b hbm
        rw [hx] at hx'
        cases hx'
        cases x with
        | row q l => cases hxr
        | box cs' =>
          cases hxr
          rw [namesL_ren] at hc
          obtain ⟨d, hd, rfl⟩ := List.mem_map.1 hc
          rw [hlenR]
          exact (idx_get (hcl d hd)).2
      · intro i j x y B hx hy hB hC
        obtain ⟨b, x', hb, _, _, hbx, _⟩ := hgetR i x hx
        obtain ⟨c, y', hc, _, _, hcy, _⟩ := hgetR j y hy
        rw [hatI hb] at hB
        rw [hatI hc] at hC
        have := h.inj b c x' y' B hbx hcy hB hC
        subst this
        exact distinct_inj c3 hb hc
      · intro i x B hx hB
        obtain ⟨b, x', hb, _, _, hbx, _⟩ := hgetR i x hx
        rw [hatI hb] at hB
        have hnw : ¬ X.old0 B := fun hh => h.new b x' B hbx hB (.inl hh)
        rw [hw] at hnw
        exact Nat.le_of_not_lt hnw
      · intro B o hB
        exact h.prot0 B o (by rw [hw]; exact hB)
    cases him : hasImm (Ev.ren (idx ns) v) || ((pick1 s.bl (idx ns) ns).map (·.2)).any blkImm
    case true =>
      refine ⟨_, base fun i x B o hx hcond hB hpr => ?_⟩
      obtain ⟨b, x', hb, hbm, _, hbx, hxe⟩ := hgetR i x hx
      rw [hatI hb] at hB
      rcases hcond with ⟨cs, rfl⟩ | hc
      · cases x' with
        | box cs' => exact h.unp b cs' B o hbx hB hpr
        | row q l => cases hxe
      · rw [him] at hc; cases hc
    case false =>
      simp only [Bool.or_eq_false_iff] at him
      obtain ⟨i1, i2⟩ := him
      -- nothing that is handed back tells a list: what was protected since the begin may go
      have i2' : ∀ x ∈ (pick1 s.bl (idx ns) ns).map (·.2), blkImm x = false := by
        simpa only [List.any_eq_false, Bool.not_eq_true] using i2
      refine ⟨g.pick ns X.p0, h.below.below (by rw [hw]; exact fun _ hk => hk), ?_, ?_, ?_, ?_, ?_, ?_, ?_, fun _ _ _ => Iff.rfl, fun B o hpr => Nat.lt_of_lt_of_le (hp B o hpr) h.below.size⟩
      · exact Rep.free (w := w) (g := g.pick ns g.prot) (g' := g.pick ns X.p0) (fun _ => rfl) (fun _ => rfl) (fun _ => rfl) i1 (Rep.ren hren c1 hone.1)
      · intro b hb
        rw [names_ren] at hb
        obtain ⟨c, hc, rfl⟩ := List.mem_map.1 hb
        rw [hlenR]
        exact (idx_get (c1 c hc)).2
      · intro i y hy
        have hyi := i2' y (List.mem_of_getElem? hy)
        obtain ⟨b, x, hb, hbm, hi, hx, rfl⟩ := hgetR i y hy
        refine BlkRep.free (w := w) (g := g.pick ns g.prot) (g' := g.pick ns X.p0) (fun _ => rfl) (fun _ => rfl) (fun _ => rfl) hyi (fun B hB o hpr => ?_) ?_
        · rw [hatI hb] at hB
          have h1 : ¬ B < X.w0.heap.size := by have : ¬ X.old0 B := fun hh => h.new b x B hx hB (.inl hh); rwa [hw] at this
          have h2 := hp B o hpr
          omega
        · rw [← hi]
          exact BlkRep.ren hren hbm (fun cs hxc c hc => by
            obtain ⟨x', hx', hcl⟩ := hin b hbm
            rw [hx] at hx'
            cases hx'
            subst hxc
            exact hcl c hc) (fun B hB => ⟨rfl, fun o ho => ho⟩) (h.blk b x hx)
      · intro i cs hy c hc
        obtain ⟨b, x, hb, hbm, hi, hx, hxr⟩ := hgetR i _ hy
        obtain ⟨x', hx', hcl⟩ := hin b hbm
        rw [hx] at hx'
        cases hx'
        cases x with
        | row q l => cases hxr
        | box cs' =>
          cases hxr
          rw [namesL_ren] at hc
          obtain ⟨d, hd, rfl⟩ := List.mem_map.1 hc
          rw [hlenR]
          exact (idx_get (hcl d hd)).2
      · intro i x B o hx _ hB hpr
        obtain ⟨b, x', hb, hbm, _, hbx, _⟩ := hgetR i x hx
        rw [hatI hb] at hB
        have h1 : ¬ B < X.w0.heap.size := by have : ¬ X.old0 B := fun hh => h.new b x' B hbx hB (.inl hh); rwa [hw] at this
        have h2 := hp B o hpr
        omega
      · intro i j x y B hx hy hB hC
        obtain ⟨b, x', hb, _, _, hbx, _⟩ := hgetR i x hx
        obtain ⟨c, y', hc, _, _, hcy, _⟩ := hgetR j y hy
        rw [hatI hb] at hB
        rw [hatI hc] at hC
        have := h.inj b c x' y' B hbx hcy hB hC
        subst this
        exact distinct_inj c3 hb hc
      · intro i x B hx hB
        obtain ⟨b, x', hb, _, _, hbx, _⟩ := hgetR i x hx
        rw [hatI hb] at hB
        have hnw : ¬ X.old0 B := fun hh => h.new b x' B hbx hB (.inl hh)
        rw [hw] at hnw
        exact Nat.le_of_not_lt hnw
end

/-! ### Functions -/
theorem look_args : ∀ (args : List AV) (n : Nat) (t : Tr) (m : Nat), (n ≤ m ∧ ∃ v, args[m - n]? = some v ∧ look (args0 n args t) m = v) ∨ look (args0 n args t) m = look t m ∨ look (args0 n args t) m = .undef
  | [], n, t, m => .inr (.inl rfl)
  | v :: r, n, t, m => by
    simp only [args0]
    rcases look_args r (n + 1) (putT t n v) m with ⟨h1, u, h2, h3⟩ | h | h
    · refine .inl ⟨by omega, u, ?_, h3⟩
      rw [show m - n = (m - (n + 1)) + 1 by omega, List.getElem?_cons_succ]
      exact h2
    · rcases look_put t n v m with ⟨h1, h2⟩ | ⟨h1, h2⟩ | h2
      · subst h1
        exact .inl ⟨Nat.le_refl _, v, by simp, h.trans h2⟩
      · exact .inr (.inl (h.trans h2))
      · exact .inr (.inr (h.trans h2))
    · exact .inr (.inr h)
theorem look_nil (m : Nat) : look .nil m = .undef := tr_nil 12 m
/-! ### What is held -/
theorem cell_put {w : World} {B : Nat} {o o' : Obj} (hB : w.heap[B]? = some o) (ho : notCells o = true) (ho' : notCells o' = true) (k j : Nat) : (w.putObj B o').cell? ⟨k, j, none⟩ = w.cell? ⟨k, j, none⟩ := by
  by_cases hk : k = B
  · subst hk
    have h1 := World.putObj_heap_same (w := w) (o := o') (Array.getElem?_eq_some_iff.1 hB).1
    simp only [World.cell?, h1, hB]
    cases o <;> cases o' <;> simp_all [notCells]
  · exact cell_same (World.putObj_heap_other hk) j
theorem put_ext {w : World} {g : Gh} {B : Nat} {o o' : Obj} (hB : w.heap[B]? = some o) (ho : notCells o = true) (ho' : notCells o' = true) (n : Nat → Prop) : GExt w (w.putObj B o') g g n :=
  ⟨fun k j hp => ⟨cell_put hB ho ho' k j, hp⟩, fun _ _ => rfl, fun _ _ => rfl, fun _ _ => rfl⟩
theorem unt_put {O : Nat → Prop} (w : World) {B : Nat} (hB : ¬ O B) (o' : Obj) : Unt O w (w.putObj B o') :=
  ⟨rfl, rfl, rfl, by simp, fun k hk => World.putObj_heap_other (by rintro rfl; exact hB hk)⟩
def Fix.put (X : Fix) (B : Nat) (o' : Obj) (ms : List Nat) : Fix := ⟨X.w0, X.old0, fun k => if k = B then some o' else X.held k, X.gb, X.U0, X.nt, ms⟩
/-- What is held changes. -/
theorem Sim.reHeld {X : Fix} {U : Nat → Prop} {s : Sx} {a : Act} {w : World} {g : Gh} (h : Sim X U s a w g) {B : Nat} {o o' : Obj} (hB : X.held B = some o) (ho' : notCells o' = true) {ms : List Nat} (hms : ∀ D ∈ ms, X.held D = some (.deferred (some [])) ∧ D ≠ B) (nd : ms.Nodup) :
    Sim (X.put B o' ms) U s { tmps := a.tmps, defers := ms.map markOf } (w.putObj B o') g := by
  obtain ⟨hno, hoc⟩ := h.hok B o hB
  have hw := h.held B o hB
  have hext : ∀ n, GExt w (w.putObj B o') g g n := put_ext hw hoc ho'
  have hold : ∀ k, (X.put B o' ms).old k → X.old k := by
    rintro k (hk | ⟨q, hk⟩)
    · exact .inl hk
    · by_cases e : k = B
      · subst e; exact .inr ⟨o, hB⟩
      · simp only [Fix.put, if_neg e] at hk
        exact .inr ⟨q, hk⟩
  refine ⟨fun t => (h.tmps t).ext (hext (fun _ => True)) (fun _ _ => trivial), h.size, rfl, fun b x hb => BlkRep.ext (hext (fun _ => True)) trivial (fun _ _ _ _ => trivial) (fun B' hB' => ⟨World.putObj_heap_other (by rintro rfl; exact h.new b x _ hb hB' (.inr ⟨o, hB⟩)), fun _ hp => hp⟩) (h.blk b x hb), h.unp, h.unf, h.inj, fun b x B' hb hB' hO => h.new b x B' hb hB' (hold B' hO), h.prot0, fun B' o hp => by simpa using h.plt B' o hp, fun B' hO => by simpa using h.blt B' (hold B' hO), h.below.trans (unt_put w hno o'), h.nmT, h.nmB, h.nmK, h.u0, h.ext.trans (hext U) h.u0, ?_, ?_, nd, ?_⟩
  · intro k q hk
    by_cases e : k = B
    · subst e
      simp only [Fix.put, if_pos] at hk
      cases hk
      exact World.putObj_heap_same (Array.getElem?_eq_some_iff.1 hw).1
    · simp only [Fix.put, if_neg e] at hk
      rw [World.putObj_heap_other e]
      exact h.held k q hk
  · intro D hD
    obtain ⟨h1, h2⟩ := hms D hD
    simp only [Fix.put, if_neg h2]
    exact h1
  · intro k q hk
    by_cases e : k = B
    · subst e
      simp only [Fix.put, if_pos] at hk
      cases hk
      exact ⟨hno, ho'⟩
    · simp only [Fix.put, if_neg e] at hk
      exact h.hok k q hk
/-- The same begin. -/
structure Fix.fin (X Y : Fix) : Prop where
  w0 : Y.w0 = X.w0
  old0 : Y.old0 = X.old0
  gb : Y.gb = X.gb
  U0 : Y.U0 = X.U0
  nt : Y.nt = X.nt
  held : ∀ B o, X.held B = some o → Y.held B = some o
/-- A function's way out. -/
theorem leave_ok {P : Program} {fn : Func} {R : Ending → World → Prop} {X : Fix} {U : Nat → Prop} {s : Sx} {tm : Array Value} (hR : ∀ Y w g, X.fin Y → Sim Y U s { tmps := tm, defers := [] } w g → ∃ v, (results fn tm).run P w = .ok v w ∧ R (.returned v) w) :
    ∀ (ms : List Nat) (Y : Fix) (w : World) (g : Gh), Y.mks = ms → X.fin Y → (∀ D ∈ ms, X.held D = none) → Sim Y U s { tmps := tm, defers := ms.map markOf } w g → LeavesInM (fw none) 0 P fn tm R (ms.map markOf) .returning w
  | [], Y, w, g, _, hf, _, h => hR Y w g hf h
  | D :: ms, Y, w, g, hm, hf, hn, h => by
    have hD : Y.held D = some (.deferred (some [])) := h.mkh D (by rw [hm]; simp)
    have hnd := h.mkn
    rw [hm] at hnd
    refine ⟨by simp, .inl ⟨D, w.putObj D (.deferred none), rfl, run_takeDeferred (h.held D _ hD), ?_⟩⟩
    refine leave_ok hR ms (Y.put D (.deferred none) ms) _ g rfl ⟨hf.w0, hf.old0, hf.gb, hf.U0, hf.nt, fun B o hB => ?_⟩ (fun D' hD' => hn D' (by simp [hD'])) (h.reHeld hD rfl (fun D' hD' => ⟨h.mkh D' (by rw [hm]; simp [hD']), fun e => (List.nodup_cons.1 hnd).1 (e ▸ hD')⟩) (List.nodup_cons.1 hnd).2)
    have hne : B ≠ D := by
      rintro rfl
      rw [hn B (by simp)] at hB
      cases hB
    simp only [Fix.put, if_neg hne]
    exact hf.held B o hB
theorem leave_of {P : Program} {fn : Func} {R : Ending → World → Prop} {X Y : Fix} {U : Nat → Prop} {s : Sx} {a : Act} {w : World} {g : Gh} (hX : X.mks = []) (hl : X.le Y) (h : Sim Y U s a w g) (hR : ∀ Y w g, X.fin Y → Sim Y U s { tmps := a.tmps, defers := [] } w g → ∃ v, (results fn a.tmps).run P w = .ok v w ∧ R (.returned v) w) : LeavesInM (fw none) 0 P fn a.tmps R a.defers .returning w := by
  obtain ⟨tm, df⟩ := a
  have hd : df = Y.mks.map markOf := h.dfr
  subst hd
  exact leave_ok hR Y.mks Y w g rfl ⟨hl.w0, hl.old0, hl.gb, hl.U0, hl.nt, hl.held⟩ (fun D hD => (hl.mks D hD).resolve_left (by rw [hX]; simp)) h
theorem args_sim {fn : Func} {args : List AV} {w : World} {pr : Nat → Nat → Prop} {vs : List Value} (hlen : args.length ≤ fn.ntmps) (hpr : ∀ B o, pr B o → B < w.heap.size) (hargs : RepL (Rep w (g0 pr)) args vs) (hk : args.all known = true) (hno : namesL2 args = []) :
    Sim ⟨w, fun B => B < w.heap.size, fun _ => none, g0 pr, fun _ => False, fn.ntmps, []⟩ (Lt 0) ⟨args0 0 args .nil, [], [], 0⟩ { tmps := vs.toArray ++ Array.replicate (fn.ntmps - vs.toArray.size) undef, defers := [] } w (g0 pr) := by
  have hvl : args.length = vs.length := hargs.length
  have hsz : (vs.toArray ++ Array.replicate (fn.ntmps - vs.toArray.size) undef).size = fn.ntmps := by
    simp
    omega
  have hl : ∀ t, (∃ v, args[t]? = some v ∧ look (args0 0 args .nil) t = v) ∨ look (args0 0 args .nil) t = .undef := by
    intro t
    rcases look_args args 0 .nil t with ⟨_, v, h1, h2⟩ | h | h
    · exact .inl ⟨v, by simpa using h1, h2⟩
    · exact .inr (h.trans (look_nil t))
    · exact .inr h
  refine ⟨fun t => ?_, hsz, rfl, fun b x hb => by simp [get] at hb, fun b cs B o hb => by simp [get] at hb, fun b r l B o hb => by simp [get] at hb, fun b c x y B hb => by simp [get] at hb, fun b x B hb => by simp [get] at hb, fun _ _ _ => Iff.rfl, hpr, ?_, Unt.refl _ _, fun t b hb => ?_, fun b cs hb => by simp [get] at hb, fun b x hb => by simp [get] at hb, fun _ hb => hb.elim, ⟨fun _ _ hp => ⟨rfl, hp⟩, fun _ hb => hb.elim, fun _ hb => hb.elim, fun _ hb => hb.elim⟩, (fun B o hB => by cases hB), (fun D hD => by simp at hD), List.nodup_nil, (fun B o hB => by cases hB)⟩
  · rcases hl t with ⟨v, h1, h2⟩ | h
    · show Rep w (g0 pr) (look (args0 0 args .nil) t) _
      rw [h2]
      obtain ⟨u, hu, hr⟩ := hargs.get h1
      have hut : t < vs.length := (List.getElem?_eq_some_iff.1 hu).1
      have : (vs.toArray ++ Array.replicate (fn.ntmps - vs.toArray.size) undef).getD t undef = u := by
        rw [Array.getD_eq_getD_getElem?, Array.getElem?_append_left (by simpa using hut)]
        simp [hu]
      rw [this]
      exact hr
    · show Rep w (g0 pr) (look (args0 0 args .nil) t) _
      rw [h]
      trivial
  · rintro B (hB | ⟨o, hB⟩)
    · exact hB
    · cases hB
  · have hb' : b ∈ names (look (args0 0 args .nil) t) := hb
    rcases hl t with ⟨v, h1, h2⟩ | h
    · rw [h2] at hb'
      have hv : v ∈ args := List.mem_of_getElem? h1
      exact (names_nil hno v hv (List.all_eq_true.1 hk v hv) b hb').elim
    · rw [h] at hb'
      simp [names, names2, names1, names0] at hb'
/-! ### Functions that are handed names -/
theorem seqN_eq {β : Type} : ∀ (l : List Nat) (k : List Nat → Option β), seqN l k = k l
  | [], k => rfl
  | n :: r, k => by simp only [seqN, frcN_eq, seqN_eq r]
theorem forceCells_F {F : Frc} (hF : F.Law) {γ : Type} (cs : List AV) (K : List AV → Option γ) : forceCells F cs K = K cs := forceCells_eq (V := ⟨[], F, fun _ _ => none, fun _ _ _ => none, fun _ _ _ => none, .nil, fun _ => none, fun _ => false, 0, fun _ => none, fun _ => false⟩) hF cs K
theorem blt_iff {a b : Nat} : Nat.blt a b = true ↔ a < b := by rw [Nat.blt_eq]
theorem okN_iff {nm b : Nat} {ns : List Nat} : okN nm ns b = true ↔ b < nm ∨ b ∈ ns := by
  simp only [okN, Bool.or_eq_true, memN_iff, Nat.blt_eq]
theorem fN_lt {nm b : Nat} {ns : List Nat} (h : b < nm) : fN nm ns b = b := by
  have : Nat.blt b nm = true := blt_iff.2 h
  simp only [fN, this, cond_true]
theorem fN_ge {nm b : Nat} {ns : List Nat} (h : nm ≤ b) : fN nm ns b = nm + idx ns b := by
  have : Nat.blt b nm = false := by
    cases hb : Nat.blt b nm
    · rfl
    · exact absurd (blt_iff.1 hb) (by omega)
  simp only [fN, this, cond_false]
theorem get_putW_ne {B : Bls} {f : Nat → Nat} {c : Nat} : ∀ {L : List Nat} {bl : Bls}, (∀ b ∈ L, f b ≠ c) → get (putB bl (wrS B f L)) c = get bl c
  | [], bl, _ => rfl
  | b :: r, bl, h => by
    have hb : c ≠ f b := fun e => h b (by simp) e.symm
    have ih : ∀ bl' : Bls, get (putB bl' (wrS B f r)) c = get bl' c := fun bl' => get_putW_ne fun x hx => h x (by simp [hx])
    simp only [wrS]
    cases get B b with
    | none => simp only [putB]; rw [ih, get_delB, if_neg hb]
    | some x => simp only [putB]; rw [ih, get_setB, if_neg hb]
theorem get_putW_eq {B : Bls} {f : Nat → Nat} {c : Nat} {v : Option Blk} : ∀ {L : List Nat} {bl : Bls}, (∃ b ∈ L, f b = c) → (∀ b ∈ L, f b = c → (get B b).map (blkRen f) = v) → get (putB bl (wrS B f L)) c = v
  | [], bl, ⟨b, hb, _⟩, _ => by simp at hb
  | b :: r, bl, h, hv => by
    have hv' : ∀ x ∈ r, f x = c → (get B x).map (blkRen f) = v := fun x hx => hv x (by simp [hx])
    by_cases hr : ∃ x ∈ r, f x = c
    · simp only [wrS]
      cases get B b with
      | none => simp only [putB]; exact get_putW_eq hr hv'
      | some x => simp only [putB]; exact get_putW_eq hr hv'
    · obtain ⟨x, hx, hxc⟩ := h
      have hxb : x = b := (List.mem_cons.1 hx).resolve_right fun h2 => hr ⟨x, h2, hxc⟩
      subst hxb
      have hval := hv x (by simp) hxc
      have ih : ∀ bl' : Bls, get (putB bl' (wrS B f r)) c = get bl' c := fun bl' => get_putW_ne fun y hy e => hr ⟨y, hy, e⟩
      simp only [wrS]
      cases hg : get B x with
      | none => simp only [putB]; rw [ih, get_delB, if_pos hxc.symm]; rw [hg] at hval; exact hval
      | some y => simp only [putB]; rw [ih, get_setB, if_pos hxc.symm]; rw [hg] at hval; exact hval
theorem mem_keysB : ∀ {bl : Bls} {b : Nat} {x : Blk}, get bl b = some x → b ∈ keysB bl
  | [], b, x, h => by cases h
  | (c, y) :: r, b, x, h => by
    simp only [get] at h
    cases hb : Nat.beq c b
    · rw [hb] at h
      simp only [keysB, List.mem_cons]
      exact .inr (mem_keysB h)
    · simp only [keysB, List.mem_cons]
      exact .inl (Nat.eq_of_beq_eq_true hb).symm
theorem clS_inv {bl : Bls} {nm : Nat} {ns : List Nat} : ∀ {l : List Nat}, clS bl nm ns l = true → ∀ b ∈ l, (∀ x, get bl b = some x → ∀ c ∈ blkNames x, okN nm ns c = true) ∧ (nm ≤ b → ∃ x, get bl b = some x)
  | [], _, b, hb => by simp at hb
  | a :: r, h, b, hb => by
    simp only [clS, Bool.and_eq_true] at h
    rcases List.mem_cons.1 hb with rfl | hb
    · refine ⟨fun x hx => ?_, fun hn => ?_⟩
      · have h1 := h.1
        rw [hx] at h1
        exact fun c hc => List.all_eq_true.1 h1 c hc
      · cases hx : get bl b with
        | some x => exact ⟨x, rfl⟩
        | none =>
          have h1 := h.1
          rw [hx] at h1
          exact absurd (blt_iff.1 h1) (by omega)
    · exact clS_inv h.2 b hb
/-- The ghost with the new names changed. -/
def Gh.pickS (g : Gh) (nm : Nat) (ns : List Nat) : Gh := ⟨fun (b : Nat) => if b < nm then g.at_ b else (ns[b - nm]?).bind g.at_, fun (b : Nat) => if b < nm then g.len b else ((ns[b - nm]?).map g.len).getD 0, fun (b : Nat) => if b < nm then g.cap b else ((ns[b - nm]?).map g.cap).getD 0, g.prot⟩
theorem pickS_ren {w : World} {g : Gh} {nm : Nat} {ns : List Nat} (hge : ∀ b ∈ ns, nm ≤ b) : Ren w w g (g.pickS nm ns) (fN nm ns) (fun b => b < nm ∨ b ∈ ns) := by
  have key : ∀ b, (b < nm ∨ b ∈ ns) → (g.pickS nm ns).at_ (fN nm ns b) = g.at_ b ∧ (g.pickS nm ns).len (fN nm ns b) = g.len b ∧ (g.pickS nm ns).cap (fN nm ns b) = g.cap b := by
    intro b hb
    by_cases hlt : b < nm
    · rw [fN_lt hlt]
      simp only [Gh.pickS, if_pos hlt, and_self]
    · have hm : b ∈ ns := hb.resolve_left hlt
      rw [fN_ge (by omega)]
      simp only [Gh.pickS]
      rw [if_neg (by omega), if_neg (by omega), if_neg (by omega), Nat.add_sub_cancel_left, (idx_get hm).1]
      simp
  exact ⟨fun _ _ h => ⟨rfl, h⟩, fun b hb => (key b hb).1, fun b hb => (key b hb).2.1, fun b hb => (key b hb).2.2⟩
theorem fN_inj {nm : Nat} {ns : List Nat} (hge : ∀ b ∈ ns, nm ≤ b) {b c : Nat} (hb : b < nm ∨ b ∈ ns) (hc : c < nm ∨ c ∈ ns) (h : fN nm ns b = fN nm ns c) : b = c := by
  by_cases h1 : b < nm
  · by_cases h2 : c < nm
    · rwa [fN_lt h1, fN_lt h2] at h
    · rw [fN_lt h1, fN_ge (by omega)] at h
      omega
  · by_cases h2 : c < nm
    · rw [fN_lt h2, fN_ge (by omega)] at h
      omega
    · rw [fN_ge (by omega), fN_ge (by omega)] at h
      have e : idx ns b = idx ns c := by omega
      have k1 := (idx_get (hb.resolve_left h1)).1
      have k2 := (idx_get (hc.resolve_left h2)).1
      rw [e, k2] at k1
      exact (Option.some.inj k1).symm
theorem seqW_eq {F : Frc} (hF : F.Law) {β : Type} : ∀ (l : List (Nat × Option Blk)) (k : List (Nat × Option Blk) → Option β), seqW F l k = k l
  | [], k => rfl
  | (n, none) :: r, k => by simp only [seqW]; rw [frcN_eq, seqW_eq hF r]
  | (n, some (.box cs)) :: r, k => by simp only [seqW]; rw [frcN_eq, forceCells_F hF, seqW_eq hF r]
  | (n, some (.row q l)) :: r, k => by simp only [seqW]; rw [frcN_eq, seqW_eq hF r]
section
variable {P : Program}
theorem one_ok {U : Nat → Prop} {w : World} {g : Gh} {vs : List AV} {us : List Value} (k2 : RepL (Rep2 w g) vs us) (k3 : ∀ v ∈ vs, known v = true) (k4 : ∀ v ∈ vs, ∀ b ∈ names v, U b) : Rep w g (oneOf vs) (if h : us.toArray.size = 1 then us.toArray[0] else .tuple us.toArray) ∧ ∀ b ∈ names (oneOf vs), U b := by
  have hlen := k2.length
  unfold oneOf
  split
  case h_1 v =>
    cases us with
    | nil => simp at hlen
    | cons u us =>
      cases us with
      | cons _ _ => simp at hlen
      | nil =>
        simp only [RepL] at k2
        have hk := k3 v (by simp)
        refine ⟨?_, k4 v (by simp)⟩
        rw [Rep_of (by rintro cs rfl; simp [known] at hk)]
        simpa using k2.1
  case h_2 hne =>
    have : us.length ≠ 1 := by
      intro hc
      rw [hc] at hlen
      match vs, hlen with
      | [v], _ => exact hne v rfl
    refine ⟨?_, ?_⟩
    · rw [dif_neg (by simpa using this)]
      exact ⟨us, rfl, k2⟩
    · intro b hb
      have key : ∀ l : List AV, (∀ v ∈ l, known v = true) → b ∈ namesL2 l → ∃ v ∈ l, b ∈ names v := by
        intro l hl hb
        induction l with
        | nil => simp [namesL2] at hb
        | cons v l ih =>
          simp only [namesL2, List.mem_append] at hb
          rcases hb with hb | hb
          · have hk := hl v (by simp)
            exact ⟨v, by simp, by cases v <;> first | exact hb | simp [known] at hk⟩
          · obtain ⟨x, hx, hb⟩ := ih (fun v hv => hl v (by simp [hv])) hb
            exact ⟨x, by simp [hx], hb⟩
      obtain ⟨v, hv, hb⟩ := key vs k3 hb
      exact k4 v hv b hb
/-- The caller's state behind what has been done on its blocks. -/
theorem closeG {F : Frc} (hF : F.Law) {X Y : Fix} {nm : Nat} {s s2 : Sx} {a a2 : Act} {w w2 : World} {g g2 : Gh} {v : AV} {u : Value} {e : Eff} (h : Sim X (Lt nm) s a w g) (h2 : Sim Y (Lt s2.nx) s2 a2 w2 g2) (hone : Rep w2 g2 v u) (ho : ∀ B, X.old B → Y.old B) (hx : GExt w w2 g g2 (Lt nm)) (hu : Unt X.old w w2) (hp : ∀ B o, X.old0 B → (g2.prot B o ↔ g.prot B o)) (he : closeS2 F nm s.bl s2 v = some e) :
    ∃ g', Rep w2 g' e.val u ∧ (∀ b ∈ names e.val, upto nm (Lt nm) b) ∧ Sim X (upto nm (Lt nm)) ⟨s.tm, putB s.bl e.wr, e.fz ++ s.fz, s.nx⟩ a w2 g' := by
  unfold closeS2 at he
  rw [seqN_eq, seqN_eq] at he
  have hL : ∀ b, b ∈ ((keysB s.bl ++ keysB s2.bl).filter fun b => Nat.blt b nm) ↔ (b ∈ keysB s.bl ∨ b ∈ keysB s2.bl) ∧ b < nm := by
    intro b
    rw [List.mem_filter, List.mem_append, Nat.blt_eq]
  generalize ((keysB s.bl ++ keysB s2.bl).filter fun b => Nat.blt b nm) = L at hL he
  generalize ((reach s2.bl 1000 (names v ++ L) []).filter (Nat.ble nm)) = ns at he
  unfold closeS3 at he
  obtain ⟨hc, he⟩ := chk_some he
  rw [seqW_eq hF, seqN_eq] at he
  simp only [Bool.and_eq_true] at hc
  obtain ⟨⟨⟨c8, c1⟩, c2, c3⟩, c4, c5⟩ := hc
  have c8 : ns.length ≤ 8 := by simpa using c8
  have c1 : ∀ b ∈ names v, b < nm ∨ b ∈ ns := fun b hb => okN_iff.1 (List.all_eq_true.1 c1 b hb)
  have hge : ∀ b ∈ ns, nm ≤ b := fun b hb => by simpa using List.all_eq_true.1 c4 b hb
  have hin : ∀ b x, (b < nm ∨ b ∈ ns) → get s2.bl b = some x → ∀ c ∈ blkNames x, c < nm ∨ c ∈ ns := by
    intro b x hb hx c hc
    rcases hb with hb | hb
    · exact okN_iff.1 ((clS_inv c2 b ((hL b).2 ⟨.inr (mem_keysB hx), hb⟩)).1 x hx c hc)
    · exact okN_iff.1 ((clS_inv c3 b hb).1 x hx c hc)
  have := Option.some.inj he
  subst this
  clear he
  have hren := pickS_ren (w := w2) (g := g2) hge
  have hfb : ∀ b, (b < nm ∨ b ∈ ns) → upto nm (Lt nm) (fN nm ns b) := by
    intro b hb
    by_cases hlt : b < nm
    · rw [fN_lt hlt]; exact .inl hlt
    · have hm := hb.resolve_left hlt
      have := (idx_get hm).2
      rw [fN_ge (by omega)]
      exact .inr ⟨by omega, by omega⟩
  -- what stands in the new state
  have hget : ∀ c y, get (putB s.bl (wrS s2.bl (fN nm ns) (L ++ ns))) c = some y → ∃ b x, (b < nm ∨ b ∈ ns) ∧ fN nm ns b = c ∧ get s2.bl b = some x ∧ y = blkRen (fN nm ns) x := by
    intro c y hy
    by_cases hex : ∃ b ∈ L ++ ns, fN nm ns b = c
    · obtain ⟨b, hb, hbc⟩ := hex
      have hok : ∀ x, x ∈ L ++ ns → x < nm ∨ x ∈ ns := by
        intro x hx
        rcases List.mem_append.1 hx with hx | hx
        · exact .inl ((hL x).1 hx).2
        · exact .inr hx
      have := get_putW_eq (B := s2.bl) (f := fN nm ns) (c := c) (v := (get s2.bl b).map (blkRen (fN nm ns))) (bl := s.bl) ⟨b, hb, hbc⟩ (fun x hx hxc => by rw [fN_inj hge (hok x hx) (hok b hb) (hxc.trans hbc.symm)])
      rw [this] at hy
      obtain ⟨x, hx, rfl⟩ := Option.map_eq_some_iff.1 hy
      exact ⟨b, x, hok b hb, hbc, hx, rfl⟩
    · have hne : ∀ b ∈ L ++ ns, fN nm ns b ≠ c := fun b hb hbc => hex ⟨b, hb, hbc⟩
      rw [get_putW_ne hne] at hy
      have hlt : c < nm := h.nmK c y hy
      exact absurd (fN_lt hlt) (hne c (List.mem_append.2 (.inl ((hL c).2 ⟨.inl (mem_keysB hy), hlt⟩))))
  have hat : ∀ b, (b < nm ∨ b ∈ ns) → (g2.pickS nm ns).at_ (fN nm ns b) = g2.at_ b := hren.at_
  have hext : GExt w w2 g (g2.pickS nm ns) (Lt nm) := by
    refine ⟨hx.keep, fun b hb => ?_, fun b hb => ?_, fun b hb => ?_⟩
    · exact (by simp only [Gh.pickS]; rw [if_pos (show b < nm from hb)] : (g2.pickS nm ns).at_ b = g2.at_ b).trans (hx.at_ b hb)
    · exact (by simp only [Gh.pickS]; rw [if_pos (show b < nm from hb)] : (g2.pickS nm ns).len b = g2.len b).trans (hx.len b hb)
    · exact (by simp only [Gh.pickS]; rw [if_pos (show b < nm from hb)] : (g2.pickS nm ns).cap b = g2.cap b).trans (hx.cap b hb)
  refine ⟨g2.pickS nm ns, Rep.ren hren c1 hone, ?_, ?_⟩
  · intro b hb
    rw [names_ren] at hb
    obtain ⟨c, hc, rfl⟩ := List.mem_map.1 hb
    exact hfb c (c1 c hc)
  refine ⟨fun t => (h.tmps t).ext hext (h.nmT t), h.size, h.dfr, ?_, ?_, ?_, ?_, ?_, ?_, h2.plt, ?_, h.below.trans (hu.mono fun _ hk => .inl hk), fun t b hb => .inl (h.nmT t b hb), ?_, ?_, fun b hb => .inl (h.u0 b hb), h.ext.trans hext h.u0, fun B o hB => (hu.block B (.inr ⟨o, hB⟩)).trans (h.held B o hB), h.mkh, h.mkn, h.hok⟩
  · intro c y hy
    obtain ⟨b, x, hb, rfl, hx, rfl⟩ := hget c y hy
    exact BlkRep.ren hren hb (fun cs hxc d hd => hin b x hb hx d (by rw [hxc]; exact hd)) (fun B hB => ⟨rfl, fun o ho => ho⟩) (h2.blk b x hx)
  · intro c cs B o hy hB hp
    obtain ⟨b, x, hb, rfl, hx, hxe⟩ := hget c _ hy
    rw [hat b hb] at hB
    cases x with
    | row q l => cases hxe
    | box cs' => exact h2.unp b cs' B o hx hB hp
  · intro c q l B o hy hf hB hp
    obtain ⟨b, x, hb, rfl, hx, hxe⟩ := hget c _ hy
    rw [hat b hb] at hB
    cases x with
    | box cs' => cases hxe
    | row q' l' =>
      refine h2.unf b q' l' B o hx ?_ hB hp
      have hf' : memN ((s2.fz.filter (okN nm ns)).map (fN nm ns) ++ s.fz) (fN nm ns b) = false := hf
      cases hfb : memN s2.fz b
      · rfl
      · have : memN ((s2.fz.filter (okN nm ns)).map (fN nm ns) ++ s.fz) (fN nm ns b) = true := (memN_iff _ _).2 (List.mem_append.2 (.inl (List.mem_map.2 ⟨b, List.mem_filter.2 ⟨(memN_iff _ _).1 hfb, okN_iff.2 hb⟩, rfl⟩)))
        rw [this] at hf'
        cases hf'
  · intro c d x y B hx hy hB hC
    obtain ⟨b, x', hb, rfl, hbx, _⟩ := hget c x hx
    obtain ⟨b', y', hb', rfl, hby, _⟩ := hget d y hy
    rw [hat b hb] at hB
    rw [hat b' hb'] at hC
    rw [h2.inj b b' x' y' B hbx hby hB hC]
  · intro c x B hx hB hO
    obtain ⟨b, x', hb, rfl, hbx, _⟩ := hget c x hx
    rw [hat b hb] at hB
    exact h2.new b x' B hbx hB (ho B hO)
  · intro B o hB
    exact (hp B o hB).trans (h.prot0 B o hB)
  · exact fun B hB => Nat.lt_of_lt_of_le (h.blt B hB) hu.size
  · intro c cs hy d hd
    obtain ⟨b, x, hb, rfl, hx, hxe⟩ := hget c _ hy
    cases x with
    | row q l => cases hxe
    | box cs' =>
      cases hxe
      rw [namesL_ren] at hd
      obtain ⟨d', hd', rfl⟩ := List.mem_map.1 hd
      exact hfb d' (hin b _ hb hx d' hd')
  · intro c y hy
    obtain ⟨b, x, hb, rfl, hx, _⟩ := hget c y hy
    exact hfb b hb
theorem closeS_ok {C : Cx} (hC : CxOk P C) {X Y : Fix} {nt nm : Nat} {s s2 : Sx} {a a2 : Act} {w w2 : World} {g g2 : Gh} (h : Sim X (Lt nm) s a w g) (hl : (calleeFix X w g nm nt).fin Y) (h2 : Sim Y (Lt s2.nx) s2 a2 w2 g2) {fn : Func} {e : Eff} (he : closeS C fn.results.toList nm s.bl s2 = some e) :
    ∃ u, (results fn a2.tmps).run P w2 = .ok u w2 ∧ Answers X (Lt nm) s a nm e (.returned u) w2 := by
  unfold closeS at he
  split at he
  case h_2 => cases he
  case h_1 vs hvs =>
    obtain ⟨us, k1, k2, k3, k4⟩ := ress_ok hC h2 hvs
    refine ⟨_, results_eq fn a2 k1, ?_⟩
    obtain ⟨hone, _⟩ := one_ok k2 k3 k4
    have e0 : Y.old0 = X.old0 := hl.old0
    have hx := h2.ext
    rw [hl.w0, hl.gb, hl.U0] at hx
    have hb := h2.below
    rw [hl.w0] at hb
    have hb : Unt Y.old0 w w2 := hb
    rw [e0] at hb
    refine closeG hC.hF h h2 hone ?_ hx ⟨hb.os, hb.tape, hb.output, hb.size, ?_⟩ ?_ he
    · rintro B (hB | ⟨o, hB⟩)
      · exact .inl (by rw [e0]; exact hB)
      · exact .inr ⟨o, hl.held B o hB⟩
    · rintro B (hB | ⟨o, hB⟩)
      · exact hb.block B hB
      · exact (h2.held B o (hl.held B o hB)).trans (h.held B o hB).symm
    · intro B o hB
      have := h2.prot0 B o (by rw [e0]; exact hB)
      unfold Fix.p0 at this
      rw [hl.gb] at this
      exact this
theorem args_simS {X : Fix} {nm : Nat} {s : Sx} {a : Act} {fn : Func} {args : List AV} {w : World} {g : Gh} {vs : List Value} (h : Sim X (Lt nm) s a w g) (hlen : args.length ≤ fn.ntmps) (hargs : RepL (Rep w g) args vs) (hk : args.all known = true) (hno : ∀ b ∈ namesL2 args, Lt nm b) :
    Sim (calleeFix X w g nm fn.ntmps) (Lt nm) ⟨args0 0 args .nil, s.bl, s.fz, nm⟩ { tmps := vs.toArray ++ Array.replicate (fn.ntmps - vs.toArray.size) undef, defers := [] } w g := by
  have hvl : args.length = vs.length := hargs.length
  have hsz : (vs.toArray ++ Array.replicate (fn.ntmps - vs.toArray.size) undef).size = fn.ntmps := by
    simp
    omega
  have hl : ∀ t, (∃ v, args[t]? = some v ∧ look (args0 0 args .nil) t = v) ∨ look (args0 0 args .nil) t = .undef := by
    intro t
    rcases look_args args 0 .nil t with ⟨_, v, h1, h2⟩ | h | h
    · exact .inl ⟨v, by simpa using h1, h2⟩
    · exact .inr (h.trans (look_nil t))
    · exact .inr h
  refine ⟨fun t => ?_, hsz, rfl, h.blk, h.unp, h.unf, h.inj, h.new, fun _ _ _ => Iff.rfl, h.plt, h.blt, Unt.refl _ _, fun t b hb => ?_, h.nmB, h.nmK, fun _ hb => hb, ⟨fun _ _ hp => ⟨rfl, hp⟩, fun _ _ => rfl, fun _ _ => rfl, fun _ _ => rfl⟩, h.held, fun D hD => by simp [calleeFix] at hD, List.nodup_nil, h.hok⟩
  · rcases hl t with ⟨v, h1, h2⟩ | h
    · show Rep w g (look (args0 0 args .nil) t) _
      rw [h2]
      obtain ⟨u, hu, hr⟩ := hargs.get h1
      have hut : t < vs.length := (List.getElem?_eq_some_iff.1 hu).1
      have : (vs.toArray ++ Array.replicate (fn.ntmps - vs.toArray.size) undef).getD t undef = u := by
        rw [Array.getD_eq_getD_getElem?, Array.getElem?_append_left (by simpa using hut)]
        simp [hu]
      rw [this]
      exact hr
    · show Rep w g (look (args0 0 args .nil) t) _
      rw [h]
      trivial
  · have hb' : b ∈ names (look (args0 0 args .nil) t) := hb
    rcases hl t with ⟨v, h1, h2⟩ | h
    · rw [h2] at hb'
      have hv : v ∈ args := List.mem_of_getElem? h1
      have hkv := List.all_eq_true.1 hk v hv
      exact hno b (mem_namesL2 hv (by cases v <;> first | exact hb' | simp [known] at hkv))
    · rw [h] at hb'
      simp [names, names2, names1, names0] at hb'
/-- A round's state at its begin. -/
theorem putPs_sim {X : Fix} {U : Nat → Prop} : ∀ (ps : List Nat) (args : List AV) (vs : List Value) (s : Sx) (a : Act) (w : World) (g : Gh), (∀ t ∈ ps, t < X.nt) → RepL (Rep w g) args vs → args.all known = true → namesL2 args = [] → Sim X U s a w g →
    Sim X U ⟨putPs ps args s.tm, s.bl, s.fz, s.nx⟩ { tmps := (ps.zip vs).foldl (fun tm p => tm.setIfInBounds p.1 p.2) a.tmps, defers := a.defers } w g
  | [], args, vs, s, a, w, g, _, _, _, _, h => by simpa [putPs] using h
  | t :: ps, [], vs, s, a, w, g, _, hr, _, _, h => by
    simp only [RepL] at hr
    subst hr
    simpa [putPs] using h
  | t :: ps, v :: args, [], s, a, w, g, _, hr, _, _, h => by simp [RepL] at hr
  | t :: ps, v :: args, u :: vs, s, a, w, g, hps, hr, hk, hn, h => by
    simp only [RepL] at hr
    simp only [List.all_cons, Bool.and_eq_true] at hk
    simp only [namesL2, List.append_eq_nil_iff] at hn
    have hv : names v = [] := by
      have := hn.1
      cases v <;> first | exact this | simp [known] at hk
    have h1 := h.put (d := some t) (v := v) (u := u) (fun t' e => by cases e; exact hps t (by simp)) hr.1 (fun b hb => by rw [hv] at hb; simp at hb)
    have := putPs_sim ps args vs _ _ w g (fun t' ht => hps t' (by simp [ht])) hr.2 hk.2 hn.2 h1
    simpa [putPs, putD, Act.put] using this
end
theorem foldl_zip (ps : Array Tmp) (vs : List Value) (tm : Array Value) : (ps.zip vs.toArray).foldl (fun tmps (p : Tmp × Value) => tmps.setIfInBounds p.1 p.2) tm = (ps.toList.zip vs).foldl (fun tm p => tm.setIfInBounds p.1 p.2) tm := by
  rw [← Array.foldl_toList]
  simp
section
variable {P : Program}
/-- A range over a function. -/
theorem rfH_ok {C : Cx} (hC : CxOk P C) (n : Nat) {β : Type} {r : β} : ROk P C none (rfH C n) r := by
  intro gop ps asg bd s K Q X a w g hcode hY h he hk
  unfold rfH at he
  obtain ⟨hhas, he⟩ := chk_some he
  have hnoY : C.callY = noY := hC.hasY (by simpa using hhas)
  split at he
  case h_2 => cases he
  case h_1 f caps hfn =>
    obtain ⟨hcap, he⟩ := chk_some he
    unfold rangeK at he
    cases hcs : C.callS f (.yld s.nx :: caps) s (s.nx + 1) (some (roundK C n s.tm s.nx ps.toList asg bd)) with
    | none => rw [hcs] at he; cases he
    | some e =>
    rw [hcs] at he
    simp only [frcN_eq, seqS] at he
    obtain ⟨fn, hf, hname, hb, hcall⟩ := hC.callS f _ s _ _ e hcs
    have hq := h.opnd gop
    rw [hfn] at hq
    obtain ⟨cv, hqv, hcv⟩ := hq
    have hcapn : ∀ b ∈ namesL2 caps, b < s.nx := fun b hb => by
      have := h.opnd_names gop
      rw [hfn] at this
      exact this b (caps_names hcap hb)
    obtain ⟨hps, hasg, hbd⟩ := hcode
    refine wpIn_rangeFunc fun fid _ => ?_
    -- the record is laid
    obtain ⟨D, hD⟩ : ∃ D, D = w.heap.size := ⟨_, rfl⟩
    obtain ⟨rec, hrec⟩ : ∃ rec : LoopState → Loop, rec = fun st => { state := st, pending := none, fn := fid, tmps := a.tmps, params := ps, assign := asg, body := bd, defers := D } := ⟨_, rfl⟩
    obtain ⟨w1, hw1⟩ : ∃ w1, (w.alloc (.deferred (some []))).alloc (.loop (rec .ready)) = w1 := ⟨_, rfl⟩
    have hsz : w1.heap.size = D + 2 := by rw [← hw1, hD]; simp
    have hL1 : w1.heap[D + 1]? = some (.loop (rec .ready)) := by
      rw [← hw1, hD]; have := World.alloc_heap_new (w.alloc (.deferred (some []))) (.loop (rec .ready)); rwa [World.size_alloc] at this
    have hD1 : w1.heap[D]? = some (.deferred (some [])) := by
      rw [← hw1, hD]; exact (Below.heap_alloc _ _ _ (by simp)).trans (World.alloc_heap_new w _)
    have hlow : ∀ k, k < D → w1.heap[k]? = w.heap[k]? := fun k hk => by
      rw [← hw1]; exact (Below.heap_alloc _ _ _ (by simp; omega)).trans (Below.heap_alloc _ _ _ (by omega))
    obtain ⟨X1, hX1⟩ : ∃ X1 : Fix, X1 = ⟨X.w0, X.old0, fun k => if k = D then some (.deferred (some [])) else if k = D + 1 then some (.loop (rec .ready)) else X.held k, X.gb, X.U0, X.nt, X.mks⟩ := ⟨_, rfl⟩
    obtain ⟨g1, hg1⟩ : ∃ g1 : Gh, g1 = ⟨fun b => if b = s.nx then some (D + 1) else g.at_ b, g.len, g.cap, g.prot⟩ := ⟨_, rfl⟩
    have hXlt : ∀ k, X.old k → k < D := fun k hk => by rw [hD]; exact h.blt k hk
    have hheldlt : ∀ k o, X.held k = some o → k < D := fun k o hk => hXlt k (.inr ⟨o, hk⟩)
    have hext : GExt w w1 g g1 (Lt s.nx) := by
      rw [hg1]
      refine ⟨fun B o hp => ⟨cell_same (hlow B (by rw [hD]; exact h.plt B o hp)) o, hp⟩, fun b hb => ?_, fun _ _ => rfl, fun _ _ => rfl⟩
      show (if b = s.nx then some (D + 1) else g.at_ b) = g.at_ b
      rw [if_neg (by have hb' : b < s.nx := hb; omega)]
    have hat1 : ∀ b x, get s.bl b = some x → g1.at_ b = g.at_ b := fun b x hbx => hext.at_ b (h.nmK b x hbx)
    have hatlt : ∀ b x B, get s.bl b = some x → g.at_ b = some B → B < D := fun b x B hbx hB => by rw [hD]; exact BlkRep.lt h hbx hB
    have hpr1 : g1.prot = g.prot := by rw [hg1]
    have h1 : Sim X1 (Lt (s.nx + 1)) s a w1 g1 := by
      have hn : ∀ b, Lt s.nx b → Lt (s.nx + 1) b := fun b hb => by have hb' : b < s.nx := hb; show b < s.nx + 1; omega
      subst hX1
      refine ⟨fun t => (h.tmps t).ext hext (h.nmT t), h.size, h.dfr, fun b x hbx => BlkRep.ext hext (h.nmK b x hbx) (fun cs hx => h.nmB b cs (hx ▸ hbx)) (fun B hB => ⟨hlow B (hatlt b x B hbx hB), fun o ho => by rw [hpr1] at ho; exact ho⟩) (h.blk b x hbx), ?_, ?_, ?_, ?_, ?_, ?_, ?_, ?_, fun t b hb => hn b (h.nmT t b hb), fun b cs hb c hc => hn c (h.nmB b cs hb c hc), fun b x hb => hn b (h.nmK b x hb), fun b hb => hn b (h.u0 b hb), h.ext.trans hext h.u0, ?_, ?_, h.mkn, ?_⟩
      · intro b cs B o hbx hB hp
        rw [hat1 b _ hbx] at hB
        rw [hpr1] at hp
        exact h.unp b cs B o hbx hB hp
      · intro b q l B o hbx hf hB hp
        rw [hat1 b _ hbx] at hB
        rw [hpr1] at hp
        exact h.unf b q l B o hbx hf hB hp
      · intro b c x y B hbx hcy hB hC
        rw [hat1 b _ hbx] at hB
        rw [hat1 c _ hcy] at hC
        exact h.inj b c x y B hbx hcy hB hC
      · intro b x B hbx hB hO
        rw [hat1 b _ hbx] at hB
        have hlt := hatlt b x B hbx hB
        rcases hO with hO | ⟨o, hO⟩
        · exact h.new b x B hbx hB (.inl hO)
        · simp only [if_neg (show ¬ B = D by omega), if_neg (show ¬ B = D + 1 by omega)] at hO
          exact h.new b x B hbx hB (.inr ⟨o, hO⟩)
      · intro B o hB
        rw [hpr1]
        exact h.prot0 B o hB
      · intro B o hp
        rw [hpr1] at hp
        have := h.plt B o hp
        omega
      · rintro B (hB | ⟨o, hB⟩)
        · have := hXlt B (.inl hB); omega
        · by_cases e1 : B = D
          · omega
          · by_cases e2 : B = D + 1
            · omega
            · simp only [if_neg e1, if_neg e2] at hB
              have := hheldlt B o hB
              omega
      · refine h.below.trans ⟨?_, ?_, ?_, by omega, fun k hk => hlow k (hXlt k (.inl hk))⟩ <;> (rw [← hw1]; rfl)
      · intro B o hB
        by_cases e1 : B = D
        · subst e1; simp only [if_pos] at hB; cases hB; exact hD1
        · by_cases e2 : B = D + 1
          · subst e2; simp only [if_neg e1, if_pos] at hB; cases hB; exact hL1
          · simp only [if_neg e1, if_neg e2] at hB
            rw [hlow B (hheldlt B o hB)]
            exact h.held B o hB
      · intro D' hD'
        have hh := h.mkh D' hD'
        have := hheldlt D' _ hh
        show (if D' = D then _ else if D' = D + 1 then _ else X.held D') = _
        rw [if_neg (by omega), if_neg (by omega)]
        exact hh
      · intro B o hB
        by_cases e1 : B = D
        · subst e1; simp only [if_pos] at hB; cases hB; exact ⟨fun hO => absurd (hXlt _ (.inl hO)) (Nat.lt_irrefl _), rfl⟩
        · by_cases e2 : B = D + 1
          · subst e2; simp only [if_neg e1, if_pos] at hB; cases hB; exact ⟨fun hO => absurd (hXlt _ (.inl hO)) (by omega), rfl⟩
          · simp only [if_neg e1, if_neg e2] at hB
            exact h.hok B o hB
    have hheldL : X1.held (D + 1) = some (.loop (rec .ready)) := by rw [hX1]; simp
    have hheldD : X1.held D = some (.deferred (some [])) := by rw [hX1]; simp
    have hnt1 : X1.nt = X.nt := by rw [hX1]
    have hat_y : g1.at_ s.nx = some (D + 1) := by rw [hg1]; simp
    -- a round
    have hround : YOk P (calleeFix X1 w1 g1 (s.nx + 1) fn.ntmps) (roundK C n s.tm s.nx ps.toList asg bd) := by
      intro y args s' nm' e' he' Yi hle wi ai gi L vs hsi hyL hargs hkn hnn
      unfold roundK at he'
      have hcc := (chk_some he').1
      replace he' := (chk_some he').2
      simp only [Bool.and_eq_true, Nat.beq_eq] at hcc
      obtain ⟨rfl, hlen⟩ := hcc
      have hxi := hsi.ext
      rw [hle.w0, hle.gb, hle.U0] at hxi
      have hxi : GExt w1 wi g1 gi (Lt (s.nx + 1)) := hxi
      have hLe : L = D + 1 := by
        have := hxi.at_ s.nx (Nat.lt_succ_self _)
        rw [hyL, hat_y] at this
        exact Option.some.inj this
      subst hLe
      have hYL : Yi.held (D + 1) = some (.loop (rec .ready)) := hle.held _ _ hheldL
      obtain ⟨hLo, _⟩ := hsi.hok _ _ hYL
      have hwL := hsi.held _ _ hYL
      have hvl : vs.length = args.length := hargs.length.symm
      have hy := run_yield (P := P) (args := vs.toArray) hwL (by rw [hrec]; simp only [List.size_toArray]; rw [hvl, hlen]; simp)
      refine ⟨_, _, _, _, hy, fun ro => roundIn_of_wpIn trivial ?_⟩
      have ef : (rec .ready).params = ps ∧ (rec .ready).tmps = a.tmps ∧ (rec .ready).assign = asg ∧ (rec .ready).body = bd := by rw [hrec]; exact ⟨rfl, rfl, rfl, rfl⟩
      rw [ef.1, ef.2.1, ef.2.2.1, ef.2.2.2]
      -- the round's own state
      obtain ⟨Xr, hXr⟩ : ∃ Xr : Fix, Xr = ⟨wi, fun B => Yi.old B ∧ B ≠ D + 1, fun k => if k = D + 1 then some (.loop (rec .ready)) else none, gi, Lt nm', X.nt, []⟩ := ⟨_, rfl⟩
      have hnle : ∀ b, Lt s.nx b → Lt nm' b := fun b hb => by
        have := hsi.u0 b (by rw [hle.U0]; show b < s.nx + 1; have hb' : b < s.nx := hb; omega)
        exact this
      have hrold : ∀ k, Xr.old k → Yi.old k := by
        rw [hXr]
        rintro k (hk | ⟨o, hk⟩)
        · exact hk.1
        · by_cases e : k = D + 1
          · subst e; exact .inr ⟨_, hYL⟩
          · simp only [if_neg e] at hk; cases hk
      have hr0 : Sim Xr (Lt nm') ⟨s.tm, s'.bl, s'.fz, nm'⟩ { tmps := a.tmps, defers := [] } wi gi := by
        have hxo : GExt w wi g gi (Lt s.nx) := hext.trans hxi fun b hb => by have hb' : b < s.nx := hb; show b < s.nx + 1; omega
        have := hrold
        subst hXr
        refine ⟨fun t => (h.tmps t).ext hxo (h.nmT t), h.size, rfl, hsi.blk, hsi.unp, hsi.unf, hsi.inj, fun b x B hbx hB hO => hsi.new b x B hbx hB (this B hO), fun _ _ _ => Iff.rfl, hsi.plt, fun B hB => hsi.blt B (this B hB), Unt.refl _ _, fun t b hb => hnle b (h.nmT t b hb), hsi.nmB, hsi.nmK, fun _ hb => hb, ⟨fun _ _ hp => ⟨rfl, hp⟩, fun _ _ => rfl, fun _ _ => rfl, fun _ _ => rfl⟩, ?_, fun D' hD' => by simp at hD', List.nodup_nil, ?_⟩
        · intro k o hk
          by_cases e : k = D + 1
          · subst e; simp only [if_pos] at hk; cases hk; exact hwL
          · simp only [if_neg e] at hk; cases hk
        · intro k o hk
          by_cases e : k = D + 1
          · subst e; simp only [if_pos] at hk; cases hk; exact ⟨fun hh => hh.2 rfl, rfl⟩
          · simp only [if_neg e] at hk; cases hk
      have hrnt : Xr.nt = X.nt := by rw [hXr]
      have hr1 := putPs_sim ps.toList args vs _ _ wi gi (fun t ht => by rw [hrnt]; exact hps t ht) hargs hkn hnn hr0
      have hnoYr : ∀ Y, YOk P Y C.callY := fun Y => by rw [hnoY]; exact noY_ok
      have htm : (ps.zip vs.toArray).foldl (fun tmps (p : Tmp × Value) => tmps.setIfInBounds p.1 p.2) a.tmps = (ps.toList.zip vs).foldl (fun tm p => tm.setIfInBounds p.1 p.2) a.tmps := foldl_zip ps vs a.tmps
      have hgo : asg.wpIn (fw (some (D + 1))) 0 P (Exit.then (fun a₁ w₁ => ∃ w₂, (Instr.beginRound (D + 1)).run P w₁ = .ok () w₂ ∧ bd.wpIn (fw (some (D + 1))) 0 P (roundPost P (D + 1) (Answers Yi (Lt nm') s' ai nm' e')) a₁ w₂) (fun _ _ _ => False)) { tmps := (ps.toList.zip vs).foldl (fun tm p => tm.setIfInBounds p.1 p.2) a.tmps, defers := [] } wi := by
        refine code_ok (R := noR) (H := []) (U := Lt nm') (fun _ _ => norm_nil) n noR_ok asg Xr _ _ _ _ wi gi (by rw [hXr]) (hnoYr _) (by rw [hrnt]; exact hasg) hr1 he' ⟨?_, ?_, ?_⟩
        · intro Y2 hl2 s2 a2 w2 g2 hs2 he2
          have hbusy : Y2.held (D + 1) = some (.loop (rec .ready)) := hl2.held _ _ (by rw [hXr]; simp)
          have hmk2 : ∀ D' ∈ Y2.mks, Y2.held D' = some (.deferred (some [])) ∧ D' ≠ D + 1 := fun D' hD' => by
            have hh := hs2.mkh D' hD'
            exact ⟨hh, by rintro rfl; rw [hbusy] at hh; cases hh⟩
          have hb2 := run_beginRound (P := P) (hs2.held _ _ hbusy) (by rw [hrec])
          refine ⟨_, hb2, ?_⟩
          have hs3 := hs2.reHeld hbusy (o' := .loop { rec .ready with state := .busy }) rfl hmk2 hs2.mkn
          have hd2 : ({ tmps := a2.tmps, defers := Y2.mks.map markOf } : Act) = a2 := by rw [← hs2.dfr]
          rw [hd2] at hs3
          have hnt2 : Y2.nt = X.nt := hl2.nt.trans hrnt
          refine code_ok (R := noR) (H := []) (U := Lt nm') (fun _ _ => norm_nil) n noR_ok bd (Y2.put (D + 1) _ Y2.mks) _ _ _ a2 _ g2 (by show Y2.U0 = _; rw [hl2.U0, hXr]) (hnoYr _) (by show CodeOk P C Y2.nt bd; rw [hnt2]; exact hbd) hs3 he2 ⟨?_, ?_, ?_⟩
          · intro Y4 hl4 s4 a4 w4 g4 hs4 he4
            have hbusy4 : Y4.held (D + 1) = some (.loop { rec .ready with state := .busy }) := hl4.held _ _ (by simp [Fix.put])
            have hmk4 : ∀ D' ∈ Y4.mks, Y4.held D' = some (.deferred (some [])) ∧ D' ≠ D + 1 := fun D' hD' => by
              have hh := hs4.mkh D' hD'
              exact ⟨hh, by rintro rfl; rw [hbusy4] at hh; cases hh⟩
            have he5 := run_endRound (P := P) none (hs4.held _ _ hbusy4)
            refine ⟨_, _, he5, ?_⟩
            have hrr : ({ ({ rec .ready with state := .busy } : Loop) with state := if (none : Option Code).isNone then .ready else .done, pending := none } : Loop) = rec .ready := by rw [hrec]; rfl
            rw [hrr]
            have hs5 := hs4.reHeld hbusy4 (o' := .loop (rec .ready)) rfl hmk4 hs4.mkn
            -- back in the iterating function's state
            have e0 : (Y4.put (D + 1) (.loop (rec .ready)) Y4.mks).old0 = fun B => Yi.old B ∧ B ≠ D + 1 := by
              show Y4.old0 = _
              rw [hl4.old0]
              show Y2.old0 = _
              rw [hl2.old0, hXr]
            have ew : Y4.w0 = wi := by rw [hl4.w0]; show Y2.w0 = _; rw [hl2.w0, hXr]
            have eg : Y4.gb = gi := by rw [hl4.gb]; show Y2.gb = _; rw [hl2.gb, hXr]
            have eU : Y4.U0 = Lt nm' := by rw [hl4.U0]; show Y2.U0 = _; rw [hl2.U0, hXr]
            have hx5 := hs5.ext
            have hx5 : GExt Y4.w0 _ Y4.gb g4 Y4.U0 := hx5
            rw [ew, eg, eU] at hx5
            have hu5 := hs5.below
            rw [e0] at hu5
            have hu5 : Unt (fun B => Yi.old B ∧ B ≠ D + 1) Y4.w0 _ := hu5
            rw [ew] at hu5
            refine closeG hC.hF hsi hs5 (v := .bool true) (u := .bool true) rfl ?_ hx5 ⟨hu5.os, hu5.tape, hu5.output, hu5.size, ?_⟩ ?_ he4
            · intro B hB
              by_cases e : B = D + 1
              · subst e; exact .inr ⟨_, by simp [Fix.put]; rfl⟩
              · exact .inl (by rw [e0]; exact ⟨hB, e⟩)
            · intro B hB
              by_cases e : B = D + 1
              · subst e
                rw [hwL]
                exact hs5.held _ _ (by simp [Fix.put])
              · exact hu5.block B ⟨hB, e⟩
            · intro B o hB
              have hne : B ≠ D + 1 := by rintro rfl; exact hLo hB
              have := hs5.prot0 B o (by rw [e0]; exact ⟨.inl hB, hne⟩)
              have : g4.prot B o ↔ Y4.gb.prot B o := this
              rw [eg] at this
              exact this
          · intro Y4 _ j s4 a4 w4 g4 _ he4; cases he4
          · intro Y4 _ s4 a4 w4 g4 _ he4; cases he4
        · intro Y2 _ j s2 a2 w2 g2 _ he2; cases he2
        · intro Y2 _ s2 a2 w2 g2 _ he2; cases he2
      have hgo' := hgo
      rw [← htm] at hgo'
      exact hgo'
    -- the call
    have hargs : RepL (Rep w1 g1) (.yld s.nx :: caps) (.func (.yield (D + 1)) #[] #[] :: cv) := by
      refine ⟨⟨D + 1, hat_y, rfl⟩, ?_⟩
      refine hcv.imp fun c hc v hr => ?_
      refine Rep.ext hext (fun b hb => hcapn b ?_) (rep0_rep hr)
      have hcp := List.all_eq_true.1 hcap c hc
      exact mem_namesL2 hc (by cases c <;> first | exact hb | simp [capOk] at hcp)
    have hkn : (AV.yld s.nx :: caps).all known = true := by
      simp only [List.all_cons, Bool.and_eq_true]
      refine ⟨rfl, List.all_eq_true.2 fun c hc => ?_⟩
      have := List.all_eq_true.1 hcap c hc
      cases c <;> first | rfl | simp [capOk] at this
    have hnn : ∀ b ∈ namesL2 (.yld s.nx :: caps), Lt (s.nx + 1) b := by
      intro b hb
      simp only [namesL2, names2, names1, names0, List.mem_append, List.mem_singleton] at hb
      rcases hb with rfl | hb
      · exact Nat.lt_succ_self _
      · have := hcapn b hb
        show b < s.nx + 1
        omega
    have hC1 := hcall X1 a w1 g1 _ h1 hargs hkn hnn hround
    refine ⟨D + 1, [{ target := .collected D, args := #[] }], w1, { target := .fn (.func f) cv.toArray, args := #[.func (.yield (D + 1)) #[] #[]] }, w1, f, (.func (.yield (D + 1)) #[] #[] :: cv).toArray, w1, ?_, ?_, fun _ _ => trivial, ?_, (fun hh => by cases hh), ?_⟩
    · have := run_enterLoop_outer (P := P) (w := w) fid a.tmps ps asg bd
      rw [← hD] at this
      rw [← hw1, hrec]
      exact this
    · simp only [resolve, hqv]
      simp [Deferred.ofValue, Act.eval, Sem.run_pure]
    · have hen := run_callFunc_enter (P := P) (w := w1) hf hname hb (.func (.yield (D + 1)) #[] #[] :: cv).toArray
      have e1 : #[Value.func (.yield (D + 1)) #[] #[]] ++ cv.toArray = (.func (.yield (D + 1)) #[] #[] :: cv).toArray := by
        apply Array.ext'
        simp
      simp only [invoke]
      rw [e1]
      exact hen
    · refine (callsIn_fw hC1).mono fun en w' hen => ?_
      cases en with
      | panicked chain => exact hen.elim
      | outgrown => exact hen.elim
      | returned u =>
        obtain ⟨g', _, _, k3⟩ := hen
        have hend := run_endLoop (P := P) (k3.held _ _ hheldL) (by rw [hrec]; simp)
        have hpend : (rec .ready).pending = none := by rw [hrec]
        have hend2 : (Instr.endLoop (D + 1)).run P w' = .ok none (w'.putObj (D + 1) (.loop { rec .ready with state := .exhausted })) := hend.trans (congrArg (fun q => Result.ok q _) hpend)
        refine ⟨none, _, hend2, ?_⟩
        have hnD : X.held D = none := by
          cases hx : X.held D with
          | none => rfl
          | some o => exact absurd (hheldlt D o hx) (Nat.lt_irrefl _)
        have hmks : X1.mks = X.mks := by rw [hX1]
        have hdfr : a.defers = X.mks.map markOf := h.dfr
        have hDm : D ∉ X.mks := fun hm => by
          have := h.mkh D hm
          rw [hnD] at this
          cases this
        have h4 := k3.reHeld hheldL (o' := .loop { rec .ready with state := .exhausted }) rfl (ms := D :: X.mks) (fun D' hD' => by
          rcases List.mem_cons.1 hD' with rfl | hD'
          · exact ⟨hheldD, by omega⟩
          · have hh := h.mkh D' hD'
            have hlt := hheldlt D' _ hh
            refine ⟨?_, by omega⟩
            rw [hX1]
            show (if D' = D then _ else if D' = D + 1 then _ else X.held D') = _
            rw [if_neg (by omega), if_neg (by omega)]
            exact hh) (List.nodup_cons.2 ⟨hDm, h.mkn⟩)
        have hact : ({ tmps := a.tmps, defers := (D :: X.mks).map markOf } : Act) = { a with defers := [{ target := .collected D, args := #[] }] ++ a.defers } := by
          rw [hdfr]
          rfl
        rw [hact] at h4
        refine hk _ ?_ _ _ _ _ (Sim.at_nx (h4.more fun b hb => ?_) _) he
        · refine ⟨?_, ?_, ?_, ?_, ?_, fun B o hB => ?_, fun D' hD' => ?_⟩
          · show X1.w0 = _; rw [hX1]
          · show X1.old0 = _; rw [hX1]
          · show X1.gb = _; rw [hX1]
          · show X1.U0 = _; rw [hX1]
          · exact hnt1
          · have hlt := hheldlt B o hB
            show (if B = D + 1 then _ else X1.held B) = _
            rw [if_neg (by omega), hX1]
            show (if B = D then _ else if B = D + 1 then _ else X.held B) = _
            rw [if_neg (by omega), if_neg (by omega)]
            exact hB
          · rcases List.mem_cons.1 hD' with rfl | hD'
            · exact .inr hnD
            · exact .inl hD'
        · show b < s.nx + 9
          rcases hb with hb | ⟨_, hb⟩
          · have hb' : b < s.nx + 1 := hb; omega
          · omega
/-! ### Functions' contracts -/
theorem fn_ok {C : Cx} (hC : CxOk P C) (hno : C.callY = noY) {H : List (Nat × List Keep)} (hN : NormalOk H) {n f : Nat} {fn : Func} (hf : P.funcs[f]? = some fn) (hcode : ∀ c, fn.body = some c → CodeOk P C fn.ntmps c) {args : List AV} {r : AV × List Blk} (he : evBody C H n fn args = some (true, r)) : fn.body.isSome = true ∧ FnOK P f args r := by
  unfold evBody at he
  split at he
  case h_2 => cases he
  case h_1 c hb =>
    refine ⟨by rw [hb]; rfl, ?_⟩
    obtain ⟨hlen, he⟩ := chk_some he
    have hlen : args.length ≤ fn.ntmps := by simpa using hlen
    intro w pr vs hpr hargs hk hno'
    have hsim := args_sim hlen hpr hargs hk hno'
    refine (callsIn_wide (n := 0)).1 (callsIn_of_wp_marks (F := fw none) hf hb trivial (code_ok (U := fun _ => False) (fun X hX => hN X fun b hb => by rw [hX] at hb; exact hb) n (rfH_ok hC n) c _ _ _ _ _ _ _ rfl (by rw [hno]; exact noY_ok) (hcode c hb) hsim he ⟨?_, ?_, ?_⟩))
    · intro Y hl s a w' g h he'
      refine leave_of rfl hl h fun Z w2 g2 hf2 h2 => ?_
      obtain ⟨u, h1, gR, h3⟩ := close_ok hC h2 (by rw [hf2.old0, hf2.w0]) (by unfold Fix.p0; rw [hf2.gb, hf2.w0]; exact hpr) he'
      unfold Fix.p0 at h3
      rw [hf2.gb, hf2.w0] at h3
      exact ⟨u, h1, gR, h3⟩
    · intro Y hl j s a w' g h he'
      cases he'
    · intro Y hl s a w' g h he'
      refine leave_of rfl hl h fun Z w2 g2 hf2 h2 => ?_
      obtain ⟨u, h1, gR, h3⟩ := close_ok hC h2 (by rw [hf2.old0, hf2.w0]) (by unfold Fix.p0; rw [hf2.gb, hf2.w0]; exact hpr) he'
      unfold Fix.p0 at h3
      rw [hf2.gb, hf2.w0] at h3
      exact ⟨u, h1, gR, h3⟩
theorem fnS_ok {C : Cx} (hC : CxOk P C) {n f : Nat} {fn : Func} (hf : P.funcs[f]? = some fn) (hcode : ∀ c, fn.body = some c → CodeOk P C fn.ntmps c) {args : List AV} {s : Sx} {nm : Nat} {e : Eff} (he : evBodyS C n fn args s nm = some e) : fn.body.isSome = true ∧ ∀ (X : Fix) (a : Act) (w : World) (g : Gh) (vs : List Value), Sim X (Lt nm) s a w g → RepL (Rep w g) args vs → args.all known = true → (∀ b ∈ namesL2 args, Lt nm b) → YOk P (calleeFix X w g nm fn.ntmps) C.callY →
    Calls P f vs.toArray w (Answers X (Lt nm) s a nm e) := by
  unfold evBodyS at he
  split at he
  case h_2 => cases he
  case h_1 c hb =>
    refine ⟨by rw [hb]; rfl, ?_⟩
    obtain ⟨hlen, he⟩ := chk_some he
    have hlen : args.length ≤ fn.ntmps := by simpa using hlen
    simp only [seqS] at he
    intro X a w g vs h hargs hk hno hY
    have hsim := args_simS h hlen hargs hk hno
    refine (callsIn_wide (n := 0)).1 (callsIn_of_wp_marks (F := fw none) hf hb trivial (code_ok (U := Lt nm) (fun _ _ => norm_nil) n (rfH_ok hC n) c _ _ _ _ _ _ _ rfl hY (hcode c hb) hsim he ⟨?_, ?_, ?_⟩))
    · intro Y hl s2 a2 w2 g2 h2 he'
      refine leave_of rfl hl h2 fun Z w3 g3 hf3 h3 => ?_
      obtain ⟨u, k1, k2⟩ := closeS_ok hC h hf3 h3 he'
      exact ⟨u, k1, k2⟩
    · intro Y hl j s2 a2 w2 g2 h2 he'
      cases he'
    · intro Y hl s2 a2 w2 g2 h2 he'
      refine leave_of rfl hl h2 fun Z w3 g3 hf3 h3 => ?_
      obtain ⟨u, k1, k2⟩ := closeS_ok hC h hf3 h3 he'
      exact ⟨u, k1, k2⟩
end
/-- What is needed of an environment. -/
structure EnvOk (P : Program) (G : Env) : Prop where
  T : TabOk P G.T
  F : ∀ f fn, get G.F f = some fn → P.funcs[f]? = some fn ∧ fn.name ≠ "runtime.NumGoroutine"
  code : ∀ f fn c, get G.F f = some fn → fn.body = some c → ∀ C, C.T = G.T → CxOk P C → CodeOk P C fn.ntmps c
  norm : ∀ H, NormalOk H
theorem CxOk.setY {P : Program} {C : Cx} (h : CxOk P C) (rnd : Option Rnd) : CxOk P (C.setY rnd) := ⟨h.hF, h.hT, h.call, h.callS, fun hh => by
  cases rnd with
  | none => rfl
  | some r => cases hh⟩
theorem CxOk.setP {P : Program} {C : Cx} (h : CxOk P C) (p : Nat → Bool) : CxOk P (C.setP p) := ⟨h.hF, h.hT, h.call, h.callS, h.hasY⟩
theorem env_cx {P : Program} {G : Env} (hG : EnvOk P G) {F : Frc} (hF : F.Law) : ∀ n, CxOk P (G.cx F n)
  | 0 => ⟨hF, hG.T, (by intro f args r h; cases h), (by intro f args s nm rnd e h; cases h), fun _ => rfl⟩
  | n + 1 => by
    have hC := env_cx hG hF n
    have hT : (G.cx F n).T = G.T := by cases n <;> rfl
    have hno : (G.cx F n).callY = noY := by cases n <;> rfl
    refine ⟨hF, hG.T, ?_, ?_, fun _ => rfl⟩
    · intro f args r h
      have h : (match get G.F f with | some fn => evBody ((G.cx F n).setP (popOf (hintsOf G.H f))) (hintsOf G.H f) n fn args | none => none) = some (true, r) := h
      split at h
      case h_2 => cases h
      case h_1 fn hfn =>
        obtain ⟨h1, h2⟩ := hG.F f fn hfn
        obtain ⟨h3, h4⟩ := fn_ok (hC.setP (popOf (hintsOf G.H f))) hno (hG.norm _) h1 (fun c hc => hG.code f fn c hfn hc _ hT (hC.setP _)) h
        exact ⟨fn, h1, h2, h3, h4⟩
    · intro f args s nm rnd e h
      have h : (match get G.F f with | some fn => evBodyS (((G.cx F n).setY rnd).setP (popOf (hintsOf G.H f))) n fn args s nm | none => none) = some e := h
      split at h
      case h_2 => cases h
      case h_1 fn hfn =>
        obtain ⟨h1, h2⟩ := hG.F f fn hfn
        obtain ⟨h3, h4⟩ := fnS_ok ((hC.setY rnd).setP (popOf (hintsOf G.H f))) h1 (fun c hc => hG.code f fn c hfn hc _ hT ((hC.setY rnd).setP _)) h
        exact ⟨fn, h1, h2, h3, h4⟩
theorem env_ok {P : Program} {G : Env} (hG : EnvOk P G) {F : Frc} (hF : F.Law) (n : Nat) : CallOk P (G.ev F n) := (env_cx hG hF n).call
end Go.Proofs.Ytcjhegiidnjepaa.Ev
