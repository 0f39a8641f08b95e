/- Functions: what they hand back. -/
import Derived.Test.YtdhgbgbdnifonaaEvN
namespace Go.Proofs.Ytdhgbgbdnifonaa.Ev
open Go.RowKit
set_option linter.unusedVariables false
set_option linter.unusedSimpArgs false

theorem idx_get : ∀ {l : List Nat} {n : Nat}, n ∈ l → l[idx l n]? = some n ∧ idx l n < l.length
  | [], n, h => by simp at h
  | a :: r, n, h => by
    simp only [idx]
    by_cases ha : a = n
    · subst ha
      simp
    · rw [(beq_ne ha : Nat.beq a n = false)]
      simp only [cond_false, List.getElem?_cons_succ, List.length_cons]
      have := idx_get (l := r) ((List.mem_cons.1 h).resolve_left (fun e => ha e.symm))
      exact ⟨this.1, by omega⟩
theorem distinct_inj : ∀ {l : List Nat}, distinct l = true → ∀ {i j n : Nat}, l[i]? = some n → l[j]? = some n → i = j
  | [], _, i, j, n, hi, _ => by simp at hi
  | a :: r, h, i, j, n, hi, hj => by
    simp only [distinct, Bool.and_eq_true, Bool.not_eq_true'] at h
    have hm : n ∈ r → n ≠ a := by
      rintro hr rfl
      rw [(memN_iff _ _).2 hr] at h
      exact absurd h.1 (by simp)
    cases i with
    | zero =>
      cases j with
      | zero => rfl
      | succ j =>
        simp only [List.getElem?_cons_zero, Option.some.injEq] at hi
        simp only [List.getElem?_cons_succ] at hj
        exact absurd hi.symm (hm (List.mem_of_getElem? hj))
    | succ i =>
      simp only [List.getElem?_cons_succ] at hi
      cases j with
      | zero =>
        simp only [List.getElem?_cons_zero, Option.some.injEq] at hj
        exact absurd hj.symm (hm (List.mem_of_getElem? hi))
      | succ j =>
        simp only [List.getElem?_cons_succ] at hj
        rw [distinct_inj h.2 hi hj]
theorem closed_inv {bl : Bls} {ns : List Nat} : ∀ {l : List Nat}, closed1 bl ns l = true → ∀ b ∈ l, ∃ x, get bl b = some x ∧ ∀ c ∈ blkNames x, c ∈ ns
  | [], _, b, hb => by simp at hb
  | a :: r, h, b, hb => by
    simp only [closed1] at h
    split at h
    case h_2 => cases h
    case h_1 x hx =>
      simp only [Bool.and_eq_true] at h
      rcases List.mem_cons.1 hb with rfl | hb
      · exact ⟨x, hx, fun c hc => (memN_iff _ _).1 (List.all_eq_true.1 h.1 c hc)⟩
      · exact closed_inv h.2 b hb
theorem pick_get {bl : Bls} {f : Nat → Nat} : ∀ {l : List Nat}, (∀ b ∈ l, ∃ x, get bl b = some x) → ∀ i : Nat, (pick1 bl f l)[i]? = (l[i]?).bind fun b => (get bl b).map fun x => (f b, blkRen f x)
  | [], _, i => by simp [pick1]
  | b :: r, h, i => by
    obtain ⟨x, hx⟩ := h b (by simp)
    simp only [pick1, hx]
    cases i with
    | zero => simp [hx]
    | succ i => simpa using pick_get (fun c hc => h c (by simp [hc])) i
theorem pick_len {bl : Bls} {f : Nat → Nat} : ∀ {l : List Nat}, (∀ b ∈ l, ∃ x, get bl b = some x) → (pick1 bl f l).length = l.length
  | [], _ => rfl
  | b :: r, h => by
    obtain ⟨x, hx⟩ := h b (by simp)
    simp only [pick1, hx, List.length_cons]
    rw [pick_len fun c hc => h c (by simp [hc])]
/-- The ghost with the names changed. -/
def Gh.pick (g : Gh) (ns : List Nat) (pr : Nat → Nat → Prop) : Gh := ⟨fun (i : Nat) => (ns[i]?).bind g.at_, fun (i : Nat) => ((ns[i]?).map g.len).getD 0, fun (i : Nat) => ((ns[i]?).map g.cap).getD 0, pr⟩
theorem pick_ren {w : World} {g : Gh} {ns : List Nat} : Ren w w g (g.pick ns g.prot) (idx ns) (· ∈ ns) :=
  ⟨fun _ _ h => ⟨rfl, h⟩, fun b hb => by simp [Gh.pick, (idx_get hb).1], fun b hb => by simp [Gh.pick, (idx_get hb).1], fun b hb => by simp [Gh.pick, (idx_get hb).1]⟩
section
variable {P : Program} {X : Fix} {s : Sx} {a : Act} {w : World} {g : Gh} {V : Vw}
theorem load_fit (hF : V.F.Law) (hT : TabOk P V.T) {t : Nat} {cs : List AV} {vs : List Value} {B off : Nat} {v : AV} (hr : RepL (Rep1 w g) cs vs) (hc : ∀ j v, vs[j]? = some v → w.cell? ⟨B, j, none⟩ = some v) (h : fit V t cs off (fun v => bif known v then some v else none) = some v) :
    known v = true ∧ ∃ u, (loadVar t ⟨B, off, none⟩).run P w = .ok u w ∧ Rep w g v u ∧ ∀ b ∈ names v, b ∈ namesL cs := by
  have kn : ∀ {c : AV}, (bif known c then some c else none) = some v → c = v ∧ known c = true := by
    intro c hc
    cases hk : known c
    · rw [hk] at hc; cases hc
    · rw [hk] at hc; exact ⟨Option.some.inj hc, rfl⟩
  obtain ⟨e, he, hl, h1 | h1⟩ := fit_inv hF h
  · obtain ⟨rfl, hk⟩ := kn h1.2
    have hr2 := RepL.take e.size (hr.drop off)
    have hlen : ((vs.drop off).take e.size).length = e.size := by
      rw [← hr2.length]
      simp
      omega
    have hl2 := run_loadCells_list (P := P) w ⟨B, off, none⟩ ((vs.drop off).take e.size) (fun j v hv => by
      rw [add_zero]
      refine hc _ v ?_
      rw [List.getElem?_take] at hv
      split at hv
      · simpa using hv
      · simp at hv)
    rw [hlen] at hl2
    refine ⟨hk, .agg ((vs.drop off).take e.size).toArray, ?_, rep_agg hr2, ?_⟩
    · unfold loadVar
      simp only [Sem.run_bind, (hT t e he).agg_run, h1.1, Result.andThen_ok, if_true, (hT t e he).size_run, hl2]
      rfl
    · intro b hb
      exact names_mem_drop (names_mem_take (by simpa [names, names2] using hb))
  · obtain ⟨ha, c, hcc, hk⟩ := h1
    obtain ⟨rfl, hk2⟩ := kn hk
    obtain ⟨u, hu, hcv⟩ := hr.get hcc
    refine ⟨hk2, u, ?_, (rep1_names hcv).1, ?_⟩
    · unfold loadVar
      simp [(hT t e he).agg_run, ha, hc off u hu]
    · intro b hb
      rw [(rep1_names hcv).2] at hb
      exact mem_namesL (List.mem_of_getElem? hcc) hb
def resV (a : Act) : ResultVar → Sem Value
  | .tmp t => pure (a.tmps.getD t undef)
  | .cell x t => do loadVar t (← asAddr (a.tmps.getD x undef))
theorem res_ok {C : Cx} (hC : CxOk P C) {U : Nat → Prop} (h : Sim X U s a w g) {x : ResultVar} {v : AV} (he : resOf C s x = some v) : known v = true ∧ ∃ u, (resV a x).run P w = .ok u w ∧ Rep w g v u ∧ ∀ b ∈ names v, U b := by
  unfold resOf at he
  split at he
  case h_1 t =>
    cases hk : known (look s.tm t)
    · rw [hk] at he; cases he
    · rw [hk] at he
      have := Option.some.inj he
      subst this
      exact ⟨hk, _, rfl, h.tmps t, h.nmT t⟩
  case h_2 x t =>
    have hx := h.tmps x
    split at he
    case h_2 => cases he
    case h_1 b off hb =>
      rw [hb] at hx
      obtain ⟨B, hB, hv⟩ := hx
      split at he
      case h_2 => cases he
      case h_1 cs hcs =>
        obtain ⟨B', vs, hB', hr, hc, hu⟩ := cells_at h hcs
        obtain rfl : B = B' := Option.some.inj (hB.symm.trans hB')
        obtain ⟨hk, u, k1, k2, k3⟩ := load_fit (P := P) (V := C.vw s 0) hC.hF hC.hT hr hc he
        refine ⟨hk, u, ?_, k2, fun b hb => hu b (k3 b hb)⟩
        simp [resV, hv, asAddr, k1]
theorem ress_ok {C : Cx} (hC : CxOk P C) {U : Nat → Prop} (h : Sim X U s a w g) : ∀ {xs : List ResultVar} {vs : List AV}, ress C s xs = some vs → ∃ us : List Value, (xs.mapM (resV a)).run P w = .ok us w ∧ RepL (Rep2 w g) vs us ∧ (∀ v ∈ vs, known v = true) ∧ ∀ v ∈ vs, ∀ b ∈ names v, U b
  | [], vs, he => by
    simp only [ress, Option.some.injEq] at he
    subst he
    exact ⟨[], by simp, by simp [RepL], by simp, by simp⟩
  | x :: xs, vs, he => by
    simp only [ress] at he
    split at he
    case h_2 => cases he
    case h_1 v l h1 h2 =>
      cases he
      obtain ⟨hk, u, k1, k2, k3⟩ := res_ok hC h h1
      obtain ⟨us, m1, m2, m3, m4⟩ := ress_ok hC h h2
      refine ⟨u :: us, by simp [List.mapM_cons, k1, m1], ?_, ?_, ?_⟩
      · simp only [RepL]
        rw [Rep_of (by rintro cs rfl; simp [known] at hk)] at k2
        exact ⟨k2, m2⟩
      · intro y hy
        rcases List.mem_cons.1 hy with rfl | hy
        · exact hk
        · exact m3 y hy
      · intro y hy
        rcases List.mem_cons.1 hy with rfl | hy
        · exact k3
        · exact m4 y hy
theorem results_eq (fn : Func) (a : Act) {us : List Value} (h : (fn.results.toList.mapM (resV a)).run P w = .ok us w) : (results fn a.tmps).run P w = .ok (if h : us.toArray.size = 1 then us.toArray[0] else .tuple us.toArray) w := by
  have e1 : fn.results.mapM (resV a) = List.toArray <$> fn.results.toList.mapM (resV a) := Array.mapM_eq_mapM_toList
  have e2 : results fn a.tmps = (do let vs ← fn.results.mapM (resV a); pure (if h : vs.size = 1 then vs[0] else .tuple vs)) := by
    unfold results
    congr 1
  rw [e2, e1]
  simp [h]
/-- What a function hands back. -/
theorem close_ok {C : Cx} (hC : CxOk P C) {U : Nat → Prop} (h : Sim X U s a w g) (hw : X.base = X.w0.heap.size) (hp : ∀ B o, X.p0 B o → B < X.w0.heap.size) {fn : Func} {r : AV × List Blk} (he : close C fn.results.toList s = some (true, r)) :
    ∃ u, (results fn a.tmps).run P w = .ok u w ∧ ∃ gR, Ret r X.p0 X.w0 w u gR := by
  unfold close at he
  split at he
  case h_2 => cases he
  case h_1 vs hvs =>
    obtain ⟨us, k1, k2, k3, k4⟩ := ress_ok hC h hvs
    refine ⟨_, results_eq fn a k1, ?_⟩
    have hone : Rep w g (oneOf vs) (if h : us.toArray.size = 1 then us.toArray[0] else .tuple us.toArray) ∧ ∀ b ∈ names (oneOf vs), U b := by
      have hlen := k2.length
      unfold oneOf
      split
      case h_1 v =>
        cases us with
        | nil => simp at hlen
        | cons u us =>
          cases us with
          | cons _ _ => simp at hlen
          | nil =>
            simp only [RepL] at k2
            have hk := k3 v (by simp)
            refine ⟨?_, k4 v (by simp)⟩
            rw [Rep_of (by rintro cs rfl; simp [known] at hk)]
            simpa using k2.1
      case h_2 hne =>
        have : us.length ≠ 1 := by
          intro hc
          rw [hc] at hlen
          match vs, hlen with
          | [v], _ => exact hne v rfl
        refine ⟨?_, ?_⟩
        · rw [dif_neg (by simpa using this)]
          exact ⟨us, rfl, k2⟩
        · intro b hb
          have key : ∀ l : List AV, (∀ v ∈ l, known v = true) → b ∈ namesL2 l → ∃ v ∈ l, b ∈ names v := by
            intro l hl hb
            induction l with
            | nil => simp [namesL2] at hb
            | cons v l ih =>
              simp only [namesL2, List.mem_append] at hb
              rcases hb with hb | hb
              · have hk := hl v (by simp)
                exact ⟨v, by simp, by cases v <;> first | exact hb | simp [known] at hk⟩
              · obtain ⟨x, hx, hb⟩ := ih (fun v hv => hl v (by simp [hv])) hb
                exact ⟨x, by simp [hx], hb⟩
          obtain ⟨v, hv, hb⟩ := key vs k3 hb
          exact k4 v hv b hb
    generalize (if h : us.toArray.size = 1 then us.toArray[0] else .tuple us.toArray) = u at hone
    generalize oneOf vs = v at hone he
    generalize reach s.bl 60 (names v) [] = ns at he
    unfold closeN at he
    obtain ⟨hc, he⟩ := chk_some he
    simp only [Bool.and_eq_true] at hc
    obtain ⟨⟨c1, c2⟩, c3⟩ := hc
    have c1 : ∀ b ∈ names v, b ∈ ns := fun b hb => (memN_iff _ _).1 (List.all_eq_true.1 c1 b hb)
    have hin := closed_inv c2
    have hex : ∀ b ∈ ns, ∃ x, get s.bl b = some x := fun b hb => let ⟨x, hx, _⟩ := hin b hb; ⟨x, hx⟩
    have := (Prod.mk.inj (Option.some.inj he)).2
    subst this
    clear he
    have hgetR : ∀ i y, ((pick1 s.bl (idx ns) ns).map (·.2))[i]? = some y → ∃ b x, ns[i]? = some b ∧ b ∈ ns ∧ idx ns b = i ∧ get s.bl b = some x ∧ y = blkRen (idx ns) x := by
      intro i y hy
      rw [List.getElem?_map, pick_get hex] at hy
      cases hb : ns[i]? with
      | none => rw [hb] at hy; simp at hy
      | some b =>
        have hbm : b ∈ ns := List.mem_of_getElem? hb
        obtain ⟨x, hx⟩ := hex b hbm
        rw [hb] at hy
        simp only [Option.bind_some, hx, Option.map_some, Option.some.injEq] at hy
        exact ⟨b, x, rfl, hbm, distinct_inj c3 (idx_get hbm).1 hb, hx, hy.symm⟩
    have hlenR : ((pick1 s.bl (idx ns) ns).map (·.2)).length = ns.length := by rw [List.length_map, pick_len hex]
    have hatI : ∀ {i b : Nat} {pr : Nat → Nat → Prop}, ns[i]? = some b → (g.pick ns pr).at_ i = g.at_ b := by
      intro i b pr hb
      simp [Gh.pick, hb]
    -- all but 'unp', with what is protected now
    have hren := pick_ren (w := w) (g := g) (ns := ns)
    have base : (∀ (i : Nat) (x : Blk) B o, ((pick1 s.bl (idx ns) ns).map (·.2))[i]? = some x → ((∃ cs, x = .box cs) ∨ (hasImm (Ev.ren (idx ns) v) || ((pick1 s.bl (idx ns) ns).map (·.2)).any blkImm) = false) → (g.pick ns g.prot).at_ i = some B → ¬ g.prot B o) → Ret (Ev.ren (idx ns) v, (pick1 s.bl (idx ns) ns).map (·.2)) X.p0 X.w0 w u (g.pick ns g.prot) := by
      intro hunp
      refine ⟨hw ▸ h.below, Rep.ren hren c1 hone.1, ?_, ?_, ?_, hunp, ?_, ?_, ?_, h.plt⟩
      · intro b hb
        rw [names_ren] at hb
        obtain ⟨c, hc, rfl⟩ := List.mem_map.1 hb
        rw [hlenR]
        exact (idx_get (c1 c hc)).2
      · intro i y hy
        obtain ⟨b, x, hb, hbm, hi, hx, rfl⟩ := hgetR i y hy
        rw [← hi]
        exact BlkRep.ren hren hbm (fun cs hxc c hc => by
          obtain ⟨x', hx', hcl⟩ := hin b hbm
          rw [hx] at hx'
          cases hx'
          subst hxc
          exact hcl c hc) (fun B hB => ⟨rfl, fun o ho => ho⟩) (h.blk b x hx)
      · intro i cs hy c hc
        obtain ⟨b, x, hb, hbm, hi, hx, hxr⟩ := hgetR i _ hy
        obtain ⟨x', hx', hcl⟩ := hin b hbm
        rw [hx] at hx'
        cases hx'
        cases x with
        | row q l => cases hxr
        | box cs' =>
          cases hxr
          rw [namesL_ren] at hc
          obtain ⟨d, hd, rfl⟩ := List.mem_map.1 hc
          rw [hlenR]
          exact (idx_get (hcl d hd)).2
      · intro i j x y B hx hy hB hC
        obtain ⟨b, x', hb, _, _, hbx, _⟩ := hgetR i x hx
        obtain ⟨c, y', hc, _, _, hcy, _⟩ := hgetR j y hy
        rw [hatI hb] at hB
        rw [hatI hc] at hC
        have := h.inj b c x' y' B hbx hcy hB hC
        subst this
        exact distinct_inj c3 hb hc
      · intro i x B hx hB
        obtain ⟨b, x', hb, _, _, hbx, _⟩ := hgetR i x hx
        rw [hatI hb] at hB
        rw [← hw]
        exact h.new b x' B hbx hB
      · intro B o hB
        rw [← hw] at hB
        exact h.prot0 B o hB
    cases him : hasImm (Ev.ren (idx ns) v) || ((pick1 s.bl (idx ns) ns).map (·.2)).any blkImm
    case true =>
      refine ⟨_, base fun i x B o hx hcond hB hpr => ?_⟩
      obtain ⟨b, x', hb, hbm, _, hbx, hxe⟩ := hgetR i x hx
      rw [hatI hb] at hB
      rcases hcond with ⟨cs, rfl⟩ | hc
      · cases x' with
        | box cs' => exact h.unp b cs' B o hbx hB hpr
        | row q l => cases hxe
      · rw [him] at hc; cases hc
    case false =>
      simp only [Bool.or_eq_false_iff] at him
      obtain ⟨i1, i2⟩ := him
      -- nothing that is handed back tells a list: what was protected since the begin may go
      have i2' : ∀ x ∈ (pick1 s.bl (idx ns) ns).map (·.2), blkImm x = false := by
        simpa only [List.any_eq_false, Bool.not_eq_true] using i2
      refine ⟨g.pick ns X.p0, hw ▸ h.below, ?_, ?_, ?_, ?_, ?_, ?_, ?_, fun _ _ _ => Iff.rfl, fun B o hpr => Nat.lt_of_lt_of_le (hp B o hpr) (hw ▸ h.below.size)⟩
      · exact Rep.free (w := w) (g := g.pick ns g.prot) (g' := g.pick ns X.p0) (fun _ => rfl) (fun _ => rfl) (fun _ => rfl) i1 (Rep.ren hren c1 hone.1)
      · intro b hb
        rw [names_ren] at hb
        obtain ⟨c, hc, rfl⟩ := List.mem_map.1 hb
        rw [hlenR]
        exact (idx_get (c1 c hc)).2
      · intro i y hy
        have hyi := i2' y (List.mem_of_getElem? hy)
        obtain ⟨b, x, hb, hbm, hi, hx, rfl⟩ := hgetR i y hy
        refine BlkRep.free (w := w) (g := g.pick ns g.prot) (g' := g.pick ns X.p0) (fun _ => rfl) (fun _ => rfl) (fun _ => rfl) hyi (fun B hB o hpr => ?_) ?_
        · rw [hatI hb] at hB
          have h1 := h.new b x B hx hB
          have h2 := hp B o hpr
          rw [hw] at h1
          omega
        · rw [← hi]
          exact BlkRep.ren hren hbm (fun cs hxc c hc => by
            obtain ⟨x', hx', hcl⟩ := hin b hbm
            rw [hx] at hx'
            cases hx'
            subst hxc
            exact hcl c hc) (fun B hB => ⟨rfl, fun o ho => ho⟩) (h.blk b x hx)
      · intro i cs hy c hc
        obtain ⟨b, x, hb, hbm, hi, hx, hxr⟩ := hgetR i _ hy
        obtain ⟨x', hx', hcl⟩ := hin b hbm
        rw [hx] at hx'
        cases hx'
        cases x with
        | row q l => cases hxr
        | box cs' =>
          cases hxr
          rw [namesL_ren] at hc
          obtain ⟨d, hd, rfl⟩ := List.mem_map.1 hc
          rw [hlenR]
          exact (idx_get (hcl d hd)).2
      · intro i x B o hx _ hB hpr
        obtain ⟨b, x', hb, hbm, _, hbx, _⟩ := hgetR i x hx
        rw [hatI hb] at hB
        have h1 := h.new b x' B hbx hB
        have h2 := hp B o hpr
        rw [hw] at h1
        omega
      · intro i j x y B hx hy hB hC
        obtain ⟨b, x', hb, _, _, hbx, _⟩ := hgetR i x hx
        obtain ⟨c, y', hc, _, _, hcy, _⟩ := hgetR j y hy
        rw [hatI hb] at hB
        rw [hatI hc] at hC
        have := h.inj b c x' y' B hbx hcy hB hC
        subst this
        exact distinct_inj c3 hb hc
      · intro i x B hx hB
        obtain ⟨b, x', hb, _, _, hbx, _⟩ := hgetR i x hx
        rw [hatI hb] at hB
        rw [← hw]
        exact h.new b x' B hbx hB
end

/-! ### Functions -/
theorem look_args : ∀ (args : List AV) (n : Nat) (t : Tr) (m : Nat), (n ≤ m ∧ ∃ v, args[m - n]? = some v ∧ look (args0 n args t) m = v) ∨ look (args0 n args t) m = look t m ∨ look (args0 n args t) m = .undef
  | [], n, t, m => .inr (.inl rfl)
  | v :: r, n, t, m => by
    simp only [args0]
    rcases look_args r (n + 1) (putT t n v) m with ⟨h1, u, h2, h3⟩ | h | h
    · refine .inl ⟨by omega, u, ?_, h3⟩
      rw [show m - n = (m - (n + 1)) + 1 by omega, List.getElem?_cons_succ]
      exact h2
    · rcases look_put t n v m with ⟨h1, h2⟩ | ⟨h1, h2⟩ | h2
      · subst h1
        exact .inl ⟨Nat.le_refl _, v, by simp, h.trans h2⟩
      · exact .inr (.inl (h.trans h2))
      · exact .inr (.inr (h.trans h2))
    · exact .inr (.inr h)
theorem look_nil (m : Nat) : look .nil m = .undef := tr_nil 12 m
theorem args_sim {fn : Func} {args : List AV} {w : World} {pr : Nat → Nat → Prop} {vs : List Value} (hlen : args.length ≤ fn.ntmps) (hpr : ∀ B o, pr B o → B < w.heap.size) (hargs : RepL (Rep w (g0 pr)) args vs) (hk : args.all known = true) (hno : namesL2 args = []) :
    Sim ⟨w, w.heap.size, pr, fn.ntmps⟩ (Lt 0) ⟨args0 0 args .nil, [], [], 0⟩ { tmps := vs.toArray ++ Array.replicate (fn.ntmps - vs.toArray.size) undef, defers := [] } w (g0 pr) := by
  have hvl : args.length = vs.length := hargs.length
  have hsz : (vs.toArray ++ Array.replicate (fn.ntmps - vs.toArray.size) undef).size = fn.ntmps := by
    simp
    omega
  have hl : ∀ t, (∃ v, args[t]? = some v ∧ look (args0 0 args .nil) t = v) ∨ look (args0 0 args .nil) t = .undef := by
    intro t
    rcases look_args args 0 .nil t with ⟨_, v, h1, h2⟩ | h | h
    · exact .inl ⟨v, by simpa using h1, h2⟩
    · exact .inr (h.trans (look_nil t))
    · exact .inr h
  refine ⟨fun t => ?_, hsz, rfl, fun b x hb => by simp [get] at hb, fun b cs B o hb => by simp [get] at hb, fun b r l B o hb => by simp [get] at hb, fun b c x y B hb => by simp [get] at hb, fun b x B hb => by simp [get] at hb, fun _ _ _ => Iff.rfl, hpr, Nat.le_refl _, Below.refl _ _, fun t b hb => ?_, fun b cs hb => by simp [get] at hb, fun b x hb => by simp [get] at hb⟩
  · rcases hl t with ⟨v, h1, h2⟩ | h
    · show Rep w (g0 pr) (look (args0 0 args .nil) t) _
      rw [h2]
      obtain ⟨u, hu, hr⟩ := hargs.get h1
      have hut : t < vs.length := (List.getElem?_eq_some_iff.1 hu).1
      have : (vs.toArray ++ Array.replicate (fn.ntmps - vs.toArray.size) undef).getD t undef = u := by
        rw [Array.getD_eq_getD_getElem?, Array.getElem?_append_left (by simpa using hut)]
        simp [hu]
      rw [this]
      exact hr
    · show Rep w (g0 pr) (look (args0 0 args .nil) t) _
      rw [h]
      trivial
  · have hb' : b ∈ names (look (args0 0 args .nil) t) := hb
    rcases hl t with ⟨v, h1, h2⟩ | h
    · rw [h2] at hb'
      have hv : v ∈ args := List.mem_of_getElem? h1
      exact (names_nil hno v hv (List.all_eq_true.1 hk v hv) b hb').elim
    · rw [h] at hb'
      simp [names, names2, names1, names0] at hb'
theorem fn_ok {P : Program} {C : Cx} (hC : CxOk P C) {H : List (Nat × List Keep)} (hN : NormalOk H) {n f : Nat} {fn : Func} (hf : P.funcs[f]? = some fn) (hcode : ∀ c, fn.body = some c → CodeOk P C fn.ntmps c) {args : List AV} {r : AV × List Blk} (he : evBody C H n fn args = some (true, r)) : fn.body.isSome = true ∧ FnOK P f args r := by
  unfold evBody at he
  split at he
  case h_2 => cases he
  case h_1 c hb =>
    refine ⟨by rw [hb]; rfl, ?_⟩
    obtain ⟨hlen, he⟩ := chk_some he
    have hlen : args.length ≤ fn.ntmps := by simpa using hlen
    intro w pr vs hpr hargs hk hno
    have hsim := args_sim hlen hpr hargs hk hno
    refine calls_of_wp hf hb (code_ok (X := ⟨w, w.heap.size, pr, fn.ntmps⟩) hN n c _ _ _ _ _ _ (hcode c hb) hsim he ⟨?_, ?_, ?_⟩)
    · intro s a w' g h he'
      obtain ⟨u, h1, gR, h2⟩ := close_ok hC h rfl hpr he'
      exact ⟨h.dfr, u, h1, gR, h2⟩
    · intro j s a w' g h he'
      cases he'
    · intro s a w' g h he'
      obtain ⟨u, h1, gR, h2⟩ := close_ok hC h rfl hpr he'
      exact ⟨h.dfr, u, h1, gR, h2⟩
/-- What is needed of an environment. -/
structure EnvOk (P : Program) (G : Env) : Prop where
  T : TabOk P G.T
  F : ∀ f fn, get G.F f = some fn → P.funcs[f]? = some fn ∧ fn.name ≠ "runtime.NumGoroutine"
  code : ∀ f fn c, get G.F f = some fn → fn.body = some c → ∀ C, C.T = G.T → CxOk P C → CodeOk P C fn.ntmps c
  norm : ∀ H, NormalOk H
theorem env_ok {P : Program} {G : Env} (hG : EnvOk P G) {F : Frc} (hF : F.Law) : ∀ n, CallOk P (G.ev F n)
  | 0 => by intro f args r h; cases h
  | n + 1 => by
    intro f args r h
    simp only [Env.ev] at h
    split at h
    case h_2 => cases h
    case h_1 fn hfn =>
      obtain ⟨h1, h2⟩ := hG.F f fn hfn
      have hC : CxOk P ⟨G.T, F, G.ev F n⟩ := ⟨hF, hG.T, env_ok hG hF n⟩
      obtain ⟨h3, h4⟩ := fn_ok hC (hG.norm _) h1 (fun c hc => hG.code f fn c hfn hc _ rfl hC) h
      exact ⟨fn, h1, h2, h3, h4⟩
end Go.Proofs.Ytdhgbgbdnifonaa.Ev
