/- Every operation; regions in the text's order. -/
import Derived.Test.YtcjhegiidnjepaaEvJ
namespace Go.Proofs.Ytcjhegiidnjepaa.Ev
open Go.RowKit
set_option linter.unusedVariables false
set_option linter.unusedSimpArgs false

section
variable {P : Program} {X : Fix} {U : Nat → Prop} {s : Sx} {a : Act} {w : World} {g : Gh} {e : Eff} {V : Vw}
theorem op_ok (h : Hyp P X U V s a w g) (hcall : CallOk P V.call) (hcs : CSok P X U s V w) (hys : YSok P X U s V w) {o : Oper} (hd : ∀ t, o.dst = some t → t < X.nt) (he : opK V o.op some = some e) : OpOk P X U o s a w V.nm e := by
  obtain ⟨dst, op, ty, pos, af, gd⟩ := o
  unfold opK at he
  cases op <;> simp only at he <;> (try (cases he; done))
  case move x => exact (oMove_ok h he).1.opOk h.sim hd
  case assign x => exact (oMove_ok h he).2.opOk h.sim hd
  case pick c x y => exact (oPick_ok h he).opOk h.sim hd
  case alloc t => exact oAlloc_ok h hd he
  case box t x => exact oBox_ok h hd he
  case build t ps => exact (oBuild_ok h he).opOk h.sim hd
  case buildSlice t len ps => exact oBuildSlice_ok h hd he
  case load t x => exact (oLoad_ok h he).opOk h.sim hd
  case store t x y => exact oStore_ok h hd he
  case nilCheck x => exact (oNilCheck_ok h he).opOk h.sim hd
  case binOp op t x y t2 => exact (bin_ok h he).opOk h.sim hd
  case unOp op t x => exact (un_ok h he).opOk h.sim hd
  case convert src d x => exact (oConvert_ok h he).opOk h.sim hd
  case extract x i => exact (oExtract_ok h he).opOk h.sim hd
  case fieldAddr t x f => exact (oFieldAddr_ok h he).opOk h.sim hd
  case field t x f => exact (oField_ok h he).opOk h.sim hd
  case indexAddr t x i => exact (oIndexAddr_ok h he).opOk h.sim hd
  case index t x i => exact (oIndex_ok h he).opOk h.sim hd
  case slice t x lo hi mx => exact oSlice_ok h hd he
  case makeFunc fn first caps => exact (oMakeFunc_ok h he).opOk h.sim hd
  case call c =>
    cases hc : c.callee with
    | value q => exact oCall_value h hcall hcs hys hd hc he
    | invoke r m => unfold oCall at he; rw [hc] at he; cases he
    | builtin b =>
      cases b
      case append => exact oCall_append h hd hc he
      case len => exact (oCall_len h hc he).opOk h.sim hd
      case max => exact (oCall_max h hc he).opOk h.sim hd
      case min => exact (oCall_min h hc he).opOk h.sim hd
      all_goals (unfold oCall at he; rw [hc] at he; cases he)
end

theorem opK_defer {β : Type} {V : Vw} {o : Op} {K : KE β} {r : β} (h : opK V o K = some r) : ∀ c, o ≠ .defer c := by
  rintro c rfl
  cases h
/-! ### Regions in the text's order -/
structure CxOk (P : Program) (C : Cx) : Prop where
  hF : C.F.Law
  hT : TabOk P C.T
  call : CallOk P C.call
  callS : CallSOk P C.callS
  hasY : C.hasY = false → C.callY = noY
theorem CxOk.at_ {P : Program} {C : Cx} (h : CxOk P C) (draw : Bool) (ops : List Oper) (i : Nat) : CxOk P (C.at_ draw ops i) := by
  refine ⟨h.hF, h.hT, h.call, ?_, ?_⟩
  · cases draw
    · exact h.callS
    · intro f args s nm rnd e he
      exact h.callS f args s nm rnd e (chk_some he).2
  · cases draw
    · exact h.hasY
    · intro hh
      have := h.hasY hh
      funext y args s nm
      show chk (pivot ops i) (C.callY y args s nm) = none
      rw [this]
      cases pivot ops i <;> rfl
theorem yok_at {P : Program} {X : Fix} {C : Cx} (h : YOk P X C.callY) (draw : Bool) (ops : List Oper) (i : Nat) : YOk P X (C.at_ draw ops i).callY := by
  cases draw
  · exact h
  · intro y args s nm e he
    exact h y args s nm e (chk_some he).2
theorem cs_of {P : Program} {X : Fix} {C : Cx} (hC : CxOk P C) {s : Sx} {w : World} {nm : Nat} : CSok P X (Lt nm) s (C.vw s nm) w := by
  intro f args zs e he
  obtain ⟨fn, h1, h2, h3, h4⟩ := hC.callS f args _ nm none e he
  exact ⟨fn, h1, h2, h3, fun a g vs hs hr hk hn => h4 X a w g vs hs hr hk hn noY_ok⟩
theorem ys_of {P : Program} {X : Fix} {C : Cx} (hY : YOk P X C.callY) {s : Sx} {w : World} {nm : Nat} : YSok P X (Lt nm) s (C.vw s nm) w :=
  fun y args zs e he => hY y args _ nm e he X (Fix.le.refl X) w
theorem hyp_of {P : Program} {X : Fix} {C : Cx} (hC : CxOk P C) {s : Sx} {a : Act} {w : World} {g : Gh} {nm : Nat} (h : Sim X (Lt nm) s a w g) : Hyp P X (Lt nm) (C.vw s nm) s a w g :=
  ⟨h, hC.hF, hC.hT, rfl, rfl, rfl, fun b h1 _ h2 => absurd h2 (Nat.not_lt.2 h1)⟩
theorem Sim.at_nx {X : Fix} {U : Nat → Prop} {s : Sx} {a : Act} {w : World} {g : Gh} (h : Sim X U s a w g) (n : Nat) : Sim X U ⟨s.tm, s.bl, s.fz, n⟩ a w g := ⟨h.tmps, h.size, h.dfr, h.blk, h.unp, h.unf, h.inj, h.new, h.prot0, h.plt, h.blt, h.below, h.nmT, h.nmB, h.nmK, h.u0, h.ext, h.held, h.mkh, h.mkn, h.hok⟩
/-- A condition's value is set to what it is. -/
theorem Sim.setBool {X : Fix} {U : Nat → Prop} {s : Sx} {a : Act} {w : World} {g : Gh} (h : Sim X U s a w g) {t : Nat} {b : Bool} (hb : look s.tm t = .bool b) : Sim X U (setBool s t b) a w g := by
  have hl : ∀ m, look (putT s.tm t (.bool b)) m = look s.tm m ∨ look (putT s.tm t (.bool b)) m = .undef := by
    intro m
    rcases look_put s.tm t (.bool b) m with ⟨h1, h2⟩ | ⟨h1, h2⟩ | h2
    · subst h1; exact .inl (h2.trans hb.symm)
    · exact .inl h2
    · exact .inr h2
  refine { h with tmps := fun m => ?_, nmT := fun m c hc => ?_ }
  · show Rep w g (look (putT s.tm t (.bool b)) m) _
    rcases hl m with h1 | h1
    · rw [h1]; exact h.tmps m
    · rw [h1]; trivial
  · have hc' : c ∈ names (look (putT s.tm t (.bool b)) m) := hc
    rcases hl m with h1 | h1
    · rw [h1] at hc'; exact h.nmT m c hc'
    · rw [h1] at hc'; simp [names, names2, names1, names0] at hc'
theorem dstOf_eq : ∀ (l : List Oper) (j : Nat), dstOf l j = (l[j]?).bind (·.dst)
  | [], j => by simp [dstOf]
  | o :: r, 0 => rfl
  | o :: r, j + 1 => by simp [dstOf, dstOf_eq r j]
/-- What the guard says. -/
def guardIs (all : List Oper) (o : Oper) (s : Sx) (b : Bool) (s' : Sx) : Prop :=
  (o.guard = none ∧ b = true ∧ s' = s) ∨ ∃ q t, o.guard = some q ∧ dstOf all q.1 = some t ∧ ((look s.tm t = .void ∧ b = false ∧ s' = s) ∨ ∃ c, look s.tm t = .bool c ∧ b = (c == q.2) ∧ s' = setBool s t c)
theorem guarded_inv {β : Type} {all : List Oper} {o : Oper} {s : Sx} {go skip : Sx → Option β} {r : β} (h : guarded all o s go skip = some r) :
    ∃ b s', guardIs all o s b s' ∧ (bif b then go s' else skip s') = some r := by
  unfold guarded at h
  split at h
  case h_1 hg => exact ⟨true, s, .inl ⟨hg, rfl, rfl⟩, h⟩
  case h_2 q hg =>
    split at h
    case h_2 => cases h
    case h_1 t ht =>
      split at h
      case h_3 => cases h
      case h_2 hv => exact ⟨false, s, .inr ⟨q, t, hg, ht, .inl ⟨hv, rfl, rfl⟩⟩, h⟩
      case h_1 c hc =>
        cases c
        · simp only [cond_false] at h
          cases hq : q.2 <;> rw [hq] at h
          · exact ⟨true, setBool s t false, .inr ⟨q, t, hg, ht, .inr ⟨false, hc, by rw [hq]; rfl, rfl⟩⟩, h⟩
          · exact ⟨false, setBool s t false, .inr ⟨q, t, hg, ht, .inr ⟨false, hc, by rw [hq]; rfl, rfl⟩⟩, h⟩
        · simp only [cond_true] at h
          cases hq : q.2 <;> rw [hq] at h
          · exact ⟨false, setBool s t true, .inr ⟨q, t, hg, ht, .inr ⟨true, hc, by rw [hq]; rfl, rfl⟩⟩, h⟩
          · exact ⟨true, setBool s t true, .inr ⟨q, t, hg, ht, .inr ⟨true, hc, by rw [hq]; rfl, rfl⟩⟩, h⟩
theorem tmps_get {X : Fix} {U : Nat → Prop} {s : Sx} {a : Act} {w : World} {g : Gh} (h : Sim X U s a w g) {t : Nat} {v : Value} (ht : t < X.nt) (hv : a.tmps.getD t undef = v) : a.tmps[t]? = some v := by
  rw [Array.getD_eq_getD_getElem?] at hv
  rw [Array.getElem?_eq_getElem (by rw [h.size]; exact ht)] at hv ⊢
  exact congrArg some hv
theorem guard_wanted {X : Fix} {U : Nat → Prop} {s s' : Sx} {a : Act} {w : World} {g : Gh} (h : Sim X U s a w g) {ops : Array Oper} (hdst : ∀ o ∈ ops.toList, ∀ t, o.dst = some t → t < X.nt) {o : Oper} {b : Bool} (hg : guardIs ops.toList o s b s') :
    Region.wanted o (yielded ops a.tmps) = b ∧ Sim X U s' a w g := by
  rcases hg with ⟨hg, rfl, rfl⟩ | ⟨q, t, hg, ht, hq⟩
  · exact ⟨by simp [Region.wanted, hg], h⟩
  · have ht' : (ops[q.1]?).bind (·.dst) = some t := by rw [dstOf_eq] at ht; simpa using ht
    have hlt : t < X.nt := by
      obtain ⟨o', ho', hd'⟩ := Option.bind_eq_some_iff.1 ht'
      exact hdst o' (Array.mem_toList_iff.2 (Array.mem_of_getElem? ho')) t hd'
    rcases hq with ⟨hv, rfl, rfl⟩ | ⟨c, hc, rfl, rfl⟩
    · have hr := h.tmps t
      rw [hv] at hr
      have hv' : a.tmps.getD t undef = undef := hr
      have hy : yielded ops a.tmps q.1 = none := by
        unfold yielded
        rw [ht']
        simp [tmps_get h hlt hv', undef]
      exact ⟨by simp [Region.wanted, hg, hy], h⟩
    · have hr := h.tmps t
      rw [hc, rep_bool] at hr
      have hy : yielded ops a.tmps q.1 = some c := by
        unfold yielded
        rw [ht']
        simp [tmps_get h hlt hr]
      exact ⟨by simp [Region.wanted, hg, hy], h.setBool hc⟩
theorem skip_sim {X : Fix} {U : Nat → Prop} {s : Sx} {a : Act} {w : World} {g : Gh} (h : Sim X U s a w g) {d : Option Nat} (hd : ∀ t, d = some t → t < X.nt) : Sim X U ⟨putD s.tm d .void, s.bl, s.fz, s.nx⟩ (a.put d undef) w g :=
  h.put hd (by simp [Rep, Rep2, Rep1, Rep0]) (by intro b hb; simp [names, names2, names1, names0] at hb)
theorem after_nx (e : Eff) (d : Option Nat) (s : Sx) : (after e d s).nx = s.nx := rfl
/-- The rest of a region, in order. -/
theorem region_ops {P : Program} {X : Fix} {C : Cx} {ro : Option Nat} (hC : CxOk P C) (hY : YOk P X C.callY) {ops : Array Oper} (hdst : ∀ o ∈ ops.toList, ∀ t, o.dst = some t → t < X.nt) {nm : Nat} {β : Type} {K : Sx → Log → Option β} {r : β} {Q : Exit → Act → World → Prop} {draw : Bool} :
    ∀ (l : List Oper) (i : Nat) (s : Sx) (lg : Log) (a : Act) (w : World) (g : Gh), i ≤ ops.size → ops.toList.drop i = l → Sim X (Lt (nm + 8 * i)) s a w g → s.nx = nm → regK C ops.toList draw nm l i s lg K = some r →
      (∀ s' lg' a' w' g', Sim X (Lt (nm + 8 * ops.size)) s' a' w' g' → s'.nx = nm → K s' lg' = some r → Q .normal a' w') → wpOpsIn (fw ro) 0 P ops Q (List.range' i l.length) a w
  | [], i, s, lg, a, w, g, hle, hl, h, hnx, he, hk => by
    simp only [regK] at he
    have hi : ops.size ≤ i := by
      have := congrArg List.length hl
      simp at this
      omega
    simp only [List.length_nil, List.range'_zero, wpOpsIn]
    have : i = ops.size := by omega
    subst this
    exact hk s lg a w g h hnx he
  | o :: l, i, s, lg, a, w, g, hle, hl, h, hnx, he, hk => by
    have hi : ops[i]? = some o := by
      have := congrArg (·[0]?) hl
      simpa using this
    have hl' : ops.toList.drop (i + 1) = l := by
      have := congrArg (List.drop 1) hl
      simpa [List.drop_drop, Nat.add_comm] using this
    have hlt : i + 1 ≤ ops.size := (Array.getElem?_eq_some_iff.1 hi).1
    have hod : ∀ t, o.dst = some t → t < X.nt := hdst o (Array.mem_toList_iff.2 (Array.mem_of_getElem? hi))
    simp only [regK] at he
    obtain ⟨b, s', hg, he⟩ := guarded_inv he
    obtain ⟨hw, h'⟩ := guard_wanted h hdst hg
    have hnx' : s'.nx = nm := by
      rcases hg with ⟨_, _, rfl⟩ | ⟨q, t, _, _, ⟨_, _, rfl⟩ | ⟨c, _, _, rfl⟩⟩ <;> exact hnx
    simp only [List.length_cons, List.range'_succ, wpOpsIn, hi, hw]
    cases b
    · simp only [cond_false, skipOp, seqS] at he
      simp only [Bool.false_eq_true, if_false]
      exact ⟨fun _ _ => trivial, region_ops hC hY hdst l (i + 1) _ lg _ w g hlt hl' ((skip_sim h' hod).more (fun b hb => by have hb' : b < nm + 8 * i := hb; show b < nm + 8 * (i + 1); omega)) hnx' he hk⟩
    · simp only [cond_true, goOp, seqS, after] at he
      have hCi := hC.at_ draw ops.toList i
      have hYi := yok_at hY draw ops.toList i
      rw [opK_eff (V := (C.at_ draw ops.toList i).vw s' (nm + 8 * i)) hC.hF] at he
      cases heo : opK ((C.at_ draw ops.toList i).vw s' (nm + 8 * i)) o.op some with
      | none => rw [heo] at he; cases he
      | some e =>
        rw [heo] at he
        simp only [Option.bind_some] at he
        simp only [if_true]
        refine (op_ok (hyp_of hCi h') hCi.call (cs_of hCi) (ys_of hYi) hod heo ro _ _ (opK_defer heo) fun a' w' g' h2 => ?_)
        refine region_ops hC hY hdst l (i + 1) _ _ a' w' g' hlt hl' (h2.more fun b hb => ?_) hnx' he hk
        rcases hb with hb | hb
        · have hb' : b < nm + 8 * i := hb
          show b < nm + 8 * (i + 1)
          omega
        · have hb' : b ≤ nm + 8 * i + 7 := hb.2
          show b < nm + 8 * (i + 1)
          omega
theorem region_ok {P : Program} {X : Fix} {C : Cx} {ro : Option Nat} (hC : CxOk P C) (hY : YOk P X C.callY) {ops : Array Oper} (hdst : ∀ o ∈ ops.toList, ∀ t, o.dst = some t → t < X.nt) {β : Type} {k : Sx → Option β} {r : β} {Q : Exit → Act → World → Prop} {s : Sx} {a : Act} {w : World} {g : Gh}
    (h : Sim X (Lt s.nx) s a w g) (he : (regK C ops.toList false s.nx ops.toList 0 s [] fun s' lg => endReg false ops.toList s' lg k) = some r) (hk : ∀ s' a' w' g', Sim X (Lt s'.nx) s' a' w' g' → k s' = some r → Q .normal a' w') : wpOpsIn (fw ro) 0 P ops Q (List.range ops.size) a w := by
  have := region_ops (ro := ro) hC hY hdst (nm := s.nx) ops.toList 0 s [] a w g (Nat.zero_le _) rfl (by simpa using h) rfl he (fun s' lg' a' w' g' h' hnx he' => by
    unfold endReg at he'
    rw [frcN_eq] at he'
    simp only [cond_false] at he'
    refine hk _ a' w' g' (Sim.at_nx (h'.more fun b hb => ?_) _) he'
    have hb' : b < s.nx + 8 * ops.size := hb
    show b < s'.nx + 8 * ops.toList.length
    rw [hnx, Array.length_toList]
    exact hb')
  rw [List.range_eq_range']
  simpa using this
end Go.Proofs.Ytcjhegiidnjepaa.Ev
