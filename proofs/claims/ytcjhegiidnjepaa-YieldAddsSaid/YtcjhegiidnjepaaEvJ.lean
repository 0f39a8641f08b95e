/- A call, as an operation. -/
import Derived.Test.YtcjhegiidnjepaaEvI
namespace Go.Proofs.Ytcjhegiidnjepaa.Ev
open Go.RowKit
set_option linter.unusedVariables false
set_option linter.unusedSimpArgs false

theorem BlkRep.ren {w w' : World} {g g' : Gh} {f : Nat → Nat} {ns : Nat → Prop} (h : Ren w w' g g' f ns) {b : Nat} {x : Blk} (hb : ns b) (hc : ∀ cs, x = .box cs → ∀ c ∈ namesL cs, ns c)
    (hs : ∀ B, g.at_ b = some B → w'.heap[B]? = w.heap[B]? ∧ ∀ o, g'.prot B o → g.prot B o) (hr : BlkRep w g b x) : BlkRep w' g' (f b) (blkRen f x) := by
  cases x with
  | box cs =>
    obtain ⟨B, arr, ty, h1, h2, h3⟩ := hr
    refine ⟨B, arr, ty, (h.at_ b hb).trans h1, (hs B h1).1.trans h2, ?_⟩
    rw [renL_eq]
    exact h3.map fun c hcm v hv => Rep1.ren h (fun n hn => hc cs rfl n (mem_namesL hcm hn)) hv
  | row r l =>
    obtain ⟨h1, h2, h3⟩ := hr
    refine ⟨(h.len b hb).trans h1, fun e => h2 ((h.at_ b hb).symm.trans e), fun B hB => ?_⟩
    have hB' : g.at_ b = some B := (h.at_ b hb).symm.trans hB
    obtain ⟨arr, ty, e1, e2, e3, e4, e5⟩ := h3 B hB'
    exact ⟨arr, ty, (hs B hB').1.trans e1, by rw [h.cap b hb]; exact e2, by rw [h.cap b hb]; exact e3, fun i y hi => RepRow.keep h.keep (fun _ _ hq => hq) (e4 i y hi), fun o ho => e5 o ((hs B hB').2 o ho)⟩
theorem get_newBlks (f : Nat → Nat) : ∀ (l : List Blk) (nm : Nat) (bl : Bls) (c : Nat), get (putB bl (newBlks f nm l)) c = if nm ≤ c ∧ c < nm + l.length then (l[c - nm]?).map (blkRen f) else get bl c
  | [], nm, bl, c => by simp [newBlks, putB]; omega
  | x :: l, nm, bl, c => by
    simp only [newBlks, putB, get_newBlks f l (nm + 1), List.length_cons, get_setB]
    by_cases h1 : c = nm
    · rw [if_neg (by omega), if_pos h1, if_pos (by omega), h1, Nat.sub_self]
      rfl
    · by_cases h2 : nm + 1 ≤ c ∧ c < nm + 1 + l.length
      · rw [if_pos h2, if_pos (by omega)]
        rw [show c - nm = (c - (nm + 1)) + 1 by omega, List.getElem?_cons_succ]
      · rw [if_neg h2, if_neg h1, if_neg (by omega)]
theorem Ret.drop {r : AV × List Blk} {pr pr' : Nat → Nat → Prop} {w w' : World} {u : Value} {g : Gh} (h : Ret r pr w w' u g) (h1 : hasImm r.1 = false) (h2 : r.2.any blkImm = false) (hp : ∀ B o, pr' B o → B < w.heap.size) : Ret r pr' w w' u ⟨g.at_, g.len, g.cap, pr'⟩ := by
  simp only [List.any_eq_false, Bool.not_eq_true] at h2
  refine ⟨h.below, Rep.free (g := g) (g' := ⟨g.at_, g.len, g.cap, pr'⟩) (fun _ => rfl) (fun _ => rfl) (fun _ => rfl) h1 h.rep, h.cls, fun i x hi => ?_, h.cin, fun i x B o hi _ hB hpr => ?_, h.inj, h.new, fun _ _ _ => Iff.rfl, fun B o hpr => Nat.lt_of_lt_of_le (hp B o hpr) h.below.size⟩
  · exact BlkRep.free (g := g) (g' := ⟨g.at_, g.len, g.cap, pr'⟩) (fun _ => rfl) (fun _ => rfl) (fun _ => rfl) (h2 x (List.mem_of_getElem? hi)) (fun B hB o hpr => absurd (h.new i x B hi hB) (by have := hp B o hpr; omega)) (h.blk i x hi)
  · have h3 := h.new i x B hi hB
    have h4 := hp B o hpr
    omega
theorem newNames_mem : ∀ {l : List Blk} {nm i : Nat}, i < l.length → nm + i ∈ newNames nm l
  | [], _, _, h => by simp at h
  | x :: l, nm, 0, _ => by simp [newNames]
  | x :: l, nm, i + 1, h => by
    simp only [newNames, List.mem_cons]
    right
    have := newNames_mem (l := l) (nm := nm + 1) (i := i) (by simpa using h)
    rwa [show nm + 1 + i = nm + (i + 1) by omega] at this
theorem Sim.fzMore0 {X : Fix} {U : Nat → Prop} {s : Sx} {a : Act} {w : World} {g : Gh} (h : Sim X U s a w g) (l : List Nat) : Sim X U ⟨s.tm, s.bl, l ++ s.fz, s.nx⟩ a w g :=
  ⟨h.tmps, h.size, h.dfr, h.blk, h.unp, fun b r q B o hb hf hB => h.unf b r q B o hb (memN_append hf).2 hB, h.inj, h.new, h.prot0, h.plt, h.blt, h.below, h.nmT, h.nmB, h.nmK, h.u0, h.ext, h.held, h.mkh, h.mkn, h.hok⟩
/-- The ghost behind a call. -/
def Gh.call (g gC : Gh) (nm k : Nat) : Gh := ⟨fun b => if nm ≤ b ∧ b < nm + k then gC.at_ (b - nm) else g.at_ b, fun b => if nm ≤ b ∧ b < nm + k then gC.len (b - nm) else g.len b, fun b => if nm ≤ b ∧ b < nm + k then gC.cap (b - nm) else g.cap b, gC.prot⟩
theorem Sim.call {X : Fix} {U : Nat → Prop} {s : Sx} {a : Act} {w w' : World} {g gC : Gh} {u : Value} {r : AV × List Blk} {nm : Nat} {dst : Option Tmp} (h : Sim X U s a w g) (hfresh : ∀ b, nm ≤ b → b ≤ nm + 7 → ¬ U b) (hk : r.2.length ≤ 8) (R : Ret r g.prot w w' u gC) (hfz : (hasImm r.1 || r.2.any blkImm) = true → ∀ i, i < r.2.length → memN s.fz (nm + i) = true) (hd : ∀ t, dst = some t → t < X.nt) :
    Sim X (upto nm U) ⟨putD s.tm dst (Ev.ren (fun i => nm + i) r.1), putB s.bl (newBlks (fun i => nm + i) nm r.2), s.fz, s.nx⟩ (a.put dst u) w' (g.call gC nm r.2.length) := by
  have hU : ∀ b, U b → ¬ (nm ≤ b ∧ b < nm + r.2.length) := fun b hb hc => hfresh b hc.1 (by omega) hb
  have hold : ∀ b, U b → (g.call gC nm r.2.length).at_ b = g.at_ b ∧ (g.call gC nm r.2.length).len b = g.len b ∧ (g.call gC nm r.2.length).cap b = g.cap b := by
    intro b hb
    simp only [Gh.call]
    rw [if_neg (hU b hb), if_neg (hU b hb), if_neg (hU b hb)]
    exact ⟨rfl, rfl, rfl⟩
  have hnew : ∀ i, i < r.2.length → (g.call gC nm r.2.length).at_ (nm + i) = gC.at_ i ∧ (g.call gC nm r.2.length).len (nm + i) = gC.len i ∧ (g.call gC nm r.2.length).cap (nm + i) = gC.cap i := by
    intro i hi
    simp only [Gh.call]
    rw [if_pos ⟨by omega, by omega⟩, if_pos ⟨by omega, by omega⟩, if_pos ⟨by omega, by omega⟩, Nat.add_sub_cancel_left]
    exact ⟨rfl, rfl, rfl⟩
  have hkeep : Keeps w w' g.prot gC.prot := fun B o hp => ⟨cell_same (R.below.block B (h.plt B o hp)) o, (R.prot0 B o (h.plt B o hp)).2 hp⟩
  have hext : GExt w w' g (g.call gC nm r.2.length) U := ⟨hkeep, fun b hb => (hold b hb).1, fun b hb => (hold b hb).2.1, fun b hb => (hold b hb).2.2⟩
  have hren : Ren w' w' gC (g.call gC nm r.2.length) (fun i => nm + i) (fun i => i < r.2.length) := ⟨fun _ _ hp => ⟨rfl, hp⟩, fun i hi => (hnew i hi).1, fun i hi => (hnew i hi).2.1, fun i hi => (hnew i hi).2.2⟩
  have hget : ∀ b x, get (putB s.bl (newBlks (fun i => nm + i) nm r.2)) b = some x → (get s.bl b = some x ∧ U b) ∨ ∃ i y, b = nm + i ∧ r.2[i]? = some y ∧ x = blkRen (fun i => nm + i) y := by
    intro b x hb
    rw [get_newBlks] at hb
    split at hb
    case isTrue hc =>
      obtain ⟨y, hy, rfl⟩ := Option.map_eq_some_iff.1 hb
      exact .inr ⟨b - nm, y, by omega, hy, rfl⟩
    case isFalse hc => exact .inl ⟨hb, h.nmK b x hb⟩
  have hin : ∀ {i : Nat} {y : Blk}, r.2[i]? = some y → i < r.2.length := fun hi => (List.getElem?_eq_some_iff.1 hi).1
  have hm : Sim X (upto nm U) ⟨s.tm, putB s.bl (newBlks (fun i => nm + i) nm r.2), s.fz, s.nx⟩ a w' (g.call gC nm r.2.length) := by
    refine ⟨fun t => (h.tmps t).ext hext (h.nmT t), h.size, h.dfr, ?_, ?_, ?_, ?_, ?_, ?_, R.plt, fun B hB => Nat.lt_of_lt_of_le (h.blt B hB) R.below.size, h.below.trans (Unt.of R.below fun k hk => h.blt k (.inl hk)), fun t b hb => .inl (h.nmT t b hb), ?_, ?_, fun b hb => .inl (h.u0 b hb), h.ext.trans hext h.u0, fun B o hB => (R.below.block B (h.blt B (.inr ⟨o, hB⟩))).trans (h.held B o hB), h.mkh, h.mkn, h.hok⟩
    · intro b x hb
      rcases hget b x hb with ⟨hb, hUb⟩ | ⟨i, y, rfl, hi, rfl⟩
      · exact BlkRep.ext hext hUb (fun cs hx => h.nmB b cs (hx ▸ hb)) (fun B hB => ⟨R.below.block B (BlkRep.lt h hb hB), fun o hp => (R.prot0 B o (BlkRep.lt h hb hB)).1 hp⟩) (h.blk b x hb)
      · exact BlkRep.ren hren (hin hi) (fun cs hx => R.cin i cs (hx ▸ hi)) (fun B hB => ⟨rfl, fun o hp => hp⟩) (R.blk i y hi)
    · intro b cs B o hb hB hp
      rcases hget b _ hb with ⟨hb, hUb⟩ | ⟨i, y, rfl, hi, hx⟩
      · rw [(hold b hUb).1] at hB
        exact h.unp b cs B o hb hB ((R.prot0 B o (BlkRep.lt h hb hB)).1 hp)
      · rw [(hnew i (hin hi)).1] at hB
        exact R.unp i y B o hi (.inl (by cases y with | box cs' => exact ⟨cs', rfl⟩ | row q l => cases hx)) hB hp
    · intro b q l B o hb hf hB hp
      rcases hget b _ hb with ⟨hb, hUb⟩ | ⟨i, y, rfl, hi, hx⟩
      · rw [(hold b hUb).1] at hB
        exact h.unf b q l B o hb hf hB ((R.prot0 B o (BlkRep.lt h hb hB)).1 hp)
      · rw [(hnew i (hin hi)).1] at hB
        refine R.unp i y B o hi (.inr ?_) hB hp
        cases him : (hasImm r.1 || r.2.any blkImm)
        · rfl
        · have hf' : memN s.fz (nm + i) = false := hf
          rw [hfz him i (hin hi)] at hf'
          cases hf'
    · intro b c x y B hb hc hB hC
      rcases hget b _ hb with ⟨hb, hUb⟩ | ⟨i, x', rfl, hi, hx⟩
      · rw [(hold b hUb).1] at hB
        rcases hget c _ hc with ⟨hc, hUc⟩ | ⟨j, y', rfl, hj, hy⟩
        · rw [(hold c hUc).1] at hC
          exact h.inj b c x y B hb hc hB hC
        · rw [(hnew j (hin hj)).1] at hC
          have := R.new j y' B hj hC
          have := BlkRep.lt h hb hB
          omega
      · rw [(hnew i (hin hi)).1] at hB
        rcases hget c _ hc with ⟨hc, hUc⟩ | ⟨j, y', rfl, hj, hy⟩
        · rw [(hold c hUc).1] at hC
          have := R.new i x' B hi hB
          have := BlkRep.lt h hc hC
          omega
        · rw [(hnew j (hin hj)).1] at hC
          rw [R.inj i j x' y' B hi hj hB hC]
    · intro b x B hb hB
      rcases hget b _ hb with ⟨hb, hUb⟩ | ⟨i, x', rfl, hi, hx⟩
      · rw [(hold b hUb).1] at hB
        exact h.new b x B hb hB
      · rw [(hnew i (hin hi)).1] at hB
        exact fun hO => absurd (h.blt B hO) (Nat.not_lt.2 (R.new i x' B hi hB))
    · intro B o hB
      exact (R.prot0 B o (h.blt B (.inl hB))).trans (h.prot0 B o hB)
    · intro b cs hb c hc
      rcases hget b _ hb with ⟨hb, hUb⟩ | ⟨i, x', rfl, hi, hx⟩
      · exact .inl (h.nmB b cs hb c hc)
      · cases x' with
        | row q l => cases hx
        | box cs' =>
          cases hx
          rw [namesL_ren] at hc
          obtain ⟨c', hc', rfl⟩ := List.mem_map.1 hc
          have := R.cin i cs' hi c' hc'
          exact .inr ⟨by omega, by omega⟩
    · intro b x hb
      rcases hget b _ hb with ⟨hb, hUb⟩ | ⟨i, x', rfl, hi, hx⟩
      · exact .inl hUb
      · have := hin hi
        exact .inr ⟨by omega, by omega⟩
  refine hm.put hd (Rep.ren hren R.cls R.rep) fun b hb => ?_
  rw [names_ren] at hb
  obtain ⟨c, hc, rfl⟩ := List.mem_map.1 hb
  have := R.cls c hc
  exact .inr ⟨by omega, by omega⟩

/-! ### Arguments -/
theorem rep0_rep {w : World} {g : Gh} {c : AV} {v : Value} (h : Rep0 w g c v) : Rep w g c v := by
  cases c <;> first | exact h | (obtain ⟨rfl, rfl⟩ := h; exact ⟨[], rfl, rfl⟩) | simp [Rep0] at h
theorem snap_rep {X : Fix} {U : Nat → Prop} {s : Sx} {a : Act} {w : World} {g : Gh} (h : Sim X U s a w g) {ns : List Nat} {v v' : AV} {u : Value} (hs : snap (get s.bl) v = some v') (hk : known v' = true) (hn : ∀ b ∈ names2 v, b ∈ ns) (hr : Rep w g v u) : Rep w (g.more s ns) v' u := by
  by_cases ha : ∃ cs, v = .agg cs
  · obtain ⟨cs, rfl⟩ := ha
    simp only [snap] at hs
    split at hs
    case h_2 => cases hs
    case h_1 l hl =>
      cases hs
      rw [rep_aggE] at hr ⊢
      obtain ⟨vs, hv, hr⟩ := hr
      exact ⟨vs, hv, snapL_rep h hl hn hr⟩
  · have hsn : snap1 (get s.bl) v = some v' := by cases v <;> first | exact hs | exact absurd ⟨_, rfl⟩ ha
    by_cases ho : ∃ b, v = .own b
    · obtain ⟨b, rfl⟩ := ho
      exact rep0_rep (snap1_rep h hsn hn hr).1
    · have he : v' = v := by
        cases v <;> first | exact (Option.some.inj hsn).symm | exact absurd ⟨_, rfl⟩ ho
      subst he
      exact Rep.ext (Gh.more_ext s g ns w) (fun _ _ => trivial) hr
theorem snaps_rep {X : Fix} {U : Nat → Prop} {s : Sx} {a : Act} {w : World} {g : Gh} (h : Sim X U s a w g) {ns : List Nat} : ∀ {cs cs' : List AV} {vs : List Value}, snaps (get s.bl) cs = some cs' → cs'.all known = true → (∀ b ∈ namesL2 cs, b ∈ ns) → RepL (Rep w g) cs vs → RepL (Rep w (g.more s ns)) cs' vs
  | [], cs', vs, hs, _, hn, hr => by simp only [snaps, Option.some.injEq] at hs; subst hs; simpa [RepL] using hr
  | c :: cs, cs', [], hs, _, hn, hr => by simp [RepL] at hr
  | c :: cs, cs', v :: vs, hs, hk, hn, hr => by
    simp only [snaps] at hs
    split at hs
    case h_2 => cases hs
    case h_1 x y h1 h2 =>
      cases hs
      simp only [List.all_cons, Bool.and_eq_true] at hk
      simp only [RepL] at hr ⊢
      exact ⟨snap_rep h h1 hk.1 (fun b hb => hn b (by simp [namesL2, hb])) hr.1, snaps_rep h h2 hk.2 (fun b hb => hn b (by simp [namesL2, hb])) hr.2⟩
section
variable {P : Program} {X : Fix} {U : Nat → Prop} {dst : Option Tmp} {ty : TypeId} {pos : String} {af : Array Edge} {gd : Option (Nat × Bool)} {s : Sx} {a : Act} {w : World} {g : Gh} {e : Eff} {V : Vw}
theorem names_nil {l : List AV} (h : namesL2 l = []) : ∀ c ∈ l, known c = true → ∀ b ∈ names c, False := by
  intro c hc hk b hb
  have : b ∈ namesL2 l := mem_namesL2 hc (by cases c <;> first | exact hb | simp [known] at hk)
  rw [h] at this
  simp at this
theorem run_callFunc_enter {f : FuncId} {fn : Func} (hf : P.funcs[f]? = some fn) (hname : fn.name ≠ "runtime.NumGoroutine") (hb : fn.body.isSome = true) (args : Array Value) : (callFunc f args).run P w = .ok (.enter f args) w := by
  cases hbb : fn.body with
  | none => rw [hbb] at hb; cases hb
  | some c => simp [callFunc, hf, hname, hbb]
theorem snapL_names {rd : Nat → Option Blk} : ∀ {l l' : List AV}, snapL rd l = some l' → ∀ b ∈ namesL l', b ∈ namesL l
  | [], l', h, b, hb => by simp only [snapL, Option.some.injEq] at h; subst h; exact hb
  | v :: r, l', h, b, hb => by
    simp only [snapL] at h
    split at h
    case h_2 => cases h
    case h_1 x y h1 h2 =>
      cases h
      simp only [namesL, List.mem_append] at hb ⊢
      rcases hb with hb | hb
      · left
        by_cases ho : ∃ b, v = .own b
        · obtain ⟨c, rfl⟩ := ho
          simp only [snap1] at h1
          split at h1
          · cases h1; simp [names1, names0] at hb
          · cases h1
        · have he : x = v := by cases v <;> first | exact (Option.some.inj h1).symm | exact absurd ⟨_, rfl⟩ ho
          rw [← he]; exact hb
      · exact .inr (snapL_names h2 b hb)
theorem snap_names {rd : Nat → Option Blk} {v v' : AV} (h : snap rd v = some v') : ∀ b ∈ names2 v', b ∈ names2 v := by
  intro b hb
  by_cases ha : ∃ cs, v = .agg cs
  · obtain ⟨cs, rfl⟩ := ha
    simp only [snap] at h
    split at h
    case h_2 => cases h
    case h_1 l hl => cases h; exact snapL_names hl b hb
  · have hsn : snap1 rd v = some v' := by cases v <;> first | exact h | exact absurd ⟨_, rfl⟩ ha
    by_cases ho : ∃ b, v = .own b
    · obtain ⟨c, rfl⟩ := ho
      simp only [snap1] at hsn
      split at hsn
      · cases hsn; simp [names2, names1, names0] at hb
      · cases hsn
    · have he : v' = v := by cases v <;> first | exact (Option.some.inj hsn).symm | exact absurd ⟨_, rfl⟩ ho
      rw [← he]; exact hb
theorem snaps_names {rd : Nat → Option Blk} : ∀ {l l' : List AV}, snaps rd l = some l' → ∀ b ∈ namesL2 l', b ∈ namesL2 l
  | [], l', h, b, hb => by simp only [snaps, Option.some.injEq] at h; subst h; exact hb
  | v :: r, l', h, b, hb => by
    simp only [snaps] at h
    split at h
    case h_2 => cases h
    case h_1 x y h1 h2 =>
      cases h
      simp only [namesL2, List.mem_append] at hb ⊢
      exact hb.imp (snap_names h1 b) (snaps_names h2 b)
theorem caps_names {b : Nat} : ∀ {caps : List AV}, caps.all capOk = true → b ∈ namesL2 caps → b ∈ names0L caps
  | [], _, hb => by simp [namesL2] at hb
  | v :: l, hcap, hb => by
    simp only [List.all_cons, Bool.and_eq_true] at hcap
    simp only [namesL2, names0L, List.mem_append] at hb ⊢
    rcases hb with hb | hb
    · left
      cases v <;> first | exact hb | (simp [capOk] at hcap; done) | skip
      rename_i q cs
      cases cs with
      | nil => simp [names2, names1, names0L] at hb
      | cons _ _ => simp [capOk] at hcap
    · exact .inr (caps_names hcap.2 hb)
theorem namesL2_append : ∀ (l l' : List AV), namesL2 (l ++ l') = namesL2 l ++ namesL2 l'
  | [], _ => rfl
  | v :: r, l' => by simp [namesL2, namesL2_append r l']
theorem opnds_namesL2 {X : Fix} {U : Nat → Prop} {s : Sx} {a : Act} {w : World} {g : Gh} (h : Sim X U s a w g) : ∀ (l : List Operand), ∀ b ∈ namesL2 (opnds s.tm l), U b
  | [], b, hb => by simp [opnds, namesL2] at hb
  | x :: r, b, hb => by
    simp only [opnds, namesL2, List.mem_append] at hb
    rcases hb with hb | hb
    · refine h.opnd_names x b ?_
      cases hv : Ev.opnd s.tm x <;> rw [hv] at hb <;> first | exact hb | (simp [names2, names1, names0] at hb)
    · exact opnds_namesL2 h r b hb
theorem oRead_ok (h : Hyp P X U V s a w g) (hcall : CallOk P V.call) (hd : ∀ t, dst = some t → t < X.nt) {r : Row} {f : FuncId} {args : List AV} {vs : List Value} {o : Op} (hargs : RepL (Rep w g) args vs) (he : oRead V r f args some = some e)
    (hrun : ∀ fn : Func, P.funcs[f]? = some fn → fn.name ≠ "runtime.NumGoroutine" → fn.body.isSome = true → (execOp a.eval ⟨dst, o, ty, pos, af, gd⟩).run P w = .ok (.enter f vs.toArray) w) : OpOk P X U ⟨dst, o, ty, pos, af, gd⟩ s a w V.nm e := by
  unfold oRead at he
  split at he
  case h_2 => cases he
  case h_1 b off rest =>
    split at he
    case h_2 => cases he
    case h_1 cs rest' hcs hsn =>
      rw [h.rd] at hcs hsn
      split at he
      case h_2 => cases he
      case h_1 x hx =>
        have hk := (chk_some he).1
        replace he := (chk_some he).2
        simp only [Bool.and_eq_true, List.isEmpty_iff] at hk
        obtain ⟨hk0, hk1, hk2⟩ := hk
        cases hr : V.call f (.eimm r [x] 0 off :: rest') with
        | none => rw [hr] at he; cases he
        | some q =>
          rw [hr] at he
          simp only [Option.bind_some] at he
          obtain ⟨b0, q⟩ := q
          have hb0 := (chk_some he).1
          replace he := (chk_some he).2
          simp only at hb0
          subst hb0
          have h8 := (chk_some he).1
          replace he := (chk_some he).2
          have hi := (chk_some he).1
          replace he := (chk_some he).2
          have he := Option.some.inj he
          subst he
          simp only at h8 hi
          have h8 : q.2.length ≤ 8 := by simpa using h8
          simp only [Bool.not_eq_true', Bool.or_eq_false_iff] at hi
          cases vs with
          | nil => simp [RepL] at hargs
          | cons v vs =>
            simp only [RepL] at hargs
            obtain ⟨hv, hrest⟩ := hargs
            obtain ⟨B, hB, hv⟩ : ∃ B, g.at_ b = some B ∧ v = .pointer (some ⟨B, off, none⟩) := hv
            obtain ⟨B2, arr, ty2, hB2, hheap, hcells⟩ := h.sim.blk b (.box cs) hcs
            rw [hB] at hB2
            cases hB2
            have hs1 := h.sim.freeze (namesL2 rest)
            have hrep := snaps_rep h.sim hsn hk1 (fun b hb => hb) hrest
            let pr : Nat → Nat → Prop := fun C j => (g.more s (namesL2 rest)).prot C j ∨ C = B
            have hBlt : B < w.heap.size := (Array.getElem?_eq_some_iff.1 hheap).1
            have hext : GExt w w g (g0 pr) (fun _ => False) := ⟨fun C j hp => ⟨rfl, .inl (((Gh.more_ext s g (namesL2 rest) w).keep C j hp).2)⟩, fun _ hb => hb.elim, fun _ hb => hb.elim, fun _ hb => hb.elim⟩
            have hext2 : GExt w w (g.more s (namesL2 rest)) (g0 pr) (fun _ => False) := ⟨fun C j hp => ⟨rfl, .inl hp⟩, fun _ hb => hb.elim, fun _ hb => hb.elim, fun _ hb => hb.elim⟩
            have hcells2 : RepL (Rep1 w (g0 pr)) cs arr.toList := hcells.imp fun c hc u hu => Rep1.ext hext (fun n hn => by
              have : n ∈ namesL cs := mem_namesL hc hn
              rw [hk0] at this
              simp at this) hu
            have hrow : RepRow w pr r x (fun j u => w.cell? ⟨B, 0 + j, none⟩ = some u ∧ pr B (0 + j)) (0 * Row.size r) := by
              rw [Nat.zero_mul]
              refine row_dec (g := g0 pr) hx hcells2 fun j u hu => ⟨?_, .inr rfl⟩
              simp only [Nat.zero_add]
              unfold World.cell?
              simp only [hheap]
              simpa using hu
            have hrep0 : RepL (Rep w (g0 pr)) (.eimm r [x] 0 off :: rest') (v :: vs) := by
              simp only [RepL]
              refine ⟨⟨B, 0, x, ?_, rfl, hrow⟩, hrep.imp fun y hy v hv => Rep.ext hext2 (names_nil hk2 y hy (List.all_eq_true.1 hk1 y hy)) hv⟩
              rw [hv]
              simp
            obtain ⟨fn, hf, hname, hb, hok⟩ := hcall f _ q hr
            have hplt : ∀ C j, pr C j → C < w.heap.size := by
              rintro C j (hp | rfl)
              · exact hs1.plt C j hp
              · exact hBlt
            have hcalls := hok w pr _ hplt hrep0 (by simp [hk1, known]) (by simp [namesL2, names2, names1, names0, hk2])
            intro ro next Q nd hkk
            refine wp_run nd (hrun fn hf hname hb) ⟨fun h => (by cases h), (callsIn_fw hcalls).mono fun en w' hen => ?_⟩
            cases en with
            | panicked chain => exact hen.elim
            | outgrown => exact hen.elim
            | returned u =>
              obtain ⟨gC, R⟩ := hen
              have hs := h.sim.call h.fresh h8 (R.drop hi.1 hi.2 h.sim.plt) (fun hc => by rw [hi.1, hi.2] at hc; cases hc) hd
              exact hkk _ _ _ hs
theorem oCall_value (h : Hyp P X U V s a w g) (hcall : CallOk P V.call) (hcs : CSok P X U s V w) (hys : YSok P X U s V w) (hd : ∀ t, dst = some t → t < X.nt) {c : Call} {q : Operand} (hc : c.callee = .value q) (he : oCall V c some = some e) : OpOk P X U ⟨dst, .call c, ty, pos, af, gd⟩ s a w V.nm e := by
  have hq := h.op q
  unfold oCall at he
  rw [hc] at he
  simp only at he
  split at he
  case h_3 => cases he
  case h_2 y hyq =>
    rw [hyq] at hq
    obtain ⟨L, hyL, hqv⟩ := hq
    unfold oYield at he
    split at he
    case h_2 => cases he
    case h_1 args' hsn =>
      rw [h.rd] at hsn
      obtain ⟨hk, he1⟩ := chk_some he
      simp only [Bool.and_eq_true, List.isEmpty_iff] at hk
      have hargs := opnds_rep h c.args.toList
      have hs1 := h.sim.freeze (namesL2 (opnds V.tm c.args.toList))
      cases hr : V.callY y args' (namesL2 (opnds V.tm c.args.toList)) with
      | none => rw [hr] at he1; cases he1
      | some e0 =>
        rw [hr] at he1
        simp only [Option.bind_some, Option.some.injEq] at he1
        subst he1
        have hrep := snaps_rep h.sim hsn hk.1 (fun b hb => hb) hargs
        obtain ⟨f, tmps, asg, bd, hy, hrd⟩ := hys y args' _ e0 hr a _ L _ hs1 hyL hrep hk.1 hk.2
        have hrun : (execOp a.eval ⟨dst, .call c, ty, pos, af, gd⟩).run P w = .ok (.round L f tmps asg bd) w := by
          obtain ⟨callee, cargs, ats⟩ := c
          simp only at hc
          subst hc
          have e1 : (cargs.toList.map a.eval).toArray = cargs.map a.eval := by
            apply Array.ext'
            simp
          rw [e1] at hy
          simp only [execOp, resolve, hqv, Deferred.ofValue, invoke, Sem.run_bind, Sem.run_pure, Result.andThen_ok, Array.empty_append, hy]
        intro ro next Q nd hkk
        refine wp_run nd hrun ⟨fun h => (by cases h), (hrd ro).mono fun en w' hen => ?_⟩
        cases en with
        | panicked chain => exact hen.elim
        | outgrown => exact hen.elim
        | returned u =>
          obtain ⟨g', k1, k2, k3⟩ := hen
          have hs := k3.put hd k1 k2
          exact hkk _ _ _ (by simpa [after, List.append_assoc] using hs)
  case h_1 f caps hfn =>
    rw [hfn] at hq
    obtain ⟨cv, hqv, hcv⟩ := hq
    have hargs : RepL (Rep w g) (opnds V.tm c.args.toList ++ caps) (c.args.toList.map a.eval ++ cv) := (opnds_rep h c.args.toList).append (hcv.imp fun _ _ _ hv => rep0_rep hv)
    have hcap := (chk_some he).1
    replace he := (chk_some he).2
    have hnames : ∀ b ∈ namesL2 (opnds V.tm c.args.toList ++ caps), U b := by
      intro b hb
      rw [namesL2_append] at hb
      rcases List.mem_append.1 hb with hb | hb
      · rw [h.tm] at hb; exact opnds_namesL2 h.sim _ b hb
      · have := h.opn q
        rw [hfn] at this
        exact this b (caps_names hcap hb)
    have hrun : ∀ fn : Func, P.funcs[f]? = some fn → fn.name ≠ "runtime.NumGoroutine" → fn.body.isSome = true → (execOp a.eval ⟨dst, .call c, ty, pos, af, gd⟩).run P w = .ok (.enter f (c.args.toList.map a.eval ++ cv).toArray) w := by
      intro fn hf hname hb
      obtain ⟨callee, cargs, ats⟩ := c
      simp only at hc
      subst hc
      have hen := run_callFunc_enter (P := P) (w := w) hf hname hb (cargs.map a.eval ++ cv.toArray)
      have e1 : (cargs.toList.map a.eval ++ cv).toArray = cargs.map a.eval ++ cv.toArray := by
        apply Array.ext'
        simp
      simp only [execOp, resolve, hqv, Deferred.ofValue, invoke, Sem.run_bind, Sem.run_pure, Result.andThen_ok, Array.empty_append, hen, e1]
    split at he
    case h_1 r hr => exact oRead_ok h hcall hd hargs he hrun
    case h_2 =>
    unfold oCallVal at he
    split at he
    case h_2 => cases he
    case h_1 args' hsn =>
      rw [h.rd] at hsn
      generalize hL : opnds V.tm c.args.toList ++ caps = L at hargs hsn he hnames
      have hs1 := h.sim.freeze (namesL2 L)
      cases hem : (namesL2 args').isEmpty
      · rw [hem] at he
        simp only [cond_false] at he
        obtain ⟨hk, he1⟩ := chk_some he
        cases hr : V.callS f args' (namesL2 L) with
        | none => rw [hr] at he1; cases he1
        | some e0 =>
          rw [hr] at he1
          simp only [Option.bind_some, Option.some.injEq] at he1
          subst he1
          obtain ⟨fn, hf, hname, hb, hok⟩ := hcs f args' _ e0 hr
          have hrep := snaps_rep h.sim hsn hk (fun b hb => hb) hargs
          have hcalls := hok a _ _ hs1 hrep hk (fun b hb => hnames b (snaps_names hsn b hb))
          intro ro next Q nd hkk
          refine wp_run nd (hrun fn hf hname hb) ⟨fun h => (by cases h), (callsIn_fw hcalls).mono fun en w' hen => ?_⟩
          cases en with
          | panicked chain => exact hen.elim
          | outgrown => exact hen.elim
          | returned u =>
            obtain ⟨g', k1, k2, k3⟩ := hen
            have hs := k3.put hd k1 k2
            exact hkk _ _ _ (by simpa [after, List.append_assoc] using hs)
      · rw [hem] at he
        simp only [cond_true] at he
        obtain ⟨hk1, he1⟩ := chk_some he
        clear he
        have hk : args'.all known = true ∧ namesL2 args' = [] := ⟨hk1, by simpa using hem⟩
        cases hr : V.call f args' with
        | none => rw [hr] at he1; cases he1
        | some q =>
          rw [hr] at he1
          simp only [Option.bind_some] at he1
          obtain ⟨b0, r⟩ := q
          have hb0 := (chk_some he1).1
          replace he1 := (chk_some he1).2
          simp only at hb0
          subst hb0
          have h8 := (chk_some he1).1
          have he2 := (chk_some he1).2
          clear he1
          simp only at h8 he2
          have h8 : r.2.length ≤ 8 := by simpa using h8
          obtain ⟨fn, hf, hname, hb, hok⟩ := hcall f args' r hr
          have hrep := snaps_rep h.sim hsn hk.1 (fun b hb => hb) hargs
          have hrep0 : RepL (Rep w (g0 (g.more s (namesL2 L)).prot)) args' (c.args.toList.map a.eval ++ cv) := hrep.imp fun x hx v hv => Rep.ext (g := g.more s (namesL2 L)) (g' := g0 (g.more s (namesL2 L)).prot) (w := w) (w' := w) (ns := fun _ => False) ⟨fun _ _ hp => ⟨rfl, hp⟩, fun _ hb => hb.elim, fun _ hb => hb.elim, fun _ hb => hb.elim⟩ (names_nil hk.2 x hx (List.all_eq_true.1 hk.1 x hx)) hv
          have hcalls := hok w (g.more s (namesL2 L)).prot _ hs1.plt hrep0 hk.1 hk.2
          intro ro next Q nd hkk
          refine wp_run nd (hrun fn hf hname hb) ⟨fun h => (by cases h), (callsIn_fw hcalls).mono fun en w' hen => ?_⟩
          cases en with
          | panicked chain => exact hen.elim
          | outgrown => exact hen.elim
          | returned u =>
            obtain ⟨gC, R⟩ := hen
            cases hi : hasImm r.1 || r.2.any blkImm
            · rw [hi] at he2
              have := Option.some.inj he2
              subst this
              simp only [Bool.or_eq_false_iff] at hi
              have hs := h.sim.call h.fresh h8 (R.drop hi.1 hi.2 h.sim.plt) (fun hc => by rw [hi.1, hi.2] at hc; cases hc) hd
              exact hkk _ _ _ hs
            · rw [hi] at he2
              have := Option.some.inj he2
              subst this
              have hs2 := hs1.fzMore0 (newNames V.nm r.2)
              have hs := hs2.call h.fresh h8 R (fun _ i hi => (memN_iff _ _).2 (List.mem_append.2 (.inl (newNames_mem hi)))) hd
              simp only [List.append_assoc] at hs
              exact hkk _ _ _ (by simpa [after, List.append_assoc] using hs)
end
end Go.Proofs.Ytcjhegiidnjepaa.Ev
