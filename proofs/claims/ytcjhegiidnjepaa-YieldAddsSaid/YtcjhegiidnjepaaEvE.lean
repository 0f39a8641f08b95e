/- Slices written out, stores, parts of slices. -/
import Derived.Test.YtcjhegiidnjepaaEvD
namespace Go.Proofs.Ytcjhegiidnjepaa.Ev
open Go.RowKit
set_option linter.unusedVariables false
set_option linter.unusedSimpArgs false

theorem row_pos (r : Row) : 0 < Row.size r := by cases r <;> simp [Row.size]
theorem range_mod {zs : List Value} (d : Value) : ∀ (m : Nat), (List.range (m * zs.length)).map (fun i => (zs[i % zs.length]?).getD d) = rep m zs
  | 0 => by simp [rep]
  | m + 1 => by
    rw [Nat.add_mul, Nat.one_mul, Nat.add_comm, List.range_add, List.map_append, List.map_map]
    simp only [rep]
    congr 1
    · apply List.ext_getElem?
      intro i
      by_cases hi : i < zs.length
      · simp [hi, Nat.mod_eq_of_lt hi]
      · simp [hi]
    · rw [← range_mod d m]
      apply List.map_congr_left
      intro i _
      simp
theorem rep_cells_list {w : World} {g : Gh} {cs : List AV} {vs : List Value} (h : RepL (Rep1 w g) cs vs) : ∀ m, RepL (Rep1 w g) (rep m cs) (rep m vs)
  | 0 => by simp [rep, RepL]
  | m + 1 => by simp only [rep]; exact h.append (rep_cells_list h m)
theorem names_rep {cs : List AV} (h : namesL cs = []) : ∀ m, namesL (rep m cs) = []
  | 0 => rfl
  | m + 1 => by
    have key : ∀ l l' : List AV, namesL (l ++ l') = namesL l ++ namesL l' := by
      intro l l'
      induction l with
      | nil => rfl
      | cons c l ih => simp [namesL, ih]
    simp [rep, key, h, names_rep h m]
theorem snapL_len {rd : Nat → Option Blk} : ∀ {cs cs' : List AV}, snapL rd cs = some cs' → cs'.length = cs.length
  | [], cs', h => by simp only [snapL, Option.some.injEq] at h; subst h; rfl
  | c :: cs, cs', h => by
    simp only [snapL] at h
    split at h
    case h_2 => cases h
    case h_1 x y h1 h2 => cases h; simp [snapL_len h2]
theorem RepRow.shift {w : World} {pr : Nat → Nat → Prop} : ∀ {r : Row} {x : Row.T r} {q : Nat → Value → Prop} {k o : Nat}, RepRow w pr r x q (k + o) → RepRow w pr r x (fun j u => q (k + j) u) o
  | .one l, x, q, k, o, h => h
  | .cons l r, x, q, k, o, h => ⟨h.1, RepRow.shift (k := k) (o := o + 1) h.2⟩
section
variable {P : Program} {X : Fix} {U : Nat → Prop} {dst : Option Tmp} {ty : TypeId} {pos : String} {af : Array Edge} {gd : Option (Nat × Bool)} {s : Sx} {a : Act} {w : World} {g : Gh} {e : Eff} {V : Vw}
theorem elemOf_inv (hT : TabOk P V.T) {t : Nat} {ee : TyE} (h : elemOf V t = some ee) : ∃ el, P.underlying t = some (.slice el) ∧ get V.T el = some ee := by
  unfold elemOf at h
  split at h
  case h_2 => cases h
  case h_1 te hte =>
    split at h
    case h_2 => cases h
    case h_1 el hd =>
      have hu := (hT _ _ hte).und
      simp only [hd] at hu
      exact ⟨el, hu, h⟩
theorem run_buildSlice0 {P : Program} (w : World) {t el : TypeId} {i : TypeInfo} {ps : Array (Nat × Value)} {arr : Array Value} (hu : P.underlying t = some (.slice el)) (hi : P.info? el = some i) (f : Instr.fill (fun j => some (j * i.size, i.size)) #[] ps.toList = some arr) : (Instr.buildSlice t 0 ps).run P w = .ok (.slice (some ⟨w.heap.size, 0, none⟩) 0 0) (w.alloc (.cells arr el)) := by
  simp [Instr.buildSlice, run_underlying hu, sizeOf, typeInfo, hi, newRow, f, show Array.range 0 = #[] from rfl]
theorem build_run {P : Program} (w : World) {t el : TypeId} {len sz : Nat} {i : TypeInfo} {z : Value} {parts : Array (Nat × Operand)} {ev : Operand → Value} {arr : Array Value} (hu : P.underlying t = some (.slice el)) (g1 : P.info? el = some i) (g2 : i.size = sz) (g4 : i.zero = some z) (hsm : len * sz ≤ 16777216) (hpos : 0 < sz)
    (f1 : Instr.fill (fun j => some (j * sz, sz)) ((Array.range (len * i.size)).map (z.cells[· % z.cells.size]!)) (parts.toList.map fun p => (p.1, ev p.2)) = some arr) :
    (Instr.buildSlice t len (parts.map fun (i, x) => (i, ev x))).run P w = .ok (.slice (some ⟨w.heap.size, 0, none⟩) len len) (w.alloc (.cells arr el)) := by
  subst g2
  have e : (parts.map fun (i, x) => (i, ev x)).toList = parts.toList.map fun p => (p.1, ev p.2) := by simp
  by_cases hlen : len = 0
  · subst hlen
    refine run_buildSlice0 w hu g1 ?_
    rw [e]
    rw [Nat.zero_mul, show Array.range 0 = #[] from rfl, Array.map_empty] at f1
    exact f1
  · exact run_buildSlice (P := P) w t el len _ arr i z hu g1 g4 (by omega) (by have := Nat.mul_pos (show 0 < len by omega) hpos; omega) (by rw [e]; exact f1)
theorem oBuildSlice_ok (h : Hyp P X U V s a w g) (hd : ∀ t, dst = some t → t < X.nt) {t len : Nat} {parts : Array (Nat × Operand)} (he : oBuildSlice V t len parts.toList some = some e) : OpOk P X U ⟨dst, .buildSlice t len parts, ty, pos, af, gd⟩ s a w V.nm e := by
  unfold oBuildSlice at he
  split at he
  case h_2 => cases he
  case h_1 ee hel =>
    obtain ⟨el, hu, hee⟩ := elemOf_inv h.hT hel
    split at he
    case h_2 => cases he
    case h_1 r hr =>
      split at he
      case h_2 => cases he
      case h_1 cs hcs =>
        obtain ⟨hc, he⟩ := chk_some he
        have hsm : len * ee.size ≤ 16777216 := by simpa using hc
        rw [forceCells_eq h.hF] at he
        unfold oBuildSlice2 at he
        split at he
        case h_2 => cases he
        case h_1 cs' hsn =>
          split at he
          case h_2 => cases he
          case h_1 l hl =>
            rw [h.hF.l] at he
            cases he
            obtain ⟨i, z, g1, g2, g3, g4, g5, g6, g7⟩ := zero_rep (w := w) (g := g) h.hT hee
            have hsz : Row.size r = ee.size := (h.hT _ _ hee).row r hr
            have hpos : 0 < ee.size := by rw [← hsz]; exact row_pos r
            have hzl : z.cells.toList.length = ee.size := by simpa using g6
            have hz0 : RepL (Rep1 w g) (rep len ee.zero) ((Array.range (len * i.size)).map (z.cells[· % z.cells.size]!)).toList := by
              have e1 : ((Array.range (len * i.size)).map (z.cells[· % z.cells.size]!)).toList = rep len z.cells.toList := by
                rw [← range_mod default len, hzl, g2]
                simp only [Array.toList_map, Array.toList_range]
                apply List.map_congr_left
                intro j _
                simp only [g6, getElem!_def]
                rw [Array.getElem?_toList]
                cases z.cells[j % ee.size]? <;> rfl
              rw [e1]
              exact rep_cells_list g5 len
            obtain ⟨arr', f1, f2, f3, f4⟩ := fill_ok (w := w) (g := g) (place := fun i => some (i * ee.size, ee.size)) (fun i p hi => hi) _ _ _ _ _ (parts_rep h parts.toList) hz0 hcs
            have hnu : ∀ b ∈ namesL cs, U b := by
              intro b hb
              rcases f4 b hb with hb | ⟨p, hp, hb⟩
              · rw [names_rep g7] at hb; simp at hb
              · exact parts_names h _ p hp b hb
            have hrun : (execOp a.eval ⟨dst, .buildSlice t len parts, ty, pos, af, gd⟩).run P w = .ok (.value (.slice (some ⟨w.heap.size, 0, none⟩) len len)) (w.alloc (.cells arr' el)) := by
              have hrb := build_run (P := P) w hu g1 g2 g4 hsm hpos f1
              simp only [execOp, Sem.run_bind, hrb, Result.andThen_ok]
              rfl
            have harr : arr'.size = len * ee.size := by rw [f3]; simp [g2]
            intro ro next Q nd hk
            have hfresh : ¬ U V.nm := h.fresh V.nm (Nat.le_refl _) (by omega)
            rw [h.rd] at hsn
            have h1 := h.sim.freeze (namesL cs)
            have hs' := snapL_rep h.sim hsn (fun b hb => hb) f2
            have hext := gext_set h1 (n := V.nm) (B := w.heap.size) (ln := len) (cp := len) (w' := w.alloc (.cells arr' el)) hfresh (fun k o hp => cell_same (heap_alloc_lt w _ k (h1.plt k o hp)) o)
            have hrows := rows_dec (w := w) (g := g.more s (namesL cs)) (q := fun o u => arr'[o]? = some u) (o := 0) len hl hs' (fun j v hv => by simpa using hv)
            refine wp_to nd hrun (hk _ _ ((g.more s (namesL cs)).set V.nm w.heap.size len len) ?_)
            have hm := h1.made (n := V.nm) (ln := len) (cp := len) hfresh (heap_alloc_lt w (.cells arr' el)) (heap_alloc_size w _) ((Unt.refl X.old w).alloc h.sim.blt _) (.row r l)
              ⟨by simp [Gh.set, hrows.1], by simp [Gh.set], fun B hB => by
                have hB' : w.heap.size = B := by simpa [Gh.set] using hB
                subst hB'
                refine ⟨arr', el, heap_alloc_new w _, by simp [Gh.set, harr, hsz], ⟨by simp [Gh.set, hrows.1], by simp only [Gh.set, if_true, maxLen]; have := Nat.le_mul_of_pos_right len hpos; omega⟩, fun i x hi => ?_, fun o ho => absurd (h1.plt _ o ho) (Nat.lt_irrefl _)⟩
                have := hrows.2 i x hi
                rw [Nat.zero_add, ← hsz] at this
                exact RepRow.keep hext.keep (fun _ _ hq => hq) this⟩ (fun cs' hx => by cases hx)
            exact (hm.put (d := dst) (v := .own V.nm) (u := .slice (some ⟨w.heap.size, 0, none⟩) len len) hd (by simp [Rep, Rep2, Rep1, Rep0, Gh.set]) (by intro b hb; simp only [names, names2, names1, names0, List.mem_singleton] at hb; exact .inr hb)).more (fun b hb => upto_of hb)
def Gh.setO (g : Gh) (n : Nat) (oB : Option Nat) (ln cp : Nat) : Gh := ⟨fun b => if b = n then oB else g.at_ b, fun b => if b = n then ln else g.len b, fun b => if b = n then cp else g.cap b, g.prot⟩
theorem popS_ok (h : Hyp P X U V s a w g) (hd : ∀ t, dst = some t → t < X.nt) {o : Op} {b sz : Nat} {r : Row} {l : List (Row.T r)} {n : Nat} {u : Value} (hb : get s.bl b = some (.row r l)) (hu : Rep0 w g (.own b) u) (hn : n ≤ l.length) (hz : memN s.fz b = false)
    (hrun : ∀ A c, u = .slice A l.length c → l.length ≤ c → ∃ A', (A' = A ∨ ∃ B, A = some ⟨B, 0, none⟩ ∧ A' = some ⟨B, 0, none⟩) ∧ (execOp a.eval ⟨dst, o, ty, pos, af, gd⟩).run P w = .ok (.value (.slice A' n c)) w) :
    OpOk P X U ⟨dst, o, ty, pos, af, gd⟩ s a w V.nm ⟨.own V.nm, [(b, none), (V.nm, some (.row r (l.take n)))], []⟩ := by
  have hfresh : ¬ U V.nm := h.fresh V.nm (Nat.le_refl _) (by omega)
  have hUb := h.sim.nmK b _ hb
  have hbn : b ≠ V.nm := by rintro rfl; exact hfresh hUb
  have hlen : (l.take n).length = n := by rw [List.length_take]; omega
  obtain ⟨h1, h2, h3⟩ := h.sim.blk b _ hb
  have key : ∃ (oB : Option Nat) (v : Value), g.at_ b = oB ∧ (execOp a.eval ⟨dst, o, ty, pos, af, gd⟩).run P w = .ok (.value v) w ∧ v = (match oB with | some B => .slice (some ⟨B, 0, none⟩) n (g.cap b) | none => .slice none 0 0) ∧ (oB = none → n = 0) := by
    simp only [Rep0] at hu
    cases hB : g.at_ b with
    | none =>
      rw [hB] at hu
      have hl0 : l.length = 0 := by rw [h2 hB]; rfl
      have hn0 : n = 0 := by omega
      obtain ⟨A', hA, hr⟩ := hrun none 0 (by rw [hl0]; exact hu.1) (by omega)
      have hA' : A' = none := by rcases hA with rfl | ⟨B, h4, _⟩ <;> first | rfl | cases h4
      exact ⟨none, _, rfl, hr, by rw [hA', hn0], fun _ => hn0⟩
    | some B =>
      rw [hB] at hu
      obtain ⟨A', hA, hr⟩ := hrun (some ⟨B, 0, none⟩) (g.cap b) (by rw [← h1]; exact hu) (by obtain ⟨arr, el, e1, e2, e3, e4, e5⟩ := h3 B hB; exact e3.1)
      have hA' : A' = some ⟨B, 0, none⟩ := by rcases hA with rfl | ⟨B2, h4, h5⟩ <;> first | rfl | (cases h4; exact h5)
      exact ⟨some B, _, rfl, hr, by rw [hA'], fun h => by cases h⟩
  obtain ⟨oB, v, hB, hr, hv, hn0⟩ := key
  intro ro next Q nd hk
  refine wp_to nd hr (hk _ _ (g.setO V.nm oB n (g.cap b)) ?_)
  have hat : (g.setO V.nm oB n (g.cap b)).at_ V.nm = oB := by simp [Gh.setO]
  have hext : GExt w w g (g.setO V.nm oB n (g.cap b)) U := ⟨fun k o hp => ⟨rfl, hp⟩, fun b hb => by simp only [Gh.setO]; rw [if_neg (by rintro rfl; exact hfresh hb)], fun b hb => by simp only [Gh.setO]; rw [if_neg (by rintro rfl; exact hfresh hb)], fun b hb => by simp only [Gh.setO]; rw [if_neg (by rintro rfl; exact hfresh hb)]⟩
  have hnp : ∀ B, oB = some B → ∀ o, ¬ g.prot B o := fun B hB2 o => h.sim.unf b r l B o hb hz (hB.trans hB2)
  have hget : ∀ c, get (putB s.bl [(b, none), (V.nm, some (.row r (l.take n)))]) c = if c = V.nm then some (.row r (l.take n)) else if c = b then none else get s.bl c := fun c => by simp only [putB, get_setB, get_delB]
  have hm := h.sim.one (w' := w) (g' := g.setO V.nm oB n (g.cap b)) (U' := upto1 U V.nm) V.nm (.row r (l.take n)) (putB s.bl [(b, none), (V.nm, some (.row r (l.take n)))]) s.fz (fun b hb => .inl hb)
    (fun c y hc hy => by rw [hget, if_neg hc] at hy; split at hy; cases hy; exact hy) (by rw [hget, if_pos rfl]) (fun c _ hf => hf) hext (fun c y B hc hy hB => ⟨rfl, fun o ho => ho⟩)
    ⟨by simp [Gh.setO, hlen], fun hn' => by
      rw [hat] at hn'
      have := hn0 hn'
      subst this
      exact List.take_zero, fun B hB2 => by
      rw [hat] at hB2
      obtain ⟨arr, el, e1, e2, e3, e4, e5⟩ := h3 B (hB.trans hB2)
      refine ⟨arr, el, e1, by simp only [Gh.setO, if_true]; exact e2, ⟨by simp only [Gh.setO, if_true]; omega, by simp only [Gh.setO, if_true]; exact e3.2⟩, fun i x hi => ?_, fun o ho => absurd ho (hnp B hB2 o)⟩
      rw [List.getElem?_take] at hi
      split at hi
      · exact e4 i x hi
      · cases hi⟩ (fun cs B o hx => by cases hx) (fun r' l' B o _ _ hB2 => by rw [hat] at hB2; exact hnp B hB2 o)
    (fun c y B hc hy hB2 hB3 => by
      rw [hat] at hB3
      rw [hget, if_neg hc] at hy
      split at hy
      · cases hy
      · rename_i hcb
        exact hcb (h.sim.inj c b y _ B hy hb hB2 (hB.trans hB3))) (fun B hB2 => by rw [hat] at hB2; exact h.sim.new b _ B hb (hB.trans hB2)) (fun _ _ _ => Iff.rfl) (fun B o hp => h.sim.plt B o hp) (Unt.refl _ _) (.inr rfl) (fun cs hx => by cases hx)
  refine (hm.put (d := dst) (v := .own V.nm) (u := v) hd ?_ (by intro b hb; simp only [names, names2, names1, names0, List.mem_singleton] at hb; exact .inr hb)).more (fun b hb => upto_of hb)
  rw [hv]
  cases oB with
  | none => simp [Rep, Rep2, Rep1, Rep0, Gh.setO, hn0 rfl]
  | some B => simp [Rep, Rep2, Rep1, Rep0, Gh.setO]
/-- A slice of a read or own slice. -/
theorem oSlice_ok (h : Hyp P X U V s a w g) (hd : ∀ t, dst = some t → t < X.nt) {t : Nat} {x : Operand} {lo hi mx : Option Operand} (he : oSlice V t x lo hi mx some = some e) : OpOk P X U ⟨dst, .slice t x lo hi mx, ty, pos, af, gd⟩ s a w V.nm e := by
  have hx := h.op x
  have hn := h.opn x
  have bnd_inv : ∀ {y : Option Operand} {d n : Int}, bnd V y d = some n → (y = none ∧ n = d) ∨ ∃ z k, y = some z ∧ a.eval z = .int k n := by
    intro y d n hb
    cases y with
    | none => simp only [bnd, Option.some.injEq] at hb; exact .inl ⟨rfl, hb.symm⟩
    | some z =>
      simp only [bnd] at hb
      have hz := h.op z
      split at hb
      case h_2 => cases hb
      case h_1 k m hm =>
        cases hb
        rw [hm, rep_int] at hz
        exact .inr ⟨z, k, rfl, hz⟩
  unfold oSlice at he
  split at he
  case h_2 => cases he
  case h_1 te l0 hte hlo =>
    have hu := (h.hT _ _ hte).und
    split at he
    case h_3 => cases he
    case h_1 el hdd =>
      simp only [hdd] at hu
      have helem : P.elem t = el := by simp [Program.elem, hu]
      split at he
      case h_2 => cases he
      case h_1 ee hee =>
      cases hpt : popT V x lo
      case true =>
        rw [hpt] at he
        simp only [cond_true] at he
        have hlo' : lo = none := by
          unfold popT at hpt
          split at hpt
          · rfl
          · cases hpt
        subst hlo'
        unfold popS at he
        split at he
        case h_2 => cases he
        case h_1 b hbx =>
          split at he
          case h_2 => cases he
          case h_1 r l hb =>
            split at he
            case h_2 => cases he
            case h_1 h0 hhi =>
              have c0 := (chk_some he).1
              replace he := (chk_some he).2
              have c2 := (chk_some he).1
              replace he := (chk_some he).2
              have c3 := (chk_some he).1
              replace he := (chk_some he).2
              have c4 := (chk_some he).1
              replace he := (chk_some he).2
              rw [h.hF.l] at he
              have := Option.some.inj he
              subst this
              clear he
              have c0 := Nat.eq_of_beq_eq_true c0
              have c2 : 0 ≤ h0 := by simpa using c2
              have c3 : h0 ≤ (l.length : Int) := by simpa using c3
              have c4 : memN s.fz b = false := by rw [h.fz] at c4; simpa using c4
              rw [h.rd] at hb
              rw [hbx] at hx
              have hlt : P.underlying t = some (.slice (P.elem t)) := by rw [helem]; exact hu
              have hsize : (sizeOf (P.elem t)).run P w = .ok ee.size w := by rw [helem]; exact (h.hT _ _ hee).size_run
              have eh : (h0.toNat : Int) = h0 := Int.toNat_of_nonneg c2
              refine popS_ok (sz := 0) h hd hb hx (by omega) c4 fun A c hv hc => ?_
              refine ⟨if c = 0 then A else A.map (·.add 0), ?_, ?_⟩
              · split
                · exact .inl rfl
                · cases A with
                  | none => exact .inl rfl
                  | some ad => exact .inl (by simp [Addr.add])
              · rcases bnd_inv hhi with ⟨rfl, rfl⟩ | ⟨zh, kh, rfl, hh⟩
                · have e9 : ((l.length : Int)).toNat = l.length := by omega
                  rw [e9]
                  simp only [execOp, hv, Option.map_none, Sem.run_bind, run_sliceAt_slice w t _ _ _ _ hlt, run_slice_all w t A l.length c hlt, hsize, Result.andThen_ok]
                  simp [sliced]
                · simp only [execOp, hv, hh, Option.map_none, Option.map_some, Sem.run_bind, run_sliceAt_slice w t _ _ _ _ hlt, run_slice_h w t A l.length c hlt kh h0 (by omega) (by omega), hsize, Result.andThen_ok]
                  simp [sliced]
      case false =>
      rw [hpt] at he
      simp only [cond_false] at he
      unfold cutSlice at he
      split at he
      case h_2 => cases he
      case h_1 r l hsn =>
        split at he
        case h_2 => cases he
        case h_1 h0 hhi =>
          obtain ⟨c0, he⟩ := chk_some he
          obtain ⟨c1, he⟩ := chk_some he
          obtain ⟨c2, he⟩ := chk_some he
          obtain ⟨c3, he⟩ := chk_some he
          rw [h.hF.l] at he
          have := Option.some.inj he
          subst this
          clear he
          have c0 := Nat.eq_of_beq_eq_true c0
          have c1 : 0 ≤ l0 := by simpa using c1
          have c2 : l0 ≤ h0 := by simpa using c2
          have c3 : h0 ≤ (l.length : Int) := by simpa using c3
          rw [h.rd] at hsn
          have hno : ∀ f caps, opnd V.tm x ≠ .fn f caps := by intro f caps e; rw [e] at hsn; simp [snap1] at hsn
          have hna : ∀ cs, opnd V.tm x ≠ .agg cs := by intro cs e; rw [e] at hsn; simp [snap1] at hsn
          have hnt : ∀ cs, opnd V.tm x ≠ .tup cs := by intro cs e; rw [e] at hsn; simp [snap1] at hsn
          have hx0 : Rep0 w g (opnd V.tm x) (a.eval x) := by
            rw [Rep_of hnt, Rep2_of hna, Rep1_of hno] at hx
            exact hx
          have hnm : names1 (opnd V.tm x) = names0 (opnd V.tm x) := by
            cases ho : opnd V.tm x <;> first | rfl | exact absurd ho (hno _ _)
          have hf := h.sim.freeze (names1 (opnd V.tm x))
          have hr := (snap1_rep h.sim hsn (ns := names1 (opnd V.tm x)) (fun b hb => by rw [hnm]; exact hb) hx0).1
          have hr' : RepLeaf w (g.more s (names1 (opnd V.tm x))).prot (.sl r) l (a.eval x) := hr
          simp only [RepLeaf] at hr'
          obtain ⟨A, c, hv, hc, hp⟩ := hr'
          have hlt : P.underlying t = some (.slice (P.elem t)) := by rw [helem]; exact hu
          have eh : (h0.toNat : Int) = h0 := Int.toNat_of_nonneg (by omega)
          have hsize : (sizeOf (P.elem t)).run P w = .ok ee.size w := by rw [helem]; exact (h.hT _ _ hee).size_run
          have hrun : (execOp a.eval ⟨dst, .slice t x lo hi none, ty, pos, af, gd⟩).run P w = .ok (.value (sliced A l0.toNat h0.toNat c ee.size)) w := by
            rcases bnd_inv hlo with ⟨rfl, rfl⟩ | ⟨zl, kl, rfl, hl⟩ <;> rcases bnd_inv hhi with ⟨rfl, rfl⟩ | ⟨zh, kh, rfl, hh⟩
            · simp only [execOp, hv, Option.map_none, Sem.run_bind, run_sliceAt_slice w t _ _ _ _ hlt, run_slice_all w t A l.length c hlt, hsize, Result.andThen_ok]
              rfl
            · simp only [execOp, hv, hh, Option.map_none, Option.map_some, Sem.run_bind, run_sliceAt_slice w t _ _ _ _ hlt, run_slice_h w t A l.length c hlt kh h0 (by omega) (by omega), hsize, Result.andThen_ok]
              rfl
            · simp only [execOp, hv, hl, Option.map_none, Option.map_some, Sem.run_bind, run_sliceAt_slice w t _ _ _ _ hlt, run_slice_l w t A l.length c hlt kl l0 c1 c2, hsize, Result.andThen_ok]
              rfl
            · simp only [execOp, hv, hl, hh, Option.map_none, Option.map_some, Sem.run_bind, run_sliceAt_slice w t _ _ _ _ hlt, run_slice_lh w t A l.length c hlt kl kh l0 h0 c1 c2 (by omega), hsize, Result.andThen_ok]
              rfl
          intro ro next Q nd hk
          refine wp_to nd hrun (hk _ _ (g.more s (names1 (opnd V.tm x))) ?_)
          have hlen : ((l.take h0.toNat).drop l0.toNat).length = h0.toNat - l0.toNat := by
            rw [List.length_drop, List.length_take]
            omega
          have hrep : Rep w (g.more s (names1 (opnd V.tm x))) (.imm r ((l.take h0.toNat).drop l0.toNat)) (sliced A l0.toNat h0.toNat c ee.size) := by
            show RepLeaf w (g.more s (names1 (opnd V.tm x))).prot (.sl r) ((l.take h0.toNat).drop l0.toNat) (sliced A l0.toNat h0.toNat c ee.size)
            simp only [RepLeaf]
            refine ⟨if c = l0.toNat then A else A.map (·.add (l0.toNat * ee.size)), c - l0.toNat, by rw [hlen]; rfl, by rw [hlen]; omega, fun hpos => ?_⟩
            rw [hlen] at hpos
            obtain ⟨B, o, rfl, hq⟩ := hp (by omega)
            refine ⟨B, o + l0.toNat * ee.size, ?_, fun i y hi => ?_⟩
            · rw [if_neg (by omega)]
              simp [add_zero]
            · have hil : l[l0.toNat + i]? = some y := by
                rw [List.getElem?_drop, List.getElem?_take] at hi
                split at hi
                · exact hi
                · cases hi
              have := hq _ y hil
              rw [c0]
              rw [Nat.add_mul] at this
              refine RepRow.keep (w := w) (w' := w) (pr := (g.more s (names1 (opnd V.tm x))).prot) (fun _ _ hp => ⟨rfl, hp⟩) (fun j u hj => ?_) (RepRow.shift this)
              rw [Nat.add_assoc]
              exact hj
          exact (hf.put (d := dst) hd hrep (by intro b hb; simp [names, names2, names1, names0] at hb)).more (fun b hb => .inl hb)
    case h_2 hdd =>
      simp only [hdd] at hu
      unfold cutStr at he
      split at he
      case h_2 => cases he
      case h_1 b hb =>
        split at he
        case h_2 => cases he
        case h_1 h0 hhi =>
          obtain ⟨c1, he⟩ := chk_some he
          obtain ⟨c2, he⟩ := chk_some he
          obtain ⟨c3, he⟩ := chk_some he
          have := val_inv he
          subst this
          have c1 : 0 ≤ l0 := by simpa using c1
          have c2 : l0 ≤ h0 := by simpa using c2
          have c3 : h0 ≤ (b.size : Int) := by simpa using c3
          rw [hb, rep_str] at hx
          refine VOk.opOk h.sim hd ⟨rfl, rfl, .string (b.extract l0.toNat h0.toNat), ?_, rep_str.2 rfl, by simp [names, names2, names1, names0]⟩
          have eh : (h0.toNat : Int) = h0 := Int.toNat_of_nonneg (by omega)
          rcases bnd_inv hlo with ⟨rfl, rfl⟩ | ⟨zl, kl, rfl, hl⟩ <;> rcases bnd_inv hhi with ⟨rfl, rfl⟩ | ⟨zh, kh, rfl, hh⟩
          · simp [execOp, hx, Instr.sliceAt, Instr.slice, run_underlying hu, Instr.sliceBounds]
          · simp [execOp, hx, hh, Instr.sliceAt, Instr.slice, run_underlying hu, Instr.sliceBounds, run_sliceBound, c2, c3]
          · simp [execOp, hx, hl, Instr.sliceAt, Instr.slice, run_underlying hu, Instr.sliceBounds, run_sliceBound, c1, c2]
          · simp [execOp, hx, hl, hh, Instr.sliceAt, Instr.slice, run_underlying hu, Instr.sliceBounds, run_sliceBound, c1, c2, c3, eh, show 0 ≤ h0 by omega]
end
end Go.Proofs.Ytcjhegiidnjepaa.Ev
