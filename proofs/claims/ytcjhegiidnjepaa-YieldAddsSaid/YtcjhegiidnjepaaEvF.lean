/- Stores. -/
import Derived.Test.YtcjhegiidnjepaaEvE
namespace Go.Proofs.Ytcjhegiidnjepaa.Ev
open Go.RowKit
set_option linter.unusedVariables false
set_option linter.unusedSimpArgs false

theorem memB_iff (l : List Nat) (n : Nat) : memB l n = true ↔ n ∈ l := by
  induction l with
  | nil => simp [memB]
  | cons a r ih =>
    simp only [memB, List.mem_cons]
    by_cases h : a = n
    · subst h; simp
    · rw [(beq_ne h : Nat.beq a n = false)]
      simp only [cond_false, ih]
      exact ⟨.inr, fun h' => h'.resolve_left (fun e => h e.symm)⟩
theorem Unt.setRow {O : Nat → Prop} (w : World) {g : Nat} (hg : ¬ O g) (cs : Array Value) : Unt O w (w.setRow g cs) := ⟨rfl, rfl, rfl, by simp, fun k hk => setRow_other w g k cs (by rintro rfl; exact hg hk)⟩
/-- The cells from k on are replaced. -/
def cellsPut (arr : Array Value) (k : Nat) (us : List Value) : Array Value := (arr.toList.take k ++ us ++ arr.toList.drop (k + us.length)).toArray
theorem cellsPut_size {arr : Array Value} {k : Nat} {us : List Value} (h : k + us.length ≤ arr.size) : (cellsPut arr k us).size = arr.size := by
  simp [cellsPut]
  omega
theorem cellsPut_in {arr : Array Value} {k : Nat} {us : List Value} (h : k + us.length ≤ arr.size) {j : Nat} (hj : j < us.length) : (cellsPut arr k us)[k + j]? = us[j]? := by
  simp only [cellsPut, List.getElem?_toArray]
  rw [List.append_assoc, List.getElem?_append_right (by simp; omega), List.length_take, show k + j - min k arr.toList.length = j by simp; omega, List.getElem?_append_left hj]
theorem cellsPut_out {arr : Array Value} {k : Nat} {us : List Value} (h : k + us.length ≤ arr.size) {j : Nat} (hj : j < k ∨ k + us.length ≤ j) : (cellsPut arr k us)[j]? = arr[j]? := by
  simp only [cellsPut, List.getElem?_toArray]
  rcases hj with hj | hj
  · rw [List.append_assoc, List.getElem?_append_left (by simp; omega), List.getElem?_take]
    simp [hj]
  · rw [List.getElem?_append_right (by simp; omega), List.getElem?_drop]
    simp only [List.length_append, List.length_take, Array.length_toList]
    rw [show k + us.length + (j - (min k arr.size + us.length)) = j by omega]
    simp
section
variable {P : Program} {X : Fix} {U : Nat → Prop} {dst : Option Tmp} {ty : TypeId} {pos : String} {af : Array Edge} {gd : Option (Nat × Bool)} {s : Sx} {a : Act} {w : World} {g : Gh} {e : Eff} {V : Vw}
theorem store_run {te : TyE} {t : Nat} (hT : TOk P t te) {B k : Nat} {arr : Array Value} {el : TypeId} {x y : Operand} {u : Value} (hx : a.eval x = .pointer (some ⟨B, k, none⟩)) (hy : a.eval y = u) (hB : w.heap[B]? = some (.cells arr el (0, 0))) (hs : u.cells.size = te.size) (hk : k + te.size ≤ arr.size) (h1 : ∀ v ∈ u.cells.toList, v.oneCell' = true) :
    (execOp a.eval ⟨dst, .store t x y, ty, pos, af, gd⟩).run P w = .ok .skip (w.setRow B (cellsPut arr k u.cells.toList)) := by
  have hst := run_storeCells_at P B k el u.cells.toList 0 arr w hB (by simp; omega) h1
  simp only [Nat.add_zero] at hst
  simp [execOp, hx, hy, Instr.storeAt, Instr.sureAddr, storeVar, hT.size_run, hs, hst, cellsPut]
theorem oStore_ok (h : Hyp P X U V s a w g) (hd : ∀ t, dst = some t → t < X.nt) {t : Nat} {x y : Operand} (he : oStore V t x y some = some e) : OpOk P X U ⟨dst, .store t x y, ty, pos, af, gd⟩ s a w V.nm e := by
  have hx := h.op x
  have hy := h.op y
  unfold oStore at he
  split at he
  case h_2 => cases he
  case h_1 te hte =>
    obtain ⟨hc, he⟩ := chk_some he
    simp only [Bool.and_eq_true] at hc
    obtain ⟨hp, hl⟩ := hc
    have hl := Nat.eq_of_beq_eq_true hl
    obtain ⟨hcell, hnm⟩ := rep_cells hp hy
    have hyn : ∀ b ∈ namesL (cellsOf (opnd V.tm y)), U b := fun b hb => h.opn y b ((hnm b).2 hb)
    have hone : ∀ v ∈ (a.eval y).cells.toList, v.oneCell' = true := plain_list hp hcell
    have hus : (a.eval y).cells.size = te.size := by have := hcell.length; simp at this; omega
    have huL : (a.eval y).cells.toList.length = te.size := by simpa using hus
    unfold storeTo at he
    split at he
    case h_3 => cases he
    case h_1 b off h1 =>
      split at he
      case h_2 => cases he
      case h_1 cs hb =>
        obtain ⟨hk, he⟩ := chk_some he
        have hk : off + te.size ≤ cs.length := by simpa using hk
        rw [forceCells_eq h.hF] at he
        have := Option.some.inj he
        subst this
        clear he
        rw [h.rd] at hb
        rw [h1] at hx
        obtain ⟨B, hB, hv⟩ := hx
        obtain ⟨B', arr, el, f1, f2, f3⟩ := h.sim.blk b _ hb
        obtain rfl : B = B' := Option.some.inj (hB.symm.trans f1)
        have hal : cs.length = arr.size := by simpa using f3.length
        have hrun := store_run (P := P) (dst := dst) (ty := ty) (pos := pos) (af := af) (gd := gd) (a := a) (h.hT _ _ hte) hv rfl f2 hus (by omega) hone
        intro ro next Q nd hkk
        refine wp_skipped nd hrun (hkk _ _ g ?_)
        have hext : GExt w (w.setRow B (cellsPut arr off (a.eval y).cells.toList)) g g U :=
          ⟨fun k o hpr => ⟨cell_same (setRow_other w B k _ (fun e => h.sim.unp b cs B o hb hB (e ▸ hpr))) o, hpr⟩, fun _ _ => rfl, fun _ _ => rfl, fun _ _ => rfl⟩
        have hne : ∀ c y' B', c ≠ b → get s.bl c = some y' → g.at_ c = some B' → B' ≠ B := by
          rintro c y' B' hcb hy' hB' rfl
          exact hcb (h.sim.inj c b _ _ _ hy' hb hB' hB)
        have hm := h.sim.one (w' := w.setRow B (cellsPut arr off (a.eval y).cells.toList)) (g' := g) (U' := U) b (.box (splice cs off (cellsOf (opnd V.tm y)))) (setB s.bl b (.box (splice cs off (cellsOf (opnd V.tm y))))) s.fz (fun _ hb => hb) (fun c y' hcb hy' => by rw [get_setB, if_neg hcb] at hy'; exact hy') (by rw [get_setB, if_pos rfl]) (fun _ _ hf => hf) hext
          (fun c y' B' hcb hy' hB' => by rw [get_setB, if_neg hcb] at hy'; exact ⟨setRow_other w B B' _ (hne c y' B' hcb hy' hB'), fun o ho => ho⟩)
          ⟨B, cellsPut arr off (a.eval y).cells.toList, el, hB, setRow_heap w B arr _ el (0, 0) f2, by
            have hr : RepL (Rep1 w g) (splice cs off (cellsOf (opnd V.tm y))) (cellsPut arr off (a.eval y).cells.toList).toList := by
              rw [splice_eq _ _ _ (by omega)]
              simp only [cellsPut]
              refine ((RepL.take _ f3).append hcell).append ?_
              rw [hcell.length]
              exact f3.drop _
            have hsn : ∀ c ∈ namesL (splice cs off (cellsOf (opnd V.tm y))), U c := by
              intro c hc
              rw [splice_eq _ _ _ (by omega)] at hc
              have key : ∀ l l' : List AV, c ∈ namesL (l ++ l') → c ∈ namesL l ∨ c ∈ namesL l' := by
                intro l l'
                induction l with
                | nil => exact fun h => .inr h
                | cons c l ih => simp only [List.cons_append, namesL, List.mem_append]; rintro (h | h); exact .inl (.inl h); exact (ih h).imp .inr id
              rcases key _ _ hc with hc | hc
              · rcases key _ _ hc with hc | hc
                · exact h.sim.nmB b cs hb c (names_mem_take hc)
                · exact hyn c hc
              · exact h.sim.nmB b cs hb c (names_mem_drop hc)
            exact hr.imp fun c hc v hv => Rep1.ext hext (fun n hn => hsn n (mem_namesL hc hn)) hv⟩
          (fun cs' B' o hcs hB' hpr => h.sim.unp b cs B' o hb hB' hpr) (fun r l B' o hx => by cases hx)
          (fun c y' B' hcb hy' hB' hB'' => by
            rw [get_setB, if_neg hcb] at hy'
            rw [hB] at hB''
            cases hB''
            exact hne c y' B hcb hy' hB' rfl) (fun B' hB' => h.sim.new b _ B' hb hB') (fun _ _ _ => Iff.rfl) (fun B' o hpr => by simpa using h.sim.plt B' o hpr) (Unt.setRow w (h.sim.new b _ B hb hB) _) (h.sim.nmK b _ hb)
          (fun cs' hcs c hc => by
            cases hcs
            rw [splice_eq _ _ _ (by omega)] at hc
            have key : ∀ l l' : List AV, c ∈ namesL (l ++ l') → c ∈ namesL l ∨ c ∈ namesL l' := by
              intro l l'
              induction l with
              | nil => exact fun h => .inr h
              | cons c l ih => simp only [List.cons_append, namesL, List.mem_append]; rintro (h | h); exact .inl (.inl h); exact (ih h).imp .inr id
            rcases key _ _ hc with hc | hc
            · rcases key _ _ hc with hc | hc
              · exact h.sim.nmB b cs hb c (names_mem_take hc)
              · exact hyn c hc
            · exact h.sim.nmB b cs hb c (names_mem_drop hc))
        exact (hm.put (d := dst) (v := .undef) (u := undef) hd trivial (by intro b hb; simp [names, names2, names1, names0] at hb)).more (fun b hb => .inl hb)
    case h_2 b z i off h1 =>
      obtain ⟨hfz, he⟩ := chk_some he
      have hfz : memN s.fz b = false := by rw [h.fz] at hfz; simpa using hfz
      split at he
      case h_2 => cases he
      case h_1 r l hb =>
        obtain ⟨hk, he⟩ := chk_some he
        simp only [Bool.and_eq_true, Nat.ble_eq] at hk
        obtain ⟨hz, hk⟩ := hk
        have hz := Nat.eq_of_beq_eq_true hz
        unfold storeRow at he
        obtain ⟨hbn, he⟩ := chk_some he
        have hbn : b ∉ namesL (cellsOf (opnd V.tm y)) := by
          intro hc
          rw [(memB_iff _ _).2 hc] at hbn
          cases hbn
        split at he
        case h_2 => cases he
        case h_1 ys' hsn =>
          split at he
          case h_2 => cases he
          case h_1 x' hdec =>
            rw [h.hF.l] at he
            have := Option.some.inj he
            subst this
            clear he
            rw [h.rd] at hb hsn
            rw [h1] at hx
            obtain ⟨B, hB, hi, hv⟩ := hx
            obtain ⟨e1, e2, e3⟩ := h.sim.blk b _ hb
            obtain ⟨arr, el, f1, f2, f3, f4, f5⟩ := e3 B hB
            rw [e1] at hi
            subst hz
            have hli : l[i]? = some (l.getD i (Row.dflt r)) := by simp [List.getD, List.getElem?_eq_getElem hi]
            have hwid : i * Row.size r + Row.size r ≤ arr.size := by
              rw [f2]
              calc i * Row.size r + Row.size r = (i + 1) * Row.size r := by rw [Nat.add_mul, Nat.one_mul]
                _ ≤ g.cap b * Row.size r := Nat.mul_le_mul_right _ (by omega)
            have hrun := store_run (P := P) (dst := dst) (ty := ty) (pos := pos) (af := af) (gd := gd) (a := a) (h.hT _ _ hte) hv rfl f1 hus (by omega) hone
            have h1s := h.sim.freeze (namesL (cellsOf (opnd V.tm y)))
            have hnop : ∀ o, ¬ (g.more s (namesL (cellsOf (opnd V.tm y)))).prot B o := by
              rintro o (hp' | ⟨c, hc, r', l', hc', hcB, _⟩)
              · exact h.sim.unf b r l B o hb hfz hB hp'
              · exact hbn (by rw [← h.sim.inj c b _ _ B hc' hb hcB hB]; exact hc)
            intro ro next Q nd hkk
            refine wp_skipped nd hrun (hkk _ _ (g.more s (namesL (cellsOf (opnd V.tm y)))) ?_)
            have hext : GExt w (w.setRow B (cellsPut arr (i * Row.size r + off) (a.eval y).cells.toList)) (g.more s (namesL (cellsOf (opnd V.tm y)))) (g.more s (namesL (cellsOf (opnd V.tm y)))) U :=
              ⟨fun k o hpr => ⟨cell_same (setRow_other w B k _ (fun e => hnop o (e ▸ hpr))) o, hpr⟩, fun _ _ => rfl, fun _ _ => rfl, fun _ _ => rfl⟩
            have hne : ∀ c y' B', c ≠ b → get s.bl c = some y' → g.at_ c = some B' → B' ≠ B := by
              rintro c y' B' hcb hy' hB' rfl
              exact hcb (h.sim.inj c b _ _ _ hy' hb hB' hB)
            have hbr := h1s.blk b _ hb
            obtain ⟨_, _, q3⟩ := hbr
            obtain ⟨arr2, el2, q4, q5, q6, q7, _⟩ := q3 B hB
            have hae : arr2 = arr := by
              rw [f1] at q4
              cases q4
              rfl
            subst hae
            have hm := h1s.one (w' := w.setRow B (cellsPut arr2 (i * Row.size r + off) (a.eval y).cells.toList)) (g' := g.more s (namesL (cellsOf (opnd V.tm y)))) (U' := U) b (.row r (l.set i x')) (setB s.bl b (.row r (l.set i x'))) (namesL (cellsOf (opnd V.tm y)) ++ s.fz) (fun _ hb => hb) (fun c y' hcb hy' => by rw [get_setB, if_neg hcb] at hy'; exact hy') (by rw [get_setB, if_pos rfl]) (fun _ _ hf => hf) hext
              (fun c y' B' hcb hy' hB' => by rw [get_setB, if_neg hcb] at hy'; exact ⟨setRow_other w B B' _ (hne c y' B' hcb hy' hB'), fun o ho => ho⟩)
              ⟨by simp only [List.length_set]; exact e1, fun hnone => absurd (hB.symm.trans hnone) (by simp), fun B' hB' => by
                have hB2 : B = B' := Option.some.inj (hB.symm.trans hB')
                subst hB2
                refine ⟨cellsPut arr2 (i * Row.size r + off) (a.eval y).cells.toList, el, setRow_heap w B arr2 _ el (0, 0) f1, by rw [cellsPut_size (by rw [huL]; omega)]; exact f2, by rw [List.length_set]; exact f3, fun j z hj => ?_, fun o ho => absurd ho (hnop o)⟩
                rw [List.getElem?_set] at hj
                by_cases hij : i = j
                · subst hij
                  rw [if_pos rfl, if_pos hi] at hj
                  have := Option.some.inj hj
                  subst this
                  obtain ⟨vs0, k1, k2⟩ := (q7 i _ hli).enc
                  have hv0 : vs0.length = Row.size r := by rw [← k1.length, enc_length]
                  have hy' := snapL_rep h.sim hsn (fun b hb => hb) hcell
                  have hy'l : ys'.length = te.size := by rw [snapL_len hsn, hl]
                  have hsp : RepL (Rep1 w (g.more s (namesL (cellsOf (opnd V.tm y))))) (splice (Row.enc r (l.getD i (Row.dflt r))) off ys') (vs0.take off ++ (a.eval y).cells.toList ++ vs0.drop (off + (a.eval y).cells.toList.length)) := by
                    rw [splice_eq _ _ _ (by rw [enc_length]; omega)]
                    refine ((RepL.take _ k1).append hy').append ?_
                    rw [hy'.length]
                    exact k1.drop _
                  have hrow : RepRow w (g.more s (namesL (cellsOf (opnd V.tm y)))).prot r x' (fun o u => (cellsPut arr2 (i * Row.size r + off) (a.eval y).cells.toList)[o]? = some u) (i * Row.size r) := by
                    refine row_dec hdec hsp (fun j v hjv => ?_)
                    have hlt : j < Row.size r := by
                      have := (List.getElem?_eq_some_iff.1 hjv).1
                      simp only [List.length_append, List.length_take, List.length_drop, huL, hv0] at this
                      omega
                    by_cases hj1 : j < off
                    · rw [cellsPut_out (by rw [huL]; omega) (.inl (by omega))]
                      refine k2 j v ?_
                      rw [List.append_assoc, List.getElem?_append_left (by rw [List.length_take, hv0]; omega), List.getElem?_take, if_pos hj1] at hjv
                      exact hjv
                    · by_cases hj2 : j < off + te.size
                      · have e4 : i * Row.size r + j = (i * Row.size r + off) + (j - off) := by omega
                        rw [e4, cellsPut_in (by rw [huL]; omega) (by rw [huL]; omega)]
                        rw [List.append_assoc, List.getElem?_append_right (by rw [List.length_take, hv0]; omega), List.length_take, hv0, List.getElem?_append_left (by rw [huL]; omega)] at hjv
                        rw [show min off (Row.size r) = off by omega] at hjv
                        exact hjv
                      · rw [cellsPut_out (by rw [huL]; omega) (.inr (by rw [huL]; omega))]
                        refine k2 j v ?_
                        rw [List.getElem?_append_right (by rw [List.length_append, List.length_take, hv0, huL]; omega), List.getElem?_drop, List.length_append, List.length_take, hv0, huL] at hjv
                        rwa [show off + te.size + (j - (min off (Row.size r) + te.size)) = j by omega] at hjv
                  exact RepRow.keep hext.keep (fun _ _ hq => hq) hrow
                · rw [if_neg hij] at hj
                  refine RepRow.keepB hext.keep (fun o u h1 h2 hq => ?_) (q7 j z hj)
                  rw [cellsPut_out (by rw [huL]; omega) ?_]
                  · exact hq
                  · rw [huL]
                    rcases Nat.lt_or_gt_of_ne hij with hlt | hgt
                    · right
                      have : (i + 1) * Row.size r ≤ j * Row.size r := Nat.mul_le_mul_right _ hlt
                      rw [Nat.add_mul, Nat.one_mul] at this
                      omega
                    · left
                      have : (j + 1) * Row.size r ≤ i * Row.size r := Nat.mul_le_mul_right _ hgt
                      rw [Nat.add_mul, Nat.one_mul] at this
                      omega⟩
              (fun cs' B' o hcs => by cases hcs) (fun r' l' B' o hx hf hB' hpr => by have hB2 : B = B' := Option.some.inj (hB.symm.trans hB'); subst hB2; exact hnop o hpr)
              (fun c y' B' hcb hy' hB' hB'' => by
                rw [get_setB, if_neg hcb] at hy'
                have hB2 : B = B' := Option.some.inj (hB.symm.trans hB'')
                exact hne c y' B' hcb hy' hB' hB2.symm) (fun B' hB' => h.sim.new b _ B' hb hB') (fun _ _ _ => Iff.rfl) (fun B' o hpr => by simpa using h1s.plt B' o hpr) (Unt.setRow w (h.sim.new b _ B hb hB) _) (h.sim.nmK b _ hb)
              (fun cs' hcs => by cases hcs)
            exact (hm.put (d := dst) (v := .undef) (u := undef) hd trivial (by intro b hb; simp [names, names2, names1, names0] at hb)).more (fun b hb => .inl hb)
end
end Go.Proofs.Ytcjhegiidnjepaa.Ev
