/- Blocks that are made: alloc, box, slices written out. -/
import Derived.Test.YtcjhegiidnjepaaEvC
namespace Go.Proofs.Ytcjhegiidnjepaa.Ev
open Go.RowKit
set_option linter.unusedVariables false
set_option linter.unusedSimpArgs false

def Gh.set (g : Gh) (n B ln cp : Nat) : Gh := ⟨fun b => if b = n then some B else g.at_ b, fun b => if b = n then ln else g.len b, fun b => if b = n then cp else g.cap b, g.prot⟩
def upto1 (U : Nat → Prop) (n : Nat) : Nat → Prop := fun b => U b ∨ b = n
theorem gext_set {X : Fix} {U : Nat → Prop} {s : Sx} {a : Act} {w w' : World} {g : Gh} (h : Sim X U s a w g) {n B ln cp : Nat} (hn : ¬ U n) (hw : ∀ k o, g.prot k o → w'.cell? ⟨k, o, none⟩ = w.cell? ⟨k, o, none⟩) : GExt w w' g (g.set n B ln cp) U :=
  ⟨fun k o hp => ⟨hw k o hp, hp⟩,
    fun b hb => by simp only [Gh.set]; rw [if_neg (by rintro rfl; exact hn hb)], fun b hb => by simp only [Gh.set]; rw [if_neg (by rintro rfl; exact hn hb)], fun b hb => by simp only [Gh.set]; rw [if_neg (by rintro rfl; exact hn hb)]⟩
theorem cell_same {w w' : World} {k : Nat} (h : w'.heap[k]? = w.heap[k]?) (o : Nat) : w'.cell? ⟨k, o, none⟩ = w.cell? ⟨k, o, none⟩ := World.cell?_of_block (w := w) (w' := w') (a := ⟨k, o, none⟩) h
theorem BlkRep.lt {X : Fix} {U : Nat → Prop} {s : Sx} {a : Act} {w : World} {g : Gh} (h : Sim X U s a w g) {b : Nat} {x : Blk} {B : Nat} (hb : get s.bl b = some x) (hB : g.at_ b = some B) : B < w.heap.size := by
  have := h.blk b x hb
  cases x with
  | box cs =>
    obtain ⟨B', arr, ty, h1, h2, _⟩ := this
    rw [hB] at h1
    cases h1
    exact (Array.getElem?_eq_some_iff.1 h2).1
  | row r l =>
    obtain ⟨_, _, h3⟩ := this
    obtain ⟨arr, ty, h2, _⟩ := h3 B hB
    exact (Array.getElem?_eq_some_iff.1 h2).1
/-- A block is made. -/
theorem Sim.made {X : Fix} {U : Nat → Prop} {s : Sx} {a : Act} {w w' : World} {g : Gh} (h : Sim X U s a w g) {n ln cp : Nat} (hn : ¬ U n) (hw : ∀ k, k < w.heap.size → w'.heap[k]? = w.heap[k]?) (hB : w.heap.size < w'.heap.size) (hbelow : Unt X.old w w')
    (x : Blk) (hrep : BlkRep w' (g.set n w.heap.size ln cp) n x) (hUc : ∀ cs, x = .box cs → ∀ c ∈ namesL cs, U c) : Sim X (upto1 U n) ⟨s.tm, setB s.bl n x, s.fz, s.nx⟩ a w' (g.set n w.heap.size ln cp) := by
  have hat : (g.set n w.heap.size ln cp).at_ n = some w.heap.size := by simp [Gh.set]
  refine h.one n x _ _ (fun b hb => .inl hb) (fun b y hb hy => by rw [get_setB, if_neg hb] at hy; exact hy) (by rw [get_setB, if_pos rfl]) (fun _ _ hf => hf) (gext_set h hn (fun k o hp => cell_same (hw k (h.plt k o hp)) o)) ?_ hrep ?_ ?_ ?_ ?_ (fun _ _ _ => Iff.rfl) ?_ hbelow (.inr rfl) (fun cs hx c hc => .inl (hUc cs hx c hc))
  · intro b y B hb hy hBb
    rw [get_setB, if_neg hb] at hy
    exact ⟨hw B (BlkRep.lt h hy hBb), fun o ho => ho⟩
  · intro cs B o _ hB' hp
    rw [hat] at hB'
    cases hB'
    exact absurd (h.plt _ o hp) (Nat.lt_irrefl _)
  · intro r l B o _ _ hB' hp
    rw [hat] at hB'
    cases hB'
    exact absurd (h.plt _ o hp) (Nat.lt_irrefl _)
  · intro b y B hb hy hBb hB'
    rw [get_setB, if_neg hb] at hy
    rw [hat] at hB'
    cases hB'
    exact absurd (BlkRep.lt h hy hBb) (Nat.lt_irrefl _)
  · intro B hB'
    rw [hat] at hB'
    cases hB'
    exact fun hO => Nat.lt_irrefl _ (h.blt _ hO)
  · exact fun B o hp => Nat.lt_trans (h.plt B o hp) hB

theorem upto_of {U : Nat → Prop} {n b : Nat} (h : upto1 U n b) : upto n U b := h.imp id (fun e => ⟨by omega, by omega⟩)
section
variable {P : Program} {X : Fix} {U : Nat → Prop} {dst : Option Tmp} {ty : TypeId} {pos : String} {af : Array Edge} {gd : Option (Nat × Bool)} {s : Sx} {a : Act} {w : World} {g : Gh} {e : Eff} {V : Vw}
theorem heap_alloc_lt (w : World) (o : Obj) : ∀ k, k < w.heap.size → (w.alloc o).heap[k]? = w.heap[k]? := fun k hk => Below.heap_alloc w o k hk
theorem heap_alloc_size (w : World) (o : Obj) : w.heap.size < (w.alloc o).heap.size := by simp
/-- A box with the cells. -/
theorem box_ok (h : Hyp P X U V s a w g) (hd : ∀ t, dst = some t → t < X.nt) {o : Op} {cs : List AV} {vs : Array Value} {el : TypeId} (hr : RepL (Rep1 w g) cs vs.toList) (hn : ∀ b ∈ namesL cs, U b)
    (hrun : (execOp a.eval ⟨dst, o, ty, pos, af, gd⟩).run P w = .ok (.value (.pointer (some ⟨w.heap.size, 0, none⟩))) (w.alloc (.cells vs el))) :
    OpOk P X U ⟨dst, o, ty, pos, af, gd⟩ s a w V.nm ⟨.ptr V.nm 0, [(V.nm, some (.box cs))], []⟩ := by
  intro ro next Q nd hk
  have hfresh : ¬ U V.nm := h.fresh V.nm (Nat.le_refl _) (by omega)
  refine wp_to nd hrun (hk _ _ (g.set V.nm w.heap.size 0 0) ?_)
  have hext := gext_set h.sim (n := V.nm) (B := w.heap.size) (ln := 0) (cp := 0) (w' := w.alloc (.cells vs el)) hfresh (fun k o hp => cell_same (heap_alloc_lt w _ k (h.sim.plt k o hp)) o)
  have hm := h.sim.made (n := V.nm) (ln := 0) (cp := 0) hfresh (heap_alloc_lt w (.cells vs el)) (heap_alloc_size w _) ((Unt.refl X.old w).alloc h.sim.blt _) (.box cs)
    ⟨w.heap.size, vs, el, by simp [Gh.set], heap_alloc_new w _, hr.imp fun c hc v hv => Rep1.ext hext (fun b hb => hn b (mem_namesL hc hb)) hv⟩ (fun cs' hx c hc => by cases hx; exact hn c hc)
  exact (hm.put (d := dst) (v := .ptr V.nm 0) (u := .pointer (some ⟨w.heap.size, 0, none⟩)) hd ⟨w.heap.size, by simp [Gh.set], rfl⟩ (by intro b hb; simp only [names, names2, names1, names0, List.mem_singleton] at hb; exact .inr hb)).more (fun b hb => upto_of hb)
theorem oBox_ok (h : Hyp P X U V s a w g) (hd : ∀ t, dst = some t → t < X.nt) {el : Nat} {x : Operand} (he : oBox V x some = some e) : OpOk P X U ⟨dst, .box el x, ty, pos, af, gd⟩ s a w V.nm e := by
  have hx := h.op x
  have hn := h.opn x
  have main : ∀ v, opnd V.tm x = v → known v = true → OpOk P X U ⟨dst, .box el x, ty, pos, af, gd⟩ s a w V.nm ⟨.ptr V.nm 0, [(V.nm, some (.box (cellsOf v)))], []⟩ := by
    intro v hv hk
    rw [hv] at hx hn
    have key : RepL (Rep1 w g) (cellsOf v) (a.eval x).cells.toList ∧ ∀ b ∈ namesL (cellsOf v), U b := by
      by_cases ha : ∃ cs, v = .agg cs
      · obtain ⟨cs, rfl⟩ := ha
        rw [rep_aggE] at hx
        obtain ⟨vs, hv', hl⟩ := hx
        rw [hv']
        exact ⟨by simpa [cellsOf, Value.cells] using hl, hn⟩
      · have hp : (cellsOf v).all plain1 = true := by cases v <;> first | rfl | (simp [known] at hk; done) | exact absurd ⟨_, rfl⟩ ha
        obtain ⟨k1, k2⟩ := rep_cells hp hx
        exact ⟨k1, fun b hb => hn b ((k2 b).2 hb)⟩
    refine box_ok h hd (el := el) key.1 key.2 ?_
    simp [execOp, Instr.box, newVar, newRow]
  unfold oBox at he
  split at he
  · cases he
  · cases he
  · cases he
  · rename_i v h1 h2 h3
    cases he
    refine main _ rfl ?_
    cases hv : opnd V.tm x <;> first | rfl | exact absurd hv (by assumption) | exact absurd hv (h3 _)
theorem oAlloc_ok (h : Hyp P X U V s a w g) (hd : ∀ t, dst = some t → t < X.nt) {t : Nat} (he : oAlloc V t some = some e) : OpOk P X U ⟨dst, .alloc t, ty, pos, af, gd⟩ s a w V.nm e := by
  unfold oAlloc at he
  split at he
  case h_2 => cases he
  case h_1 te hte =>
    cases he
    obtain ⟨i, z, g1, g2, g3, g4, g5, g6, g7⟩ := zero_rep (w := w) (g := g) h.hT hte
    refine box_ok h hd (vs := z.cells) (el := t) g5 (by rw [g7]; simp) ?_
    simp [execOp, Instr.alloc, zeroValue, typeInfo, g1, g4, newVar, newRow]
end

/-! ### Rows out of cells -/
section
variable {w : World} {g : Gh}
theorem cast_rep {r t : Row} {l : List (Row.T r)} {l' : List (Row.T t)} {v : Value} {pr : Nat → Nat → Prop} (hc : castRow l = some l') (h : RepLeaf w pr (.sl r) l v) : RepLeaf w pr (.sl t) l' v := by
  unfold castRow at hc
  split at hc
  case isFalse => cases hc
  case isTrue hb =>
    have := Row.eq_of_beq hb
    subst this
    cases hc
    exact h
theorem none_some {α : Type} {x : α} (h : none = some x) : False := by cases h
theorem dec_int {k : IntKind} {c : AV} {x : Int} (hd : decInt k c = some x) : c = .int k x := by
  unfold decInt at hd
  split at hd
  · split at hd
    · rename_i h; subst h; cases hd; rfl
    · cases hd
  · cases hd
theorem dec_bool {c : AV} {x : Bool} (hd : decBool c = some x) : c = .bool x := by
  unfold decBool at hd
  split at hd <;> cases hd
  rfl
theorem dec_str {c : AV} {x : ByteArray} (hd : decStr c = some x) : c = .str x := by
  unfold decStr at hd
  split at hd <;> cases hd
  rfl
theorem leaf_dec {l : Leaf} {c : AV} {x : Leaf.T l} {v : Value} (hd : Leaf.dec l c = some x) (h : Rep1 w g c v) : RepLeaf w g.prot l x v := by
  cases l with
  | int k =>
    have := dec_int hd
    subst this
    exact h
  | bool =>
    have := dec_bool hd
    subst this
    exact h
  | str =>
    have := dec_str hd
    subst this
    exact h
  | sl r =>
    have hd' : decSl r c = some x := hd
    unfold decSl at hd'
    split at hd'
    · have := Option.some.inj hd'
      subst this
      have hv : v = .slice none 0 0 := h
      subst hv
      exact ⟨none, 0, rfl, Nat.le_refl _, fun hl => absurd hl (by simp)⟩
    · exact cast_rep hd' h
    · exact (none_some hd').elim
theorem pairO_inv {α β : Type} {x : Option α} {y : Option β} {p : α × β} (h : pairO x y = some p) : x = some p.1 ∧ y = some p.2 := by
  unfold pairO at h
  split at h
  · cases h; exact ⟨rfl, rfl⟩
  · cases h
theorem row_dec : ∀ {r : Row} {cs : List AV} {x : Row.T r} {vs : List Value} {q : Nat → Value → Prop} {o : Nat}, Row.dec r cs = some x → RepL (Rep1 w g) cs vs → (∀ j v, vs[j]? = some v → q (o + j) v) → RepRow w g.prot r x q o
  | .one l, cs, x, vs, q, o, hd, hr, hq => by
    have hd' : one1 (Leaf.dec l) cs = some x := hd
    unfold one1 at hd'
    split at hd'
    case h_2 => exact (none_some hd').elim
    case h_1 c =>
      cases vs with
      | nil => simp [RepL] at hr
      | cons v vs =>
        simp only [RepL] at hr
        exact ⟨v, hq 0 v rfl, leaf_dec hd' hr.1⟩
  | .cons l r, cs, x, vs, q, o, hd, hr, hq => by
    have hd' : cons1 (Leaf.dec l) (Row.dec r) cs = some x := hd
    unfold cons1 at hd'
    split at hd'
    case h_2 => exact (none_some hd').elim
    case h_1 c cs =>
      obtain ⟨h1, h2⟩ := pairO_inv hd'
      cases vs with
      | nil => simp [RepL] at hr
      | cons v vs =>
        simp only [RepL] at hr
        refine ⟨⟨v, hq 0 v rfl, leaf_dec h1 hr.1⟩, row_dec h2 hr.2 (fun j u hu => ?_)⟩
        have := hq (j + 1) u (by simpa using hu)
        rwa [show o + 1 + j = o + (j + 1) by omega]
theorem rows_dec {r : Row} {n : Nat} : ∀ (m : Nat) {cs : List AV} {l : List (Row.T r)} {vs : List Value} {q : Nat → Value → Prop} {o : Nat}, decRows r n m cs = some l → RepL (Rep1 w g) cs vs → (∀ j v, vs[j]? = some v → q (o + j) v) →
    l.length = m ∧ ∀ i x, l[i]? = some x → RepRow w g.prot r x q (o + i * n)
  | 0, cs, l, vs, q, o, hd, hr, hq => by
    simp only [decRows, Option.some.injEq] at hd
    subst hd
    exact ⟨rfl, fun i x hi => by simp at hi⟩
  | m + 1, cs, l, vs, q, o, hd, hr, hq => by
    simp only [decRows] at hd
    split at hd
    case h_2 => exact (none_some hd).elim
    case h_1 x y h1 h2 =>
      have hx := Option.some.inj hd
      subst hx
      rw [takeN_eq] at h1
      rw [dropN_eq] at h2
      obtain ⟨k1, k2⟩ := rows_dec m (o := o + n) h2 (hr.drop n) (fun j v hv => by rw [Nat.add_assoc]; exact hq (n + j) v (by simpa using hv))
      refine ⟨by simp [k1], fun i z hi => ?_⟩
      cases i with
      | zero =>
        simp only [List.getElem?_cons_zero, Option.some.injEq] at hi
        subst hi
        refine row_dec h1 (RepL.take n hr) (fun j v hv => ?_)
        rw [List.getElem?_take] at hv
        split at hv
        · simpa using hq j v hv
        · cases hv
      | succ i =>
        simp only [List.getElem?_cons_succ] at hi
        have := k2 i z hi
        rwa [show o + n + i * n = o + (i + 1) * n by rw [Nat.add_mul]; omega] at this
end
/-- Snapshots of cells. -/
theorem snapL_rep {X : Fix} {U : Nat → Prop} {s : Sx} {a : Act} {w : World} {g : Gh} (h : Sim X U s a w g) {ns : List Nat} : ∀ {cs cs' : List AV} {vs : List Value}, snapL (get s.bl) cs = some cs' → (∀ b ∈ namesL cs, b ∈ ns) → RepL (Rep1 w g) cs vs → RepL (Rep1 w (g.more s ns)) cs' vs
  | [], cs', vs, hs, hn, hr => by simp only [snapL, Option.some.injEq] at hs; subst hs; simpa [RepL] using hr
  | c :: cs, cs', [], hs, hn, hr => by simp [RepL] at hr
  | c :: cs, cs', v :: vs, hs, hn, hr => by
    simp only [snapL] at hs
    split at hs
    case h_2 => cases hs
    case h_1 x y h1 h2 =>
      cases hs
      simp only [RepL] at hr ⊢
      refine ⟨?_, snapL_rep h h2 (fun b hb => hn b (by simp [namesL, hb])) hr.2⟩
      by_cases hf : ∃ f caps, c = .fn f caps
      · obtain ⟨f, caps, rfl⟩ := hf
        simp only [snap1, Option.some.injEq] at h1
        subst h1
        exact Rep1.ext (Gh.more_ext s g ns w) (fun _ _ => trivial) hr.1
      · have hf1 : ∀ f caps, c ≠ .fn f caps := fun f caps e => hf ⟨f, caps, e⟩
        have hn1 : names1 c = names0 c := by cases c <;> first | rfl | exact absurd rfl (hf1 _ _)
        have hr1 := hr.1
        rw [Rep1_of hf1] at hr1
        have hx := (snap1_rep h h1 (fun b hb => hn b (by simp only [namesL, List.mem_append]; left; rw [hn1]; exact hb)) hr1).1
        have hfx : ∀ f caps, x ≠ .fn f caps := by
          rintro f caps rfl
          cases c <;> simp only [snap1] at h1 <;> (try (split at h1 <;> cases h1; done)) <;> (try (cases h1; done))
          exact hf1 _ _ rfl
        rw [Rep1_of hfx]
        exact hx
end Go.Proofs.Ytcjhegiidnjepaa.Ev
