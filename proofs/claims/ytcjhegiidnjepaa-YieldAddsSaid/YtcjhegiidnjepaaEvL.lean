/- Arguments of a law: from the reading of their cells to plain data. -/
import Derived.Test.YtcjhegiidnjepaaEvY
import Derived.Deep.Slices
import Derived.OpenShut
import Derived.ChangeArms
namespace Go.Proofs.Ytcjhegiidnjepaa.Ev
open Go.ChangeShapes Go.WideShapes Go.RowKit Go.Deep
set_option linter.unusedVariables false
set_option linter.unusedSimpArgs false

mutual
def LeafIn : (l : Leaf) → Leaf.T l → Prop
  | .int k, n => (Lit.int k n).wf = true
  | .bool, _ => True
  | .str, s => ByteArray.size s ≤ maxLen
  | .sl r, l => List.length (α := Row.T r) l ≤ maxLen ∧ ∀ x : Row.T r, x ∈ (show List (Row.T r) from l) → RowIn r x
def RowIn : (r : Row) → Row.T r → Prop
  | .one l, x => LeafIn l x
  | .cons l r, x => LeafIn l x.1 ∧ RowIn r x.2
end
def LeavesOk (w : World) (pr : Nat → Nat → Prop) : List Leaf → List Value → Prop
  | [], [] => True
  | l :: ls, c :: cs => (∃ y : Leaf.T l, RepLeaf w pr l y c ∧ LeafIn l y) ∧ LeavesOk w pr ls cs
  | _, _ => False
def leavesOf : Row → List Leaf
  | .one l => [l]
  | .cons l r => l :: leavesOf r
def rowOf : Leaf → List Leaf → Row
  | l, [] => .one l
  | l, m :: ls => .cons l (rowOf m ls)
theorem leavesOf_rowOf : ∀ (l : Leaf) (ls : List Leaf), leavesOf (rowOf l ls) = l :: ls
  | l, [] => rfl
  | l, m :: ls => by simp [rowOf, leavesOf, leavesOf_rowOf m ls]
theorem leavesOf_len : ∀ r : Row, (leavesOf r).length = Row.size r
  | .one l => rfl
  | .cons l r => by simp [leavesOf, Row.size, leavesOf_len r]
def fieldLs (P : Program) (rec : TypeId → Option (List Leaf)) (n : Nat) : Nat → List Field → Option (List Leaf)
  | off, [] => bif Nat.beq off n then some [] else none
  | off, f :: r => match rec f.type with
    | some l => bif Nat.beq f.offset off && Nat.beq (P.cellsOf f.type) l.length then (match fieldLs P rec n (off + l.length) r with
      | some m => some (l ++ m)
      | none => none) else none
    | none => none
def arrLs (l : List Leaf) : Nat → List Leaf
  | 0 => []
  | n + 1 => l ++ arrLs l n
def tyLs (P : Program) : Nat → TypeId → Option (List Leaf)
  | 0, _ => none
  | n + 1, t => match P.underlying t with
    | some (.int k) => some [.int k]
    | some .bool => some [.bool]
    | some .string => some [.str]
    | some (.slice e) => match tyLs P n e with
      | some (l :: ls) => bif Nat.beq (P.cellsOf e) (l :: ls).length then some [.sl (rowOf l ls)] else none
      | _ => none
    | some (.struct fs) => fieldLs P (tyLs P n) (P.cellsOf t) 0 fs.toList
    | some (.array c e) => match tyLs P n e with
      | some l => bif Nat.beq (P.cellsOf e) l.length && Nat.beq (P.cellsOf t) (c * l.length) then some (arrLs l c) else none
      | none => none
    | _ => none
theorem leavesOk_len {w : World} {pr : Nat → Nat → Prop} : ∀ {ls : List Leaf} {cs : List Value}, LeavesOk w pr ls cs → cs.length = ls.length
  | [], [], _ => rfl
  | l :: ls, c :: cs, h => by simp [leavesOk_len h.2]
  | [], _ :: _, h => h.elim
  | _ :: _, [], h => h.elim
theorem leavesOk_append {w : World} {pr : Nat → Nat → Prop} : ∀ {ls : List Leaf} {cs : List Value} {ls' : List Leaf} {cs' : List Value}, LeavesOk w pr ls cs → LeavesOk w pr ls' cs' → LeavesOk w pr (ls ++ ls') (cs ++ cs')
  | [], [], _, _, _, h => h
  | l :: ls, c :: cs, _, _, h, h' => ⟨h.1, leavesOk_append h.2 h'⟩
  | [], _ :: _, _, _, h, _ => h.elim
  | _ :: _, [], _, _, h, _ => h.elim
theorem leaves_row {w : World} {g : Gh} : ∀ {r : Row} {cs : List Value}, LeavesOk w g.prot (leavesOf r) cs → ∃ x : Row.T r, RowIn r x ∧ RepL (Rep1 w g) (Row.enc r x) cs ∧ ∀ (q : Nat → Value → Prop) (o : Nat), (∀ j v, cs[j]? = some v → q (o + j) v) → RepRow w g.prot r x q o
  | .one l, [], h => h.elim
  | .one l, c :: cs, h => by
    obtain ⟨⟨y, h1, h2⟩, h3⟩ := h
    cases cs with
    | cons _ _ => exact h3.elim
    | nil => exact ⟨y, h2, ⟨(leaf_enc h1).1, rfl⟩, fun q o hq => ⟨c, hq 0 c rfl, h1⟩⟩
  | .cons l r, [], h => h.elim
  | .cons l r, c :: cs, h => by
    obtain ⟨⟨y, h1, h2⟩, h3⟩ := h
    obtain ⟨x, a1, a2, a3⟩ := leaves_row (r := r) h3
    refine ⟨(y, x), ⟨h2, a1⟩, ⟨(leaf_enc h1).1, a2⟩, fun q o hq => ⟨⟨c, hq 0 c rfl, h1⟩, a3 q (o + 1) fun j v hv => ?_⟩⟩
    have := hq (j + 1) v (by simpa using hv)
    rwa [show o + 1 + j = o + (j + 1) by omega]
theorem list_all {α : Type} {n : Nat} {p : Nat → α → Prop} (h : ∀ i, i < n → ∃ x, p i x) : ∃ l : List α, l.length = n ∧ ∀ i x, l[i]? = some x → p i x := by
  induction n with
  | zero => exact ⟨[], rfl, fun i x hx => by simp at hx⟩
  | succ n ih =>
    obtain ⟨l, hl, hp⟩ := ih (fun i hi => h i (Nat.lt_succ_of_lt hi))
    obtain ⟨y, hy⟩ := h n (Nat.lt_succ_self n)
    refine ⟨l ++ [y], by simp [hl], fun i x hx => ?_⟩
    by_cases hi : i < l.length
    · rw [List.getElem?_append_left hi] at hx
      exact hp i x hx
    · rw [List.getElem?_append_right (by omega)] at hx
      have h0 : i - l.length = 0 := by
        cases hq : i - l.length with
        | zero => rfl
        | succ m => rw [hq] at hx; simp at hx
      rw [h0] at hx
      have hi' : i = n := by omega
      subst hi'
      have : y = x := by simpa using hx
      exact this ▸ hy
section
variable {H : Type} {enc : TypeId × Value → H} {P : Program} {w : World} {g : Gh}
theorem open_ls (hp : ∀ B o v, w.cell? ⟨B, o, none⟩ = some v → g.prot B o) : ∀ (n : Nat) {t : TypeId} {ls : List Leaf}, tyLs P n t = some ls → ∀ {fuel : Nat} {cs : List Value} {x : DataW H × List MemPlace}, DataW.trod enc P w 0 (fun _ => true) true fuel t cs = some x → LeavesOk w g.prot ls cs := by
  intro n
  induction n with
  | zero => intro t ls h; cases h
  | succ n ih =>
    intro t ls h fuel cs x hx
    simp only [tyLs] at h
    split at h
    case h_1 k ht =>
      obtain ⟨m, rfl, _, hw⟩ := DataW.trod_int ht hx
      cases h
      exact ⟨⟨m, rfl, hw⟩, trivial⟩
    case h_2 ht =>
      obtain ⟨m, rfl, _⟩ := DataW.trod_bool ht hx
      cases h
      exact ⟨⟨m, rfl, trivial⟩, trivial⟩
    case h_3 ht =>
      obtain ⟨m, rfl, _, hs⟩ := DataW.trod_string ht hx
      cases h
      exact ⟨⟨m, rfl, hs⟩, trivial⟩
    case h_4 e ht =>
      split at h
      case h_2 => cases h
      case h_1 l ls' he =>
        cases hb : Nat.beq (P.cellsOf e) (l :: ls').length
        · rw [hb] at h; cases h
        · rw [hb] at h
          have hce : P.cellsOf e = (l :: ls').length := Nat.eq_of_beq_eq_true hb
          cases h
          rcases open_slice ht hx with ⟨rfl, _⟩ | ⟨a, len, cap, m, k, D, Pl, rfl, _, hl, hm, hmm, _, hi⟩
          · exact ⟨⟨([] : List (Row.T (rowOf l ls'))), ⟨none, 0, rfl, Nat.le_refl _, fun h => absurd h (by simp)⟩, by simp [LeafIn]⟩, trivial⟩
          · have hlm : len ≤ m := by rw [hmm]; split <;> omega
            have hsz : Row.size (rowOf l ls') = P.cellsOf e := by rw [← leavesOf_len, leavesOf_rowOf, hce]
            obtain ⟨xs, hlen, hxs⟩ := list_all (n := len) (p := fun i (y : Row.T (rowOf l ls')) => RowIn _ y ∧ ∃ cs', w.cells? 0 (a.add (i * P.cellsOf e)) (P.cellsOf e) = some cs' ∧ ∀ (q : Nat → Value → Prop) (o : Nat), (∀ j v, cs'[j]? = some v → q (o + j) v) → RepRow w g.prot (rowOf l ls') y q o) (fun i hil => by
              obtain ⟨cs', h1, h2⟩ := hi i (by omega)
              have h3 := ih he h2
              rw [← leavesOf_rowOf l ls'] at h3
              obtain ⟨y, b1, _, b3⟩ := leaves_row h3
              exact ⟨y, b1, cs', h1, b3⟩)
            refine ⟨⟨xs, ⟨some a, cap, by rw [hlen], by rw [hlen]; exact hl, fun h0 => ?_⟩, by rw [hlen]; omega, fun y hy => ?_⟩, trivial⟩
            · have ha : ∃ B o, a = ⟨B, o, none⟩ := by
                obtain ⟨cs', h1, _⟩ := hi 0 (by omega)
                obtain ⟨_, h2, h3⟩ := World.cells?_some h1
                have h4 := h3 0 (by rw [hce]; simp)
                obtain ⟨B, o, sp⟩ := a
                have hc : ∃ v, w.cell? ⟨B, o, sp⟩ = some v := by
                  have : ((Addr.add ⟨B, o, sp⟩ (0 * P.cellsOf e)).add 0) = ⟨B, o, sp⟩ := by simp [Addr.add]
                  rw [this] at h4
                  have h5 : 0 < cs'.length := by rw [h2, hce]; simp
                  exact ⟨cs'[0], by rw [h4, List.getElem?_eq_getElem h5]⟩
                obtain ⟨v, hv⟩ := hc
                have := World.cell?_spot hv
                simp only at this
                exact ⟨B, o, by rw [this]⟩
              obtain ⟨B, o, rfl⟩ := ha
              refine ⟨B, o, rfl, fun i y hy => ?_⟩
              obtain ⟨_, cs', h1, h3⟩ := hxs i y hy
              refine h3 _ _ fun j v hv => ?_
              obtain ⟨_, h4, h5⟩ := World.cells?_some h1
              have hj : j < P.cellsOf e := by rw [← h4]; exact (List.getElem?_eq_some_iff.1 hv).1
              have h6 := h5 j hj
              rw [hv, Go.Deep.add_add] at h6
              have h7 : (Addr.add ⟨B, o, none⟩ (i * P.cellsOf e + j)) = ⟨B, o + (i * P.cellsOf e + j), none⟩ := by
                unfold Addr.add
                split
                · rename_i h8; simp [h8]
                · rfl
              rw [h7] at h6
              rw [hsz]
              exact ⟨h6, hp _ _ _ h6⟩
            · obtain ⟨i, hi', rfl⟩ := List.mem_iff_getElem.1 hy
              exact (hxs i xs[i] (List.getElem?_eq_getElem hi')).1
    case h_5 fs ht =>
      obtain ⟨xs, m, _, _, hl, hxs, hg⟩ := DataW.trod_struct ht hx
      have hg' : ∀ f ∈ fs.toList, ∃ y, DataW.trod enc P w 0 (fun _ => true) true m f.type ((cs.drop f.offset).take (P.cellsOf f.type)) = some y := by
        intro f hf
        obtain ⟨i, hi, rfl⟩ := List.mem_iff_getElem.1 hf
        have hi' : i < fs.size := by simpa using hi
        have h1 := hg i fs[i] (Array.getElem?_eq_getElem hi')
        refine ⟨xs[i]'(by omega), ?_⟩
        rw [List.getElem?_eq_getElem (by omega)] at h1
        simpa using h1
      clear hg hxs
      have key : ∀ (l : List Field) (off : Nat) (ls : List Leaf), (∀ f ∈ l, ∃ y, DataW.trod enc P w 0 (fun _ => true) true m f.type ((cs.drop f.offset).take (P.cellsOf f.type)) = some y) → fieldLs P (tyLs P n) (P.cellsOf t) off l = some ls → LeavesOk w g.prot ls (cs.drop off) := by
        intro l
        induction l with
        | nil =>
          intro off ls _ hf
          simp only [fieldLs] at hf
          cases hb : Nat.beq off (P.cellsOf t)
          · rw [hb] at hf; cases hf
          · rw [hb] at hf
            cases hf
            have := Nat.eq_of_beq_eq_true hb
            rw [List.drop_eq_nil_of_le (by omega)]
            trivial
        | cons f l ihl =>
          intro off ls hall hf
          simp only [fieldLs] at hf
          split at hf
          case h_2 => cases hf
          case h_1 lf hlf =>
            cases hb : (Nat.beq f.offset off && Nat.beq (P.cellsOf f.type) lf.length)
            · rw [hb] at hf; cases hf
            · rw [hb] at hf
              simp only [Bool.and_eq_true] at hb
              have e1 := Nat.eq_of_beq_eq_true hb.1
              have e2 := Nat.eq_of_beq_eq_true hb.2
              simp only [cond_true] at hf
              split at hf
              case h_2 => cases hf
              case h_1 mr hmr =>
                cases hf
                obtain ⟨y, hy⟩ := hall f (by simp)
                have h1 := ih hlf hy
                have h2 := ihl (off + lf.length) mr (fun q hq => hall q (by simp [hq])) hmr
                rw [e1, e2] at h1
                have := leavesOk_append h1 h2
                rwa [← List.drop_drop, List.take_append_drop] at this
      simpa using key fs.toList 0 ls hg' h
    case h_6 c e ht =>
      split at h
      case h_2 => cases h
      case h_1 l he =>
        cases hb : (Nat.beq (P.cellsOf e) l.length && Nat.beq (P.cellsOf t) (c * l.length))
        · rw [hb] at h; cases h
        · rw [hb] at h
          simp only [Bool.and_eq_true] at hb
          have e1 := Nat.eq_of_beq_eq_true hb.1
          have e2 := Nat.eq_of_beq_eq_true hb.2
          cases h
          obtain ⟨xs, m, _, _, hl, hxs, hg⟩ := DataW.trod_array ht hx
          have hg' : ∀ i, i < c → LeavesOk w g.prot l ((cs.drop (i * l.length)).take l.length) := by
            intro i hi
            have h1 := hg i hi
            rw [List.getElem?_eq_getElem (by omega), e1] at h1
            exact ih he h1
          have key : ∀ k, k ≤ c → LeavesOk w g.prot (arrLs l k) (cs.drop ((c - k) * l.length)) := by
            intro k
            induction k with
            | zero =>
              intro _
              rw [Nat.sub_zero, List.drop_eq_nil_of_le (by omega)]
              trivial
            | succ k ihk =>
              intro hk
              have h1 := hg' (c - (k + 1)) (by omega)
              have h2 := ihk (by omega)
              have : (c - k) * l.length = (c - (k + 1)) * l.length + l.length := by
                rw [show c - k = (c - (k + 1)) + 1 by omega, Nat.add_mul, Nat.one_mul]
              rw [this] at h2
              have := leavesOk_append h1 h2
              rwa [← List.drop_drop, List.take_append_drop] at this
          simpa using key c (Nat.le_refl _)
    case h_7 => cases h
def lsBeq : List Leaf → List Leaf → Bool
  | [], [] => true
  | a :: r, b :: s => Leaf.beq a b && lsBeq r s
  | _, _ => false
theorem lsBeq_eq : ∀ {l m : List Leaf}, lsBeq l m = true → l = m
  | [], [], _ => rfl
  | a :: r, b :: s, h => by
    simp only [lsBeq, Bool.and_eq_true] at h
    rw [Leaf.eq_of_beq h.1, lsBeq_eq h.2]
def argB (P : Program) (t : TypeId) (agg : Bool) (r : Row) : Bool := (match tyLs P 12 t with
    | some ls => lsBeq ls (leavesOf r)
    | none => false) && (match P.underlying t with
    | some (.struct _) => agg
    | some (.array _ _) => agg
    | some (.int _) => !agg
    | some .bool => !agg
    | some .string => !agg
    | some (.slice _) => !agg
    | _ => false)
/-- An argument of a law. -/
theorem open_arg {t : TypeId} {agg : Bool} {r : Row} (hB : argB P t agg r = true) (hp : ∀ B o v, w.cell? ⟨B, o, none⟩ = some v → g.prot B o) {b0 : Nat} {v : Value} {d : DataW H} {ps : List MemPlace} (hval : Value.okWide P w .any b0 t v) (h : DataW.Trod enc P w 0 (fun _ => true) true t v d ps) : ∃ x : Row.T r, Rep w g (encV agg r x) v ∧ RowIn r x ∧ known (encV agg r x) = true ∧ names2 (encV agg r x) = [] := by
  obtain ⟨fuel, hf⟩ := h
  unfold argB at hB
  simp only [Bool.and_eq_true] at hB
  obtain ⟨h1, h2⟩ := hB
  split at h1
  case h_2 => cases h1
  case h_1 ls hls =>
    have := lsBeq_eq h1
    subst this
    have hl := open_ls hp 12 hls hf
    obtain ⟨x, a1, a2, _⟩ := leaves_row hl
    refine ⟨x, ?_⟩
    have one : v.cells.toList = [v] → agg = false → Rep w g (encV agg r x) v ∧ RowIn r x ∧ known (encV agg r x) = true ∧ names2 (encV agg r x) = [] := by
      intro hv hag
      subst hag
      rw [hv] at a2
      unfold encV
      cases r with
      | one l =>
        have hr1 : Rep1 w g (Leaf.enc l x) v := a2.1
        refine ⟨?_, a1, ?_, ?_⟩
        · cases l <;> exact hr1
        · cases l <;> rfl
        · cases l <;> rfl
      | cons l r =>
        exfalso
        have : (Row.enc r x.2).length = 0 := by have := a2.length; simpa [Row.enc] using this
        cases r <;> simp [Row.enc] at this
    have more : (∃ cs, v = .agg cs) → agg = true → Rep w g (encV agg r x) v ∧ RowIn r x ∧ known (encV agg r x) = true ∧ names2 (encV agg r x) = [] := by
      rintro ⟨cs, rfl⟩ hag
      subst hag
      exact ⟨⟨cs.toList, by simp, a2⟩, a1, rfl, row_enc_names x⟩
    split at h2
    · rename_i fs ht
      simp only [Value.okWide, ht] at hval
      obtain ⟨cs, hc, _⟩ := hval
      exact more ⟨cs, hc⟩ h2
    · rename_i c e ht
      simp only [Value.okWide, ht] at hval
      obtain ⟨cs, hc, _⟩ := hval
      exact more ⟨cs, hc⟩ h2
    · rename_i k ht
      obtain ⟨n, rfl⟩ := okWide_int ht hval
      exact one rfl (by simpa using h2)
    · rename_i ht
      obtain ⟨n, rfl⟩ := okWide_bool ht hval
      exact one rfl (by simpa using h2)
    · rename_i ht
      obtain ⟨n, rfl⟩ := okWide_string ht hval
      exact one rfl (by simpa using h2)
    · rename_i e ht
      obtain ⟨a, len, cap, rfl⟩ := okWide_slice ht hval
      exact one rfl (by simpa using h2)
    · cases h2
end
end Go.Proofs.Ytcjhegiidnjepaa.Ev
