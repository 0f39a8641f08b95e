/- Functions told as plain Lean functions: what they hand back, and the table of those that are known. -/
import Derived.Test.YtcjhegiidnjepaaEvW
namespace Go.Proofs.Ytcjhegiidnjepaa.Ev
open Go.RowKit
set_option linter.unusedVariables false
set_option linter.unusedSimpArgs false

def encV (agg : Bool) (r : Row) (x : Row.T r) : AV := mkAgg agg (Row.enc r x)
def decV (agg : Bool) (r : Row) (v : AV) : Option (Row.T r) := chk (bif agg then isAggV v else plain1 v) (Row.dec r (cellsOf v))
abbrev Sig := List (Bool × Row)
def ResT : Sig → Type
  | [] => Unit
  | [p] => Row.T p.2
  | p :: q :: r => Row.T p.2 × ResT (q :: r)
def encL : (s : Sig) → ResT s → List AV
  | [], _ => []
  | [p], x => [encV p.1 p.2 x]
  | p :: q :: r, x => encV p.1 p.2 x.1 :: encL (q :: r) x.2
def only {α : Type} (f : AV → Option α) : List AV → Option α
  | [v] => f v
  | _ => none
def both {α β : Type} (f : AV → Option α) (g : List AV → Option β) : List AV → Option (α × β)
  | v :: vs => pairO (f v) (g vs)
  | [] => none
def decL : (s : Sig) → List AV → Option (ResT s)
  | [], _ => none
  | [p], vs => only (decV p.1 p.2) vs
  | p :: q :: r, vs => both (decV p.1 p.2) (decL (q :: r)) vs
def encR (s : Sig) (y : ResT s) : AV := oneOf (encL s y)
def listV : Sig → AV → List AV
  | [_], v => [v]
  | _, .tup vs => vs
  | _, _ => []
def decA (s : Sig) : Ans → Option (ResT s)
  | (true, v, []) => decL s (listV s v)
  | _ => none
theorem decV_rep {w : World} {g : Gh} {agg : Bool} {r : Row} {v : AV} {x : Row.T r} {u : Value} (hd : decV agg r v = some x) (hr : Rep w g v u) : Rep w g (encV agg r x) u ∧ names (encV agg r x) = [] ∧ known (encV agg r x) = true := by
  unfold decV at hd
  obtain ⟨hc, hx⟩ := chk_some hd
  unfold encV
  cases agg
  · simp only [cond_false] at hc
    have hone : cellsOf v = [v] := by cases v <;> first | rfl | simp [plain1] at hc
    have hr1 : Rep1 w g v u := by cases v <;> first | exact hr | simp [plain1] at hc
    rw [hone] at hx
    obtain ⟨e1, e2⟩ := row_enc hx (vs := [u]) ⟨hr1, rfl⟩
    cases hE : Row.enc r x with
    | nil => rw [hE] at e1; simp [RepL] at e1
    | cons y ys =>
      cases ys with
      | cons _ _ => rw [hE] at e1; simp [RepL] at e1
      | nil =>
        have hyk : known y = true := by
          cases r with
          | one l => cases l <;> (simp only [Row.enc, List.cons.injEq, and_true] at hE; subst hE; rfl)
          | cons l r => cases r <;> simp [Row.enc] at hE
        rw [hE] at e1 e2
        simp only [RepL] at e1
        refine ⟨(rep1_names e1.1).1, ?_, hyk⟩
        show names y = []
        rw [(rep1_names e1.1).2]
        simpa [namesL] using e2
  · simp only [cond_true] at hc
    obtain ⟨cs0, rfl⟩ : ∃ cs0, v = .agg cs0 := by cases v <;> first | exact ⟨_, rfl⟩ | exact (Bool.noConfusion hc)
    obtain ⟨vs, rfl, hl⟩ := hr
    obtain ⟨e1, e2⟩ := row_enc hx hl
    exact ⟨⟨vs, rfl, e1⟩, e2, rfl⟩
theorem rep_known {w : World} {g : Gh} {v : AV} {u : Value} (hk : known v = true) : Rep w g v u = Rep2 w g v u := congrFun (Rep_of (c := v) (by rintro cs rfl; simp [known] at hk)) u
theorem names_known {v : AV} (hk : known v = true) : names v = names2 v := by cases v <;> first | rfl | simp [known] at hk
theorem decL_rep {w : World} {g : Gh} : ∀ {s : Sig} {vs : List AV} {y : ResT s} {us : List Value}, decL s vs = some y → RepL (Rep2 w g) vs us → RepL (Rep2 w g) (encL s y) us ∧ namesL2 (encL s y) = []
  | [], vs, y, us, hd, h => by cases hd
  | [p], vs, y, us, hd, h => by
    have hd' : only (decV p.1 p.2) vs = some y := hd
    unfold only at hd'
    split at hd'
    case h_2 => exact (none_some hd').elim
    case h_1 v =>
      cases us with
      | nil => simp [RepL] at h
      | cons u us =>
        simp only [RepL] at h
        have hv : Rep w g v u := by
          have hk : ∀ cs, v ≠ .tup cs := by rintro cs rfl; exact absurd h.1 (by simp [Rep2, Rep1, Rep0])
          rw [Rep_of hk]
          exact h.1
        obtain ⟨a1, a2, a3⟩ := decV_rep hd' hv
        rw [rep_known a3] at a1
        rw [names_known a3] at a2
        exact ⟨⟨a1, h.2⟩, by simp [encL, namesL2, a2]⟩
  | p :: q :: r, vs, y, us, hd, h => by
    have hd' : both (decV p.1 p.2) (decL (q :: r)) vs = some y := hd
    unfold both at hd'
    split at hd'
    case h_2 => exact (none_some hd').elim
    case h_1 v vs =>
      obtain ⟨h1, h2⟩ := pairO_inv hd'
      cases us with
      | nil => simp [RepL] at h
      | cons u us =>
        simp only [RepL] at h
        have hv : Rep w g v u := by
          have hk : ∀ cs, v ≠ .tup cs := by rintro cs rfl; exact absurd h.1 (by simp [Rep2, Rep1, Rep0])
          rw [Rep_of hk]
          exact h.1
        obtain ⟨a1, a2, a3⟩ := decV_rep h1 hv
        rw [rep_known a3] at a1
        rw [names_known a3] at a2
        obtain ⟨b1, b2⟩ := decL_rep h2 h.2
        exact ⟨⟨a1, b1⟩, by simp only [encL, namesL2, a2, b2, List.append_nil]⟩
theorem decR_rep {w : World} {g : Gh} {s : Sig} {v : AV} {y : ResT s} {u : Value} (hd : decL s (listV s v) = some y) (hr : Rep w g v u) : Rep w g (encR s y) u ∧ names (encR s y) = [] := by
  match s, y, hd with
  | [], y, hd => cases hd
  | [p], y, hd => exact ⟨(decV_rep hd hr).1, (decV_rep hd hr).2.1⟩
  | p :: q :: r, y, hd =>
    by_cases ht : ∃ vs, v = .tup vs
    · obtain ⟨vs, rfl⟩ := ht
      obtain ⟨us, rfl, hl⟩ := hr
      obtain ⟨a1, a2⟩ := decL_rep (s := p :: q :: r) hd hl
      have he : encR (p :: q :: r) y = .tup (encL (p :: q :: r) y) := by
        unfold encR
        cases r <;> rfl
      rw [he]
      exact ⟨⟨us, rfl, a1⟩, a2⟩
    · have : listV (p :: q :: r) v = [] := by cases v <;> first | rfl | exact absurd ⟨_, rfl⟩ ht
      rw [this] at hd
      cases hd
def closeT (C : Cx) (rs : List ResultVar) (sg : Sig) (s : Sx) : Option (ResT sg) := match close C rs s with
  | some q => decA sg q
  | none => none
def konT (C : Cx) (rs : List ResultVar) (sg : Sig) : Kont (ResT sg) := ⟨closeT C rs sg, fun _ _ => none, closeT C rs sg⟩
/-- A function's answer as plain data. -/
def evT (C : Cx) (H : List (Nat × List Keep)) (n : Nat) (fn : Func) (sg : Sig) (args : List AV) : Option (ResT sg) := match fn.body with
  | some c => chk (Nat.ble args.length fn.ntmps) (seqS ⟨args0 0 args .nil, [], [], 0⟩ fun s => evCode C H n c s (konT C fn.results.toList sg))
  | none => none
theorem closeT_some {C : Cx} {rs : List ResultVar} {sg : Sig} {s : Sx} {y : ResT sg} (h : closeT C rs sg s = some y) : ∃ v, close C rs s = some (true, v, []) ∧ decL sg (listV sg v) = some y := by
  unfold closeT at h
  split at h
  case h_2 => cases h
  case h_1 q hq =>
    unfold decA at h
    split at h
    case h_2 => cases h
    case h_1 v => exact ⟨v, hq, h⟩
theorem Ret.told {v : AV} {sg : Sig} {y : ResT sg} {pr : Nat → Nat → Prop} {w w' : World} {u : Value} {g : Gh} (h : Ret (v, []) pr w w' u g) (hd : decL sg (listV sg v) = some y) : Ret (encR sg y, []) pr w w' u g := by
  obtain ⟨a1, a2⟩ := decR_rep hd h.rep
  exact ⟨h.below, a1, fun b hb => by rw [a2] at hb; simp at hb, fun i x hx => by simp at hx, fun i cs hx => by simp at hx, fun i x B o hx => by simp at hx, fun i j x y B hx => by simp at hx, fun i x B hx => by simp at hx, h.prot0, h.plt⟩
theorem fnT_ok {P : Program} {C : Cx} (hC : CxOk P C) (hnY : C.callY = noY) {H : List (Nat × List Keep)} (hN : NormalOk H) {n f : Nat} {fn : Func} (hf : P.funcs[f]? = some fn) (hcode : ∀ c, fn.body = some c → CodeOk P C fn.ntmps c) {args : List AV} {sg : Sig} {y : ResT sg} (he : evT C H n fn sg args = some y) : FnOK P f args (encR sg y, []) := by
  unfold evT at he
  split at he
  case h_2 => cases he
  case h_1 c hb =>
    obtain ⟨hlen, he⟩ := chk_some he
    have hlen : args.length ≤ fn.ntmps := by simpa using hlen
    intro w pr vs hpr hargs hk hno
    have hsim := args_sim hlen hpr hargs hk hno
    refine (callsIn_wide (n := 0)).1 (callsIn_of_wp_marks (F := fw none) hf hb trivial (code_ok (U := fun _ => False) (fun X hX => hN X fun b hb => by rw [hX] at hb; exact hb) n (rfH_ok hC n) c _ _ _ _ _ _ _ rfl (by rw [hnY]; exact noY_ok) (hcode c hb) hsim he ⟨?_, ?_, ?_⟩))
    · intro Y hl s a w' g h he'
      refine leave_of rfl hl h fun Z w2 g2 hf2 h2 => ?_
      obtain ⟨v, hv, hd⟩ := closeT_some he'
      obtain ⟨u, h1, gR, h3⟩ := close_ok hC h2 (by rw [hf2.old0, hf2.w0]) (by unfold Fix.p0; rw [hf2.gb, hf2.w0]; exact hpr) hv
      unfold Fix.p0 at h3
      rw [hf2.gb, hf2.w0] at h3
      exact ⟨u, h1, gR, h3.told hd⟩
    · intro Y hl j s a w' g h he'
      cases he'
    · intro Y hl s a w' g h he'
      refine leave_of rfl hl h fun Z w2 g2 hf2 h2 => ?_
      obtain ⟨v, hv, hd⟩ := closeT_some he'
      obtain ⟨u, h1, gR, h3⟩ := close_ok hC h2 (by rw [hf2.old0, hf2.w0]) (by unfold Fix.p0; rw [hf2.gb, hf2.w0]; exact hpr) hv
      unfold Fix.p0 at h3
      rw [hf2.gb, hf2.w0] at h3
      exact ⟨u, h1, gR, h3.told hd⟩
/-! ### The table -/
abbrev Sp := Nat → List AV → Option Ans
def tabF : List (Nat × Sp) → Nat → CallF
  | [], _, _, _ => none
  | (g, sp) :: r, n, f, args => bif Nat.beq g f then (match sp n args with
      | some q => some q
      | none => tabF r n f args) else tabF r n f args
def Known (P : Program) (f : Nat) : Prop := ∃ fn, P.funcs[f]? = some fn ∧ fn.name ≠ "runtime.NumGoroutine" ∧ fn.body.isSome = true
theorem tabF_nil (P : Program) (n : Nat) : CallOk P (tabF [] n) := by intro f args r h; cases h
theorem tabF_cons {P : Program} {l : List (Nat × Sp)} {n f : Nat} {sp : Sp} (hl : CallOk P (tabF l n)) (hk : Known P f) (hs : ∀ args r, sp n args = some (true, r) → FnOK P f args r) : CallOk P (tabF ((f, sp) :: l) n) := by
  intro g args r h
  simp only [tabF] at h
  cases hb : Nat.beq f g
  · rw [hb] at h
    exact hl g args r h
  · rw [hb] at h
    have := Nat.eq_of_beq_eq_true hb
    subst this
    simp only [cond_true] at h
    split at h
    case h_2 => exact hl f args r h
    case h_1 q hq =>
      have := Option.some.inj h
      subst this
      obtain ⟨fn, h1, h2, h3⟩ := hk
      exact ⟨fn, h1, h2, h3, hs args r hq⟩
/-- Arguments as they are told. -/
structure Canon (vs es : List AV) : Prop where
  rep : ∀ (w : World) (g : Gh) (us : List Value), RepL (Rep w g) vs us → RepL (Rep w g) es us
  known : es.all known = true
  names : namesL2 es = []
theorem FnOK.canon {P : Program} {f : Nat} {vs es : List AV} {r : AV × List Blk} (h : FnOK P f es r) (hc : Canon vs es) : FnOK P f vs r :=
  fun w pr us hpr hr _ _ => h w pr us hpr (hc.rep w (g0 pr) us hr) hc.known hc.names
def dat1 (agg : Bool) (r : Row) (k : Row.T r → List AV → Option Ans) : List AV → Option Ans
  | v :: vs => match decV agg r v with
    | some x => k x vs
    | none => none
  | [] => none
def dat0 (q : Ans) : List AV → Option Ans
  | [] => some q
  | _ :: _ => none
def SpR (P : Program) (f : Nat) (done : List AV) (k : List AV → Option Ans) : Prop := ∀ vs r, k vs = some (true, r) → ∃ es, Canon vs es ∧ FnOK P f (done ++ es) r
theorem SpR.all {P : Program} {f : Nat} {k : List AV → Option Ans} (h : SpR P f [] k) : ∀ args r, k args = some (true, r) → FnOK P f args r := by
  intro args r hk
  obtain ⟨es, hc, ho⟩ := h args r hk
  exact ho.canon hc
theorem SpR.dat0 {P : Program} {f : Nat} {done : List AV} {b : Bool} {r : AV × List Blk} (h : b = true → FnOK P f done r) : SpR P f done (dat0 (b, r)) := by
  intro vs r' hk
  cases vs with
  | cons _ _ => cases hk
  | nil =>
    simp only [Ev.dat0, Option.some.injEq, Prod.mk.injEq] at hk
    obtain ⟨h1, rfl⟩ := hk
    exact ⟨[], ⟨fun _ _ _ h => h, rfl, rfl⟩, by simpa using h h1⟩
theorem Canon.cons {v e : AV} {vs es : List AV} (h1 : ∀ (w : World) (g : Gh) (u : Value), Rep w g v u → Rep w g e u) (h2 : Ev.known e = true) (h3 : names2 e = []) (h : Canon vs es) : Canon (v :: vs) (e :: es) := by
  refine ⟨fun w g us hr => ?_, by simp [h2, h.known], by simp [namesL2, h3, h.names]⟩
  cases us with
  | nil => simp [RepL] at hr
  | cons u us =>
    simp only [RepL] at hr ⊢
    exact ⟨h1 w g u hr.1, h.rep w g us hr.2⟩
theorem dec_static {agg : Bool} {r : Row} {v : AV} {x : Row.T r} (h : decV agg r v = some x) : known (encV agg r x) = true ∧ names2 (encV agg r x) = [] := by
  unfold decV at h
  obtain ⟨hc, hx⟩ := chk_some h
  unfold encV
  cases agg
  · simp only [cond_false] at hc
    have hone : cellsOf v = [v] := by cases v <;> first | rfl | simp [plain1] at hc
    rw [hone] at hx
    have hr : ∃ l, r = .one l := by
      cases r with
      | one l => exact ⟨l, rfl⟩
      | cons l r =>
        have hx' : cons1 (Leaf.dec l) (Row.dec r) [v] = some x := hx
        simp only [cons1] at hx'
        obtain ⟨_, h2⟩ := pairO_inv hx'
        cases r with
        | one l2 => exact (none_some h2).elim
        | cons l2 r2 => exact (none_some h2).elim
    obtain ⟨l, rfl⟩ := hr
    cases l <;> exact ⟨rfl, rfl⟩
  · exact ⟨rfl, row_enc_names x⟩
theorem SpR.dat1 {P : Program} {f : Nat} {done : List AV} {agg : Bool} {r : Row} {k : Row.T r → List AV → Option Ans} (h : ∀ x, SpR P f (done ++ [encV agg r x]) (k x)) : SpR P f done (dat1 agg r k) := by
  intro vs q hk
  cases vs with
  | nil => cases hk
  | cons v vs =>
    simp only [Ev.dat1] at hk
    split at hk
    case h_2 => cases hk
    case h_1 x hx =>
      obtain ⟨es, hc, ho⟩ := h x vs q hk
      refine ⟨encV agg r x :: es, Canon.cons (fun w g u hr => (decV_rep hx hr).1) (dec_static hx).1 (dec_static hx).2 hc, by simpa using ho⟩
/-! An argument that is known as a whole. -/
def listEq {α : Type} (f : α → α → Bool) : List α → List α → Bool
  | [], [] => true
  | x :: xs, y :: ys => f x y && listEq f xs ys
  | _, _ => false
theorem listEq_eq {α : Type} {f : α → α → Bool} (hf : ∀ x y, f x y = true → x = y) : ∀ {xs ys : List α}, listEq f xs ys = true → xs = ys
  | [], [], _ => rfl
  | x :: xs, y :: ys, h => by
    simp only [listEq, Bool.and_eq_true] at h
    rw [hf x y h.1, listEq_eq hf h.2]
  | [], _ :: _, h => by cases h
  | _ :: _, [], h => by cases h
def intEq (a b : Int) : Bool := decide (a = b)
theorem intEq_eq {a b : Int} (h : intEq a b = true) : a = b := of_decide_eq_true h
def boolEq (a b : Bool) : Bool := a == b
def strEq (a b : ByteArray) : Bool := a.data.toList == b.data.toList
theorem strEq_eq {a b : ByteArray} (h : strEq a b = true) : a = b := by
  have h1 : a.data.toList = b.data.toList := eq_of_beq h
  exact ByteArray.ext (Array.ext' h1)
mutual
def leafEq : (l : Leaf) → Leaf.T l → Leaf.T l → Bool
  | .int _, a, b => intEq a b
  | .bool, a, b => boolEq a b
  | .str, a, b => strEq a b
  | .sl r, a, b => listEq (rowEq r) a b
def rowEq : (r : Row) → Row.T r → Row.T r → Bool
  | .one l, a, b => leafEq l a b
  | .cons l r, a, b => leafEq l a.1 b.1 && rowEq r a.2 b.2
end
mutual
theorem leafEq_eq : ∀ (l : Leaf) (a b : Leaf.T l), leafEq l a b = true → a = b
  | .int _, a, b, h => intEq_eq h
  | .bool, a, b, h => eq_of_beq (α := Bool) h
  | .str, a, b, h => strEq_eq h
  | .sl r, a, b, h => listEq_eq (rowEq_eq r) h
theorem rowEq_eq : ∀ (r : Row) (a b : Row.T r), rowEq r a b = true → a = b
  | .one l, a, b, h => leafEq_eq l a b h
  | .cons l r, a, b, h => by
    have h' : (leafEq l a.1 b.1 && rowEq r a.2 b.2) = true := h
    rw [Bool.and_eq_true] at h'
    exact Prod.ext (leafEq_eq l _ _ h'.1) (rowEq_eq r _ _ h'.2)
end
def immEq (r q : Row) (l : List (Row.T r)) (m : List (Row.T q)) : Bool := match castRow (s := q) l with
  | some l' => listEq (rowEq q) l' m
  | none => false
theorem immEq_eq {r q : Row} {l : List (Row.T r)} {m : List (Row.T q)} (h : immEq r q l m = true) : AV.imm r l = AV.imm q m := by
  unfold immEq at h
  split at h
  case h_2 => cases h
  case h_1 l' hl =>
    obtain ⟨rfl, hh⟩ := castRow_inv hl
    have h1 := listEq_eq (rowEq_eq r) h
    have h2 := eq_of_heq hh
    rw [h2, h1]
mutual
def sameV : AV → AV → Bool
  | .fn f [], .fn g [] => Nat.beq f g
  | .agg xs, .agg ys => sameL xs ys
  | .tup xs, .tup ys => sameL xs ys
  | .int k n, .int j m => decide (k = j) && decide (n = m)
  | .bool a, .bool b => a == b
  | .str a, .str b => strEq a b
  | .nils, .nils => true
  | .imm r l, .imm q m => immEq r q l m
  | _, _ => false
def sameL : List AV → List AV → Bool
  | [], [] => true
  | x :: xs, y :: ys => sameV x y && sameL xs ys
  | _, _ => false
end
mutual
theorem sameV_eq : ∀ {x y : AV}, sameV x y = true → x = y
  | .fn f [], .fn g [], h => by rw [Nat.eq_of_beq_eq_true h]
  | .agg xs, .agg ys, h => by rw [sameL_eq (xs := xs) (ys := ys) h]
  | .tup xs, .tup ys, h => by rw [sameL_eq (xs := xs) (ys := ys) h]
  | .int k n, .int j m, h => by
    simp only [sameV, Bool.and_eq_true, decide_eq_true_eq] at h
    rw [h.1, h.2]
  | .bool a, .bool b, h => by rw [eq_of_beq (show (a == b) = true from h)]
  | .str a, .str b, h => by rw [strEq_eq h]
  | .nils, .nils, _ => rfl
  | .imm r l, .imm q m, h => immEq_eq h
theorem sameL_eq : ∀ {xs ys : List AV}, sameL xs ys = true → xs = ys
  | [], [], _ => rfl
  | x :: xs, y :: ys, h => by
    simp only [sameL, Bool.and_eq_true] at h
    rw [sameV_eq h.1, sameL_eq h.2]
end
/-- Calls that are known, by their arguments. -/
def orcF : List (Nat × List AV × AV) → CallF → CallF
  | [], F, f, args => F f args
  | (g, as, v) :: r, F, f, args => bif Nat.beq g f && sameL as args then some (true, v, []) else orcF r F f args
def sta1 (v : AV) (k : List AV → Option Ans) : List AV → Option Ans
  | u :: us => bif sameV v u && known v && (names2 v).isEmpty then k us else none
  | [] => none
theorem SpR.sta1 {P : Program} {f : Nat} {done : List AV} {v : AV} {k : List AV → Option Ans} (h : SpR P f (done ++ [v]) k) : SpR P f done (sta1 v k) := by
  intro vs q hk
  cases vs with
  | nil => cases hk
  | cons u us =>
    simp only [Ev.sta1] at hk
    cases hb : (sameV v u && Ev.known v && (names2 v).isEmpty)
    · rw [hb] at hk; cases hk
    · rw [hb] at hk
      simp only [Bool.and_eq_true, List.isEmpty_iff] at hb
      obtain ⟨⟨b1, b2⟩, b3⟩ := hb
      have := sameV_eq b1
      subst this
      obtain ⟨es, hc, ho⟩ := h us q hk
      exact ⟨v :: es, Canon.cons (fun _ _ _ hr => hr) b2 b3 hc, by simpa using ho⟩
theorem orcF_ok {P : Program} {F G : CallF} (hG : CallOk P G) (hF : CallOk P F) : ∀ {l : List (Nat × List AV × AV)}, (∀ p ∈ l, G p.1 p.2.1 = some (true, p.2.2, [])) → CallOk P (orcF l F)
  | [], _ => hF
  | (g, as, v) :: r, h => by
    intro f args q hq
    simp only [orcF] at hq
    cases hb : (Nat.beq g f && sameL as args)
    · rw [hb] at hq
      exact orcF_ok hG hF (fun p hp => h p (List.mem_cons_of_mem _ hp)) f args q hq
    · rw [hb] at hq
      simp only [Bool.and_eq_true] at hb
      have h1 := Nat.eq_of_beq_eq_true hb.1
      have h2 := sameL_eq hb.2
      subst h1; subst h2
      simp only [cond_true, Option.some.injEq, Prod.mk.injEq, true_and] at hq
      have := h _ (List.mem_cons_self)
      subst hq
      exact hG _ _ _ this
def ansO (sg : Sig) (o : Option (ResT sg)) (d : ResT sg) : Ans := (o.isSome, encR sg (o.getD d), [])
def ansT (sg : Sig) (y : ResT sg) : Ans := (true, encR sg y, [])
theorem SpR.ansO {P : Program} {f : Nat} {done : List AV} {sg : Sig} {o : Option (ResT sg)} {d : ResT sg} (h : ∀ y, o = some y → FnOK P f done (encR sg y, [])) : SpR P f done (Ev.dat0 (ansO sg o d)) := by
  refine SpR.dat0 fun hs => ?_
  cases o with
  | none => cases hs
  | some y => exact h y rfl
theorem SpR.ansT {P : Program} {f : Nat} {done : List AV} {sg : Sig} {y : ResT sg} (h : FnOK P f done (encR sg y, [])) : SpR P f done (Ev.dat0 (ansT sg y)) := SpR.dat0 fun _ => h
/-! ### Where a loop stands -/
def sub : List Nat → Code → Code
  | [], c => c
  | i :: p, .seq a b => bif Nat.beq i 0 then sub p a else sub p b
  | i :: p, .cond _ a b => bif Nat.beq i 0 then sub p a else sub p b
  | _ :: p, .block _ b => sub p b
  | _ :: p, .loop b => sub p b
  | _, c => c
def bodyOf (f : Func) : Code := match f.body with
  | some c => c
  | none => .skip
section
variable {β : Type}
def backK (C : Cx) (H : List (Nat × List Keep)) (n m : Nat) (key : Nat) (b : Code) (k : Kont β) : Kont β := ⟨fun s => nrm (get H key) s fun s' => loopN (get H key) (evCode C H n b) m s' k, k.x, k.r⟩
/-- What follows the code at the place p (a way that meets no loop). -/
def kAt (C : Cx) (H : List (Nat × List Keep)) (n : Nat) : List Nat → Code → Kont β → Kont β
  | i :: p, .seq a b, k => bif Nat.beq i 0 then kAt C H n p a (seqK (evCode C H n b) k) else kAt C H n p b k
  | i :: p, .cond _ a b, k => bif Nat.beq i 0 then kAt C H n p a k else kAt C H n p b k
  | _ :: p, .block i b, k => kAt C H n p b (blockK (get H (3 * i + 1)) i k)
  | _, _, k => k
end
end Go.Proofs.Ytcjhegiidnjepaa.Ev
