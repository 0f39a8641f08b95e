/- What a value of the evaluator stands for in a world of the model, and that it stays so while what is protected stays. -/
import Derived.Test.YtcjhegiidnjepaaEv2
import Derived.Below
import Derived.Calls
import Derived.Orders
import Derived.OrdersIn
import Derived.RangeFuncRecord
namespace Go.Proofs.Ytcjhegiidnjepaa.Ev
open Go.RowKit
set_option linter.unusedVariables false
set_option linter.unusedSimpArgs false

/-- Beside the evaluator's state: each name's block (none: a nil slice), a row's length and capacity, and the cells that nobody writes any more. -/
structure Gh where
  at_ : Nat → Option Nat
  len : Nat → Nat
  cap : Nat → Nat
  prot : Nat → Nat → Prop

mutual
def RepLeaf (w : World) (pr : Nat → Nat → Prop) : (l : Leaf) → Leaf.T l → Value → Prop
  | .int k, n, v => v = .int k n
  | .bool, b, v => v = .bool b
  | .str, s, v => v = .string s
  | .sl r, l, v => ∃ A c, v = .slice A (List.length (α := Row.T r) l) c ∧ List.length (α := Row.T r) l ≤ c ∧ (0 < List.length (α := Row.T r) l → ∃ B o, A = some ⟨B, o, none⟩ ∧ ∀ (i : Nat) (x : Row.T r), (show List (Row.T r) from l)[i]? = some x → RepRow w pr r x (fun j u => w.cell? ⟨B, o + j, none⟩ = some u ∧ pr B (o + j)) (i * Row.size r))
def RepRow (w : World) (pr : Nat → Nat → Prop) : (r : Row) → Row.T r → (Nat → Value → Prop) → Nat → Prop
  | .one l, x, q, o => ∃ u, q o u ∧ RepLeaf w pr l x u
  | .cons l r, x, q, o => (∃ u, q o u ∧ RepLeaf w pr l x.1 u) ∧ RepRow w pr r x.2 q (o + 1)
end

/-- A value of one cell, but for a function that has captured something. -/
def Rep0 (w : World) (g : Gh) : AV → Value → Prop
  | .undef, _ => True
  | .void, v => v = undef
  | .int k n, v => v = .int k n
  | .bool b, v => v = .bool b
  | .str s, v => v = .string s
  | .nils, v => v = .slice none 0 0
  | .nilp, v => v = .pointer none
  | .nilf, v => v = .nilFunc
  | .nili, v => v = .nilIface
  | .imm r l, v => RepLeaf w g.prot (.sl r) l v
  | .own b, v => match g.at_ b with
    | some B => v = .slice (some ⟨B, 0, none⟩) (g.len b) (g.cap b)
    | none => v = .slice none 0 0 ∧ g.len b = 0
  | .ptr b off, v => ∃ B, g.at_ b = some B ∧ v = .pointer (some ⟨B, off, none⟩)
  | .eimm r l i off, v => ∃ B o x, v = .pointer (some ⟨B, o + i * Row.size r + off, none⟩) ∧ l[i]? = some x ∧ RepRow w g.prot r x (fun j u => w.cell? ⟨B, o + j, none⟩ = some u ∧ g.prot B (o + j)) (i * Row.size r)
  | .eown b sz i off, v => ∃ B, g.at_ b = some B ∧ i < g.len b ∧ v = .pointer (some ⟨B, i * sz + off, none⟩)
  | .yld b, v => ∃ L, g.at_ b = some L ∧ v = .func (.yield L) #[] #[]
  | .fn f caps, v => caps = [] ∧ v = .func (.func f) #[] #[]
  | .agg _, _ => False
  | .tup _, _ => False
def RepL (R : AV → Value → Prop) : List AV → List Value → Prop
  | [], vs => vs = []
  | c :: cs, vs => match vs with
    | v :: vs => R c v ∧ RepL R cs vs
    | [] => False
/-- A value of one cell. -/
def Rep1 (w : World) (g : Gh) : AV → Value → Prop
  | .fn f caps, v => ∃ vs : List Value, v = .func (.func f) #[] vs.toArray ∧ RepL (Rep0 w g) caps vs
  | c, v => Rep0 w g c v
/-- A value, or a struct. -/
def Rep2 (w : World) (g : Gh) : AV → Value → Prop
  | .agg cs, v => ∃ vs : List Value, v = .agg vs.toArray ∧ RepL (Rep1 w g) cs vs
  | c, v => Rep1 w g c v
def Rep (w : World) (g : Gh) : AV → Value → Prop
  | .tup ts, v => ∃ vs : List Value, v = .tuple vs.toArray ∧ RepL (Rep2 w g) ts vs
  | c, v => Rep2 w g c v

/-! ### What is protected stays -/
def Keeps (w w' : World) (pr pr' : Nat → Nat → Prop) : Prop := ∀ B o, pr B o → w'.cell? ⟨B, o, none⟩ = w.cell? ⟨B, o, none⟩ ∧ pr' B o

mutual
theorem RepLeaf.keep {w w' : World} {pr pr' : Nat → Nat → Prop} (h : Keeps w w' pr pr') : ∀ {l : Leaf} {x : Leaf.T l} {v : Value}, RepLeaf w pr l x v → RepLeaf w' pr' l x v
  | .int k, _, _, hr => by simpa [RepLeaf] using hr
  | .bool, _, _, hr => by simpa [RepLeaf] using hr
  | .str, _, _, hr => by simpa [RepLeaf] using hr
  | .sl r, l, v, hr => by
    simp only [RepLeaf] at hr ⊢
    obtain ⟨A, c, hv, hc, hp⟩ := hr
    refine ⟨A, c, hv, hc, fun hl => ?_⟩
    obtain ⟨B, o, hA, hx⟩ := hp hl
    exact ⟨B, o, hA, fun i x hi => RepRow.keep h (fun j u hu => ⟨(h B (o + j) hu.2).1.trans hu.1, (h B (o + j) hu.2).2⟩) (hx i x hi)⟩
theorem RepRow.keep {w w' : World} {pr pr' : Nat → Nat → Prop} (h : Keeps w w' pr pr') : ∀ {r : Row} {x : Row.T r} {q q' : Nat → Value → Prop} {o : Nat}, (∀ j u, q j u → q' j u) → RepRow w pr r x q o → RepRow w' pr' r x q' o
  | .one l, x, q, q', o, hq, hr => by
    simp only [RepRow] at hr ⊢
    obtain ⟨u, hu, hl⟩ := hr
    exact ⟨u, hq _ _ hu, RepLeaf.keep h hl⟩
  | .cons l r, x, q, q', o, hq, hr => by
    simp only [RepRow] at hr ⊢
    obtain ⟨⟨u, hu, hl⟩, hr⟩ := hr
    exact ⟨⟨u, hq _ _ hu, RepLeaf.keep h hl⟩, RepRow.keep h hq hr⟩
end

/-- The ghosts agree on what is named. -/
structure GExt (w w' : World) (g g' : Gh) (ns : Nat → Prop) : Prop where
  keep : Keeps w w' g.prot g'.prot
  at_ : ∀ b, ns b → g'.at_ b = g.at_ b
  len : ∀ b, ns b → g'.len b = g.len b
  cap : ∀ b, ns b → g'.cap b = g.cap b

theorem Rep1_of {w : World} {g : Gh} {c : AV} (h : ∀ f caps, c ≠ .fn f caps) : Rep1 w g c = Rep0 w g c := by cases c <;> first | rfl | exact absurd rfl (h _ _)
theorem Rep2_of {w : World} {g : Gh} {c : AV} (h : ∀ cs, c ≠ .agg cs) : Rep2 w g c = Rep1 w g c := by cases c <;> first | rfl | exact absurd rfl (h _)
theorem Rep_of {w : World} {g : Gh} {c : AV} (h : ∀ cs, c ≠ .tup cs) : Rep w g c = Rep2 w g c := by cases c <;> first | rfl | exact absurd rfl (h _)
theorem RepL.imp {R R' : AV → Value → Prop} : ∀ {cs : List AV} {vs : List Value}, (∀ c ∈ cs, ∀ v, R c v → R' c v) → RepL R cs vs → RepL R' cs vs
  | [], _, _, hr => by simpa [RepL] using hr
  | c :: cs, [], _, hr => by simp [RepL] at hr
  | c :: cs, v :: vs, h, hr => by
    simp only [RepL] at hr ⊢
    exact ⟨h c (by simp) v hr.1, RepL.imp (fun c hc => h c (by simp [hc])) hr.2⟩
theorem mem_names0L {b : Nat} {c : AV} : ∀ {cs : List AV}, c ∈ cs → b ∈ names0 c → b ∈ names0L cs
  | [], h, _ => by simp at h
  | d :: ds, h, hb => by
    simp only [names0L, List.mem_append]
    rcases List.mem_cons.1 h with rfl | h
    · exact .inl hb
    · exact .inr (mem_names0L h hb)
theorem mem_namesL {b : Nat} {c : AV} : ∀ {cs : List AV}, c ∈ cs → b ∈ names1 c → b ∈ namesL cs
  | [], h, _ => by simp at h
  | d :: ds, h, hb => by
    simp only [namesL, List.mem_append]
    rcases List.mem_cons.1 h with rfl | h
    · exact .inl hb
    · exact .inr (mem_namesL h hb)
theorem mem_namesL2 {b : Nat} {c : AV} : ∀ {cs : List AV}, c ∈ cs → b ∈ names2 c → b ∈ namesL2 cs
  | [], h, _ => by simp at h
  | d :: ds, h, hb => by
    simp only [namesL2, List.mem_append]
    rcases List.mem_cons.1 h with rfl | h
    · exact .inl hb
    · exact .inr (mem_namesL2 h hb)
theorem Rep0.ext {w w' : World} {g g' : Gh} {ns : Nat → Prop} (h : GExt w w' g g' ns) {c : AV} {v : Value} (hn : ∀ b ∈ names0 c, ns b) (hr : Rep0 w g c v) : Rep0 w' g' c v := by
  cases c with
  | imm r l =>
    simp only [Rep0] at hr ⊢
    exact RepLeaf.keep h.keep hr
  | own b =>
    have hb : ns b := hn b (by simp [names0])
    simp only [Rep0, h.at_ b hb, h.len b hb, h.cap b hb] at hr ⊢
    exact hr
  | ptr b o =>
    have hb : ns b := hn b (by simp [names0])
    simp only [Rep0, h.at_ b hb] at hr ⊢
    exact hr
  | eimm r l i off =>
    simp only [Rep0] at hr ⊢
    obtain ⟨B, o, x, hv, hx, hr⟩ := hr
    exact ⟨B, o, x, hv, hx, RepRow.keep h.keep (fun j u hu => ⟨(h.keep B (o + j) hu.2).1.trans hu.1, (h.keep B (o + j) hu.2).2⟩) hr⟩
  | eown b z i off =>
    have hb : ns b := hn b (by simp [names0])
    simp only [Rep0, h.at_ b hb, h.len b hb] at hr ⊢
    exact hr
  | yld b =>
    have hb : ns b := hn b (by simp [names0])
    simp only [Rep0, h.at_ b hb] at hr ⊢
    exact hr
  | undef => simp [Rep0]
  | agg _ => simp [Rep0] at hr
  | tup _ => simp [Rep0] at hr
  | _ => simpa [Rep0] using hr
theorem Rep1.ext {w w' : World} {g g' : Gh} {ns : Nat → Prop} (h : GExt w w' g g' ns) {c : AV} {v : Value} (hn : ∀ b ∈ names1 c, ns b) (hr : Rep1 w g c v) : Rep1 w' g' c v := by
  cases c with
  | fn f caps =>
    simp only [Rep1] at hr ⊢
    obtain ⟨vs, hv, hl⟩ := hr
    exact ⟨vs, hv, hl.imp fun c hc v hr => Rep0.ext h (fun b hb => hn b (by simp only [names1]; exact mem_names0L hc hb)) hr⟩
  | _ =>
    rw [Rep1_of (by intro f c; nofun)] at hr ⊢
    exact Rep0.ext h hn hr
theorem Rep2.ext {w w' : World} {g g' : Gh} {ns : Nat → Prop} (h : GExt w w' g g' ns) {c : AV} {v : Value} (hn : ∀ b ∈ names2 c, ns b) (hr : Rep2 w g c v) : Rep2 w' g' c v := by
  cases c with
  | agg cs =>
    simp only [Rep2] at hr ⊢
    obtain ⟨vs, hv, hl⟩ := hr
    exact ⟨vs, hv, hl.imp fun c hc v hr => Rep1.ext h (fun b hb => hn b (by simp only [names2]; exact mem_namesL hc hb)) hr⟩
  | _ =>
    rw [Rep2_of (by intro c; nofun)] at hr ⊢
    exact Rep1.ext h hn hr
theorem Rep.ext {w w' : World} {g g' : Gh} {ns : Nat → Prop} (h : GExt w w' g g' ns) {c : AV} {v : Value} (hn : ∀ b ∈ names c, ns b) (hr : Rep w g c v) : Rep w' g' c v := by
  cases c with
  | tup cs =>
    simp only [Rep] at hr ⊢
    obtain ⟨vs, hv, hl⟩ := hr
    exact ⟨vs, hv, hl.imp fun c hc v hr => Rep2.ext h (fun b hb => hn b (by simp only [names]; exact mem_namesL2 hc hb)) hr⟩
  | _ =>
    rw [Rep_of (by intro c; nofun)] at hr ⊢
    exact Rep2.ext h hn hr
end Go.Proofs.Ytcjhegiidnjepaa.Ev
