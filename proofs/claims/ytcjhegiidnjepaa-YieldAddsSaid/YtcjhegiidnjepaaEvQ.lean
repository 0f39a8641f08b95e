/- Regions that draw their order: the state behind a set of operations. -/
import Derived.Test.YtcjhegiidnjepaaEvP
namespace Go.Proofs.Ytcjhegiidnjepaa.Ev
open Go.RowKit
set_option linter.unusedVariables false
set_option linter.unusedSimpArgs false

theorem tr_exact : ∀ (f : Nat) (t : Tr) (n : Nat) (x : AV) (m : Nat), n + 1 < 2 ^ f → Tr.get f (Tr.set f t n x) m = if m = n then x else Tr.get f t m
  | 0, _, _, _, _, h => by simp at h
  | f + 1, t, n, x, m, h => by
    have hp : 2 ^ (f + 1) = 2 * 2 ^ f := by rw [Nat.pow_succ]; omega
    have nil : ∀ g k, Tr.get g .nil k = .undef := tr_nil
    cases t with
    | nil =>
      simp only [Tr.set]
      by_cases hn : n = 0
      · subst hn
        simp only [Nat.beq, cond_true, Tr.get]
        by_cases hm : m = 0
        · subst hm; simp
        · rw [(beq_ne hm : Nat.beq m 0 = false), if_neg hm]
          simp only [cond_false, nil]
          cases Nat.beq (m % 2) 1 <;> rfl
      · rw [(beq_ne hn : Nat.beq n 0 = false)]
        simp only [cond_false]
        by_cases hodd : n % 2 = 1
        · rw [(beq_eq hodd : Nat.beq (n % 2) 1 = true)]
          simp only [cond_true, Tr.get]
          by_cases hm : m = 0
          · subst hm; rw [if_neg (fun e => hn e.symm)]; simp
          · rw [(beq_ne hm : Nat.beq m 0 = false)]
            simp only [cond_false]
            by_cases hmo : m % 2 = 1
            · rw [(beq_eq hmo : Nat.beq (m % 2) 1 = true)]
              simp only [cond_true]
              rw [tr_exact f .nil (n / 2) x (m / 2) (by omega), nil]
              by_cases e : m = n
              · rw [if_pos e, if_pos (by rw [e])]
              · rw [if_neg e, if_neg (by omega)]
            · rw [(beq_ne hmo : Nat.beq (m % 2) 1 = false), if_neg (by rintro rfl; exact hmo hodd)]
              simp [nil]
        · rw [(beq_ne hodd : Nat.beq (n % 2) 1 = false)]
          simp only [cond_false, Tr.get]
          by_cases hm : m = 0
          · subst hm; rw [if_neg (fun e => hn e.symm)]; simp
          · rw [(beq_ne hm : Nat.beq m 0 = false)]
            simp only [cond_false]
            by_cases hmo : m % 2 = 1
            · rw [(beq_eq hmo : Nat.beq (m % 2) 1 = true), if_neg (by rintro rfl; exact hodd hmo)]
              simp [nil]
            · rw [(beq_ne hmo : Nat.beq (m % 2) 1 = false)]
              simp only [cond_false]
              rw [tr_exact f .nil (n / 2 - 1) x (m / 2 - 1) (by omega), nil]
              by_cases e : m = n
              · rw [if_pos e, if_pos (by rw [e])]
              · rw [if_neg e, if_neg (by omega)]
    | node v l r =>
      simp only [Tr.set]
      by_cases hn : n = 0
      · subst hn
        simp only [Nat.beq, cond_true, Tr.get]
        by_cases hm : m = 0
        · subst hm; simp
        · rw [(beq_ne hm : Nat.beq m 0 = false), if_neg hm]
          rfl
      · rw [(beq_ne hn : Nat.beq n 0 = false)]
        simp only [cond_false]
        by_cases hodd : n % 2 = 1
        · rw [(beq_eq hodd : Nat.beq (n % 2) 1 = true)]
          simp only [cond_true, Tr.get]
          by_cases hm : m = 0
          · subst hm; rw [if_neg (fun e => hn e.symm)]; simp
          · rw [(beq_ne hm : Nat.beq m 0 = false)]
            simp only [cond_false]
            by_cases hmo : m % 2 = 1
            · rw [(beq_eq hmo : Nat.beq (m % 2) 1 = true)]
              simp only [cond_true]
              rw [tr_exact f l (n / 2) x (m / 2) (by omega)]
              by_cases e : m = n
              · rw [if_pos e, if_pos (by rw [e])]
              · rw [if_neg e, if_neg (by omega)]
            · rw [(beq_ne hmo : Nat.beq (m % 2) 1 = false), if_neg (by rintro rfl; exact hmo hodd)]
              rfl
        · rw [(beq_ne hodd : Nat.beq (n % 2) 1 = false)]
          simp only [cond_false, Tr.get]
          by_cases hm : m = 0
          · subst hm; rw [if_neg (fun e => hn e.symm)]; simp
          · rw [(beq_ne hm : Nat.beq m 0 = false)]
            simp only [cond_false]
            by_cases hmo : m % 2 = 1
            · rw [(beq_eq hmo : Nat.beq (m % 2) 1 = true), if_neg (by rintro rfl; exact hodd hmo)]
              rfl
            · rw [(beq_ne hmo : Nat.beq (m % 2) 1 = false)]
              simp only [cond_false]
              rw [tr_exact f r (n / 2 - 1) x (m / 2 - 1) (by omega)]
              by_cases e : m = n
              · rw [if_pos e, if_pos (by rw [e])]
              · rw [if_neg e, if_neg (by omega)]
theorem look_exact {t : Tr} {n : Nat} (v : AV) (m : Nat) (h : n < 4095) : look (putT t n v) m = if m = n then v else look t m := tr_exact 12 t n v m (by omega)
theorem putD_exact {t : Tr} {d : Option Nat} (v : AV) (m : Nat) (h : ∀ n, d = some n → n < 4095) : look (putD t d v) m = if d = some m then v else look t m := by
  cases d with
  | none => simp [putD]
  | some n =>
    simp only [putD]
    rw [look_exact v m (h n rfl)]
    by_cases e : m = n
    · rw [if_pos e, if_pos (by rw [e])]
    · rw [if_neg e, if_neg (by intro h; exact e (Option.some.inj h).symm)]
/-- Two states that say the same. -/
structure Same (s s' : Sx) : Prop where
  T : ∀ m, look s.tm m = look s'.tm m
  B : ∀ b, get s.bl b = get s'.bl b
  Z : ∀ b, memN s.fz b = memN s'.fz b
theorem Same.refl (s : Sx) : Same s s := ⟨fun _ => rfl, fun _ => rfl, fun _ => rfl⟩
theorem Same.symm {s s' : Sx} (h : Same s s') : Same s' s := ⟨fun m => (h.T m).symm, fun b => (h.B b).symm, fun b => (h.Z b).symm⟩
theorem Same.trans {s s' s2 : Sx} (h : Same s s') (k : Same s' s2) : Same s s2 := ⟨fun m => (h.T m).trans (k.T m), fun b => (h.B b).trans (k.B b), fun b => (h.Z b).trans (k.Z b)⟩
theorem Sim.same {X : Fix} {U : Nat → Prop} {s s' : Sx} {a : Act} {w : World} {g : Gh} (e : Same s s') (h : Sim X U s a w g) : Sim X U s' a w g :=
  ⟨fun t => (e.T t) ▸ h.tmps t, h.size, h.dfr, fun b x hb => h.blk b x ((e.B b).trans hb), fun b cs B o hb => h.unp b cs B o ((e.B b).trans hb), fun b r l B o hb hf => h.unf b r l B o ((e.B b).trans hb) ((e.Z b).trans hf),
    fun b c x y B hb hc => h.inj b c x y B ((e.B b).trans hb) ((e.B c).trans hc), fun b x B hb => h.new b x B ((e.B b).trans hb), h.prot0, h.plt, h.blt, h.below, fun t b hb => h.nmT t b ((e.T t) ▸ hb), fun b cs hb => h.nmB b cs ((e.B b).trans hb), fun b x hb => h.nmK b x ((e.B b).trans hb), h.u0, h.ext, h.held, h.mkh, h.mkn, h.hok⟩
def app (x : Option Eff) (d : Option Nat) (s : Sx) : Sx := match x with
  | some e => after e d s
  | none => ⟨putD s.tm d .void, s.bl, s.fz, s.nx⟩
def valOf (x : Option Eff) : AV := match x with
  | some e => e.val
  | none => .void
def wrOf (x : Option Eff) : List Nat := match x with
  | some e => e.wr.map (·.1)
  | none => []
def fzOf (x : Option Eff) : List Nat := match x with
  | some e => e.fz
  | none => []
theorem app_T {x : Option Eff} {d : Option Nat} {s : Sx} (m : Nat) (h : ∀ n, d = some n → n < 4095) : look (app x d s).tm m = if d = some m then valOf x else look s.tm m := by
  cases x with
  | none => exact putD_exact _ m h
  | some e => exact putD_exact _ m h
theorem putB_not : ∀ {wr : List (Nat × Option Blk)} {bl : Bls} {b : Nat}, b ∉ wr.map (·.1) → get (putB bl wr) b = get bl b
  | [], _, _, _ => rfl
  | (c, none) :: r, bl, b, h => by
    simp only [List.map_cons, List.mem_cons, not_or] at h
    simp only [putB]
    rw [putB_not h.2, get_delB, if_neg h.1]
  | (c, some x) :: r, bl, b, h => by
    simp only [List.map_cons, List.mem_cons, not_or] at h
    simp only [putB]
    rw [putB_not h.2, get_setB, if_neg h.1]
theorem putB_in : ∀ {wr : List (Nat × Option Blk)} {bl bl' : Bls} {b : Nat}, (b ∈ wr.map (·.1) ∨ get bl b = get bl' b) → get (putB bl wr) b = get (putB bl' wr) b
  | [], _, _, _, h => h.resolve_left (by simp)
  | (c, none) :: r, bl, bl', b, h => by
    simp only [putB]
    refine putB_in ?_
    by_cases hb : b = c
    · right; rw [get_delB, get_delB, if_pos hb, if_pos hb]
    · rcases h with h | h
      · simp only [List.map_cons, List.mem_cons] at h
        exact .inl (h.resolve_left hb)
      · right; rw [get_delB, get_delB, if_neg hb, if_neg hb, h]
  | (c, some x) :: r, bl, bl', b, h => by
    simp only [putB]
    refine putB_in ?_
    by_cases hb : b = c
    · right; rw [get_setB, get_setB, if_pos hb, if_pos hb]
    · rcases h with h | h
      · simp only [List.map_cons, List.mem_cons] at h
        exact .inl (h.resolve_left hb)
      · right; rw [get_setB, get_setB, if_neg hb, if_neg hb, h]
theorem app_B {x : Option Eff} {d : Option Nat} {s s' : Sx} {b : Nat} (h : b ∈ wrOf x ∨ get s.bl b = get s'.bl b) : get (app x d s).bl b = get (app x d s').bl b := by
  cases x with
  | none => exact h.resolve_left (by simp [wrOf])
  | some e => exact putB_in h
theorem app_B_not {x : Option Eff} {d : Option Nat} {s : Sx} {b : Nat} (h : b ∉ wrOf x) : get (app x d s).bl b = get s.bl b := by
  cases x with
  | none => rfl
  | some e => exact putB_not h
theorem memN_or (l l' : List Nat) (b : Nat) : memN (l ++ l') b = (memN l b || memN l' b) := by
  induction l with
  | nil => simp [memN]
  | cons a r ih =>
    simp only [List.cons_append, memN, ih]
    cases Nat.beq a b <;> simp
theorem app_Z {x : Option Eff} {d : Option Nat} {s : Sx} {b : Nat} : memN (app x d s).fz b = (memN (fzOf x) b || memN s.fz b) := by
  cases x with
  | none => simp [app, fzOf, memN]
  | some e => exact memN_or _ _ _
/-- The state behind the operations of a set, in the text's order. -/
def stOf (L : Nat → Bool) (ex : Nat → Option Eff) : List Oper → Nat → Sx → Sx
  | [], _, s => s
  | o :: r, i, s => stOf L ex r (i + 1) (if L i then app (ex i) o.dst s else s)
section
variable {L L' : Nat → Bool} {ex : Nat → Option Eff}
theorem agreeT {t : Nat} : ∀ {l : List Oper} {i : Nat} {s s' : Sx}, (∀ o ∈ l, ∀ n, o.dst = some n → n < 4095) → (∀ j o, l[j]? = some o → o.dst = some t → L (i + j) = L' (i + j)) → look s.tm t = look s'.tm t → look (stOf L ex l i s).tm t = look (stOf L' ex l i s').tm t
  | [], i, s, s', _, _, h => h
  | o :: r, i, s, s', hd, hl, h => by
    simp only [stOf]
    refine agreeT (fun o ho => hd o (by simp [ho])) (fun j o' hj hdt => by have := hl (j + 1) o' (by simpa using hj) hdt; rwa [show i + (j + 1) = i + 1 + j by omega] at this) ?_
    have hd0 : ∀ n, o.dst = some n → n < 4095 := hd o (by simp)
    by_cases ht : o.dst = some t
    · have h0 := hl 0 o rfl ht
      simp only [Nat.add_zero] at h0
      rw [h0]
      cases L' i
      · exact h
      · simp only [if_true]
        rw [app_T t hd0, app_T t hd0, if_pos ht, if_pos ht]
    · have e1 : ∀ (b : Bool) (s : Sx), look (if b then app (ex i) o.dst s else s).tm t = look s.tm t := by
        intro b s
        cases b
        · rfl
        · simp only [if_true]; rw [app_T t hd0, if_neg ht]
      rw [e1, e1]
      exact h
theorem agreeB {b : Nat} : ∀ {l : List Oper} {i : Nat} {s s' : Sx}, (∀ j, j < l.length → b ∈ wrOf (ex (i + j)) → L (i + j) = L' (i + j)) → get s.bl b = get s'.bl b → get (stOf L ex l i s).bl b = get (stOf L' ex l i s').bl b
  | [], i, s, s', _, h => h
  | o :: r, i, s, s', hl, h => by
    simp only [stOf]
    refine agreeB (fun j hj hw => by have := hl (j + 1) (by simp; omega) (by rwa [show i + (j + 1) = i + 1 + j by omega]); rwa [show i + (j + 1) = i + 1 + j by omega] at this) ?_
    by_cases hb : b ∈ wrOf (ex i)
    · have h0 := hl 0 (by simp) (by simpa using hb)
      simp only [Nat.add_zero] at h0
      rw [h0]
      cases L' i
      · exact h
      · exact app_B (.inl hb)
    · have e1 : ∀ (c : Bool) (s : Sx), get (if c then app (ex i) o.dst s else s).bl b = get s.bl b := by
        intro c s
        cases c
        · rfl
        · exact app_B_not hb
      rw [e1, e1]
      exact h
theorem agreeZ {b : Nat} : ∀ {l : List Oper} {i : Nat} {s s' : Sx}, (∀ j, j < l.length → b ∈ fzOf (ex (i + j)) → L (i + j) = L' (i + j)) → memN s.fz b = memN s'.fz b → memN (stOf L ex l i s).fz b = memN (stOf L' ex l i s').fz b
  | [], i, s, s', _, h => h
  | o :: r, i, s, s', hl, h => by
    simp only [stOf]
    refine agreeZ (fun j hj hw => by have := hl (j + 1) (by simp; omega) (by rwa [show i + (j + 1) = i + 1 + j by omega]); rwa [show i + (j + 1) = i + 1 + j by omega] at this) ?_
    by_cases hb : b ∈ fzOf (ex i)
    · have h0 := hl 0 (by simp) (by simpa using hb)
      simp only [Nat.add_zero] at h0
      rw [h0]
      cases L' i
      · exact h
      · simp only [if_true]
        rw [app_Z, app_Z, (memN_iff _ _).2 hb]
        rfl
    · have e1 : ∀ (c : Bool) (s : Sx), memN (if c then app (ex i) o.dst s else s).fz b = memN s.fz b := by
        intro c s
        cases c
        · rfl
        · simp only [if_true]
          rw [app_Z]
          have : memN (fzOf (ex i)) b = false := by
            cases hm : memN (fzOf (ex i)) b
            · rfl
            · exact absurd ((memN_iff _ _).1 hm) hb
          rw [this]
          rfl
      rw [e1, e1]
      exact h
end
end Go.Proofs.Ytcjhegiidnjepaa.Ev
