/- What the plain functions of the chapter about worth compute: the worth of a box, in the program and in the reference. -/
import Derived.Test.YtdhgbgbdnifonaaPureWPro
namespace Go.Proofs.Ytdhgbgbdnifonaa.Ev.Plain
set_option linter.unusedVariables false
set_option linter.unusedSimpArgs false
abbrev Lk := List Def × ByteArray × Int × Int × Int × Int × List Int × List Int × Int × Int × Int × Int × Int × List Int × List Int
def rotB (b : Box) (x : Def) : Bool := (x.1 == 3) && f70 x b
def valF (b : Box) (fine : Int) : List Def → Int → Int
  | [], v => v
  | x :: r, v => valF b fine r (bif f70 x b then IntKind.i64.wrap (v - fine) else v)
def boxAt (r : Int × Int × Int × Int) (z : Pr) : Box := (r.1, r.2.1, r.2.2.1, r.2.2.2, z.1, z.2)
theorem f51_L (n : Nat) (fine : Int) (k : Lk) (z : Pr) (kret : Option (Int × Bool)) (k0) : ∀ (r : List Def) (j : Nat) (v : Int), f51L7F n fine k z kret k0 r j v = bif r.any (rotB (boxAt (k.2.2.2.2.2.2.2.2.1, k.2.2.2.2.2.2.2.2.2.1, k.2.2.2.2.2.2.2.2.2.2.1, k.2.2.2.2.2.2.2.2.2.2.2.1) z)) then kret else k0 (valF (boxAt (k.2.2.2.2.2.2.2.2.1, k.2.2.2.2.2.2.2.2.2.1, k.2.2.2.2.2.2.2.2.2.2.1, k.2.2.2.2.2.2.2.2.2.2.2.1) z) fine r v)
  | [], j, v => rfl
  | x :: r, j, v => by
    simp only [f51L7F, f51L7B, f51_L n fine k z kret k0 r (j + 1), List.any_cons, rotB, valF, boxAt]
    cases f70 x _
    · simp
    · cases (x.1 == 3) <;> rfl
theorem f40_L (n : Nat) (l : List Slc) (d : List Def) (p : Pro) (b : Box) (kret k0 : Option Bool) : ∀ (r : List Def) (j : Nat), f40L9F n l d p b kret k0 r j = bif r.any (rotB b) then kret else k0
  | [], j => rfl
  | x :: r, j => by
    simp only [f40L9F, f40L9B, f40_L n l d p b kret k0 r (j + 1), List.any_cons, rotB, touch_eq]
    cases (x.1 == 3)
    · rfl
    · cases f70 x b <;> rfl
theorem f38_L (n : Nat) (d : List Def) (fine : Int) (b : Box) (k0) : ∀ (r : List Def) (j : Nat) (v : Int), f38L3F n d fine b k0 r j v = k0 (valF b fine r v)
  | [], j, v => rfl
  | x :: r, j, v => by
    simp only [f38L3F, f38L3B, f38_L n d fine b k0 r (j + 1), valF, touch_eq]
    cases f70 x b <;> rfl
def sizeB (p : Pro) (r : Int × Int × Int × Int) : Bool := ((IntKind.i64.wrap (r.2.1 - r.1) == (f57 p).1) && (IntKind.i64.wrap (r.2.2.2 - r.2.2.1) == (f57 p).2)) || ((IntKind.i64.wrap (r.2.1 - r.1) == (f57 p).2) && (IntKind.i64.wrap (r.2.2.2 - r.2.2.1) == (f57 p).1))
/-- What is asked once for all boxes of a rectangle. -/
structure Ready (l : List Slc) (d : List Def) (p : Pro) (r : Int × Int × Int × Int) : Prop where
  dc : dCk d = 0
  pc : pCk p = 0
  lc : logCk l = 0
  ac : Across r
  sc : sizeB p r = true
/-- .. and of a box's extent along the log. -/
structure Fits (l : List Slc) (d : List Def) (p : Pro) (r : Int × Int × Int × Int) (z : Pr) : Prop where
  z0 : 0 ≤ z.1
  z1 : z.1 < z.2
  z2 : z.2 ≤ total l
  c : (priceOf p (z.2 - z.1)).2 = true
  w : mostF (area r) r z l 0 0 ≤ p.2.2.2.2.1
  t : d.any (rotB (boxAt r z)) = false
def worthAt (d : List Def) (p : Pro) (r : Int × Int × Int × Int) (fine : Int) (z : Pr) : Int := if valF (boxAt r z) fine d (priceOf p (z.2 - z.1)).1 > 0 then valF (boxAt r z) fine d (priceOf p (z.2 - z.1)).1 else 0
open Classical in
noncomputable def lookW (l : List Slc) (d : List Def) (p : Pro) (r : Int × Int × Int × Int) (fine : Int) (z : Pr) : Int × Bool := if Fits l d p r z then (worthAt d p r fine z, true) else (0, false)
open Classical in
noncomputable def worthOf (l : List Slc) (d : List Def) (p : Pro) (b : Box) (fine : Int) : Int × Bool := if (0 ≤ fine ∧ fine ≤ 1000000) ∧ Ready l d p (rectOf b) then lookW l d p (rectOf b) fine b.2.2.2.2 else (0, false)
def kOf (l : List Slc) (d : List Def) (p : Pro) (r : Int × Int × Int × Int) : Lk := (d, p.1, p.2.1, p.2.2.1, p.2.2.2.1, p.2.2.2.2.1, p.2.2.2.2.2.1, p.2.2.2.2.2.2, r.1, r.2.1, r.2.2.1, r.2.2.2, total l, endsF l 0, l.map (wan (area r) r))
theorem lens_le {p : Pro} (h : pCk p = 0) : p.2.2.2.2.2.1.length ≤ 8 := by
  unfold pCk at h
  cases c1 : nameB p.1
  · rw [c1] at h; cases h
  rw [c1] at h
  cases c2 : sizedB p
  · rw [c2] at h; cases h
  rw [c2] at h
  simp only [Bool.not_true, cond_false] at h
  unfold lCk at h
  split at h
  · cases h
  · split at h
    · cases h
    · omega
open Classical in
theorem f51_eq {n : Nat} (hn : 200 ≤ n) {l : List Slc} {d : List Def} {p : Pro} {r : Int × Int × Int × Int} (h : Ready l d p r) (z : Pr) (fine : Int) : f51 n (kOf l d p r) z fine = some (lookW l d p r fine z) := by
  obtain ⟨g1, g2, g3⟩ := logCk_ok h.lc
  have ht := total_le g3 (by omega) (by omega)
  have hd : d.length ≤ 64 := by
    have := h.dc
    unfold dCk at this
    split at this
    · cases this
    · omega
  have hp := lens_le h.pc
  unfold f51 f51G
  simp only [bif_if]
  have e0 : (kOf l d p r).2.2.2.2.2.2.2.2.2.2.2.2.1 = total l := rfl
  have e1 : ((kOf l d p r).2.1, (kOf l d p r).2.2.1, (kOf l d p r).2.2.2.1, (kOf l d p r).2.2.2.2.1, (kOf l d p r).2.2.2.2.2.1, (kOf l d p r).2.2.2.2.2.2.1, (kOf l d p r).2.2.2.2.2.2.2.1) = p := rfl
  have e2 : (kOf l d p r).2.2.2.2.2.2.2.2.2.2.2.2.2.1 = endsF l 0 := rfl
  have e3 : (kOf l d p r).2.2.2.2.2.2.2.2.2.2.2.2.2.2 = l.map (wan (area r) r) := rfl
  have e4 : (kOf l d p r).2.2.2.2.2.1 = p.2.2.2.2.1 := rfl
  have e5 : (kOf l d p r).1 = d := rfl
  rw [e0, e1, e2, e3, e4]
  by_cases z0 : z.1 < 0
  · rw [if_pos z0, lookW, if_neg (fun q => absurd q.z0 (by omega))]
  rw [if_neg z0]
  by_cases z1 : z.1 ≥ z.2
  · rw [if_pos z1, lookW, if_neg (fun q => absurd q.z1 (by omega))]
  rw [if_neg z1]
  by_cases z2 : z.2 > total l
  · rw [if_pos z2, lookW, if_neg (fun q => absurd q.z2 (by omega))]
  rw [if_neg z2]
  have e6 : IntKind.i64.wrap (z.2 - z.1) = z.2 - z.1 := wrap_of (by omega) (by omega)
  simp only [e6, f24_eq (n := n) p (by omega) (by omega), f34_eq hn g2, Option.isSome_some, Option.getD_some, chk_true]
  cases c : (priceOf p (z.2 - z.1)).2
  · show some ((0 : Int), false) = some (lookW l d p r fine z)
    rw [lookW, if_neg (fun q => by have := q.c; rw [c] at this; cases this)]
  simp only [Bool.not_true, cond_false]
  by_cases w : mostF (area r) r z l 0 0 > p.2.2.2.2.1
  · rw [if_pos w, lookW, if_neg (fun q => absurd q.w (by omega))]
  rw [if_neg w]
  rw [f51L7_at n fine (kOf l d p r) z _ _ (by rw [e5]; omega) (by rw [e5]; omega), f51_L, e5]
  have e7 : boxAt ((kOf l d p r).2.2.2.2.2.2.2.2.1, (kOf l d p r).2.2.2.2.2.2.2.2.2.1, (kOf l d p r).2.2.2.2.2.2.2.2.2.2.1, (kOf l d p r).2.2.2.2.2.2.2.2.2.2.2.1) z = boxAt r z := rfl
  rw [e7]
  cases t : d.any (rotB (boxAt r z))
  · show some (worthAt d p r fine z, true) = some (lookW l d p r fine z)
    rw [lookW, if_pos (⟨by omega, by omega, by omega, c, by omega, t⟩ : Fits l d p r z)]
  · show some ((0 : Int), false) = some (lookW l d p r fine z)
    rw [lookW, if_neg (fun q => by have := q.t; rw [t] at this; cases this)]
open Classical in
theorem f50_eq {n : Nat} (hn : 200 ≤ n) (l : List Slc) (d : List Def) (p : Pro) (r : Int × Int × Int × Int) : ∃ k, f50 n l d p r = some (k, decide (Ready l d p r)) ∧ (Ready l d p r → k = kOf l d p r) := by
  unfold f50 f50G
  simp only [f67_eq hn, f68_eq hn, f25_eq hn, f69_eq, f27_eq hn, Option.isSome_some, Option.getD_some, chk_true]
  by_cases hd : dCk d = 0
  case neg =>
    have e : (dCk d != 0) = true := by simp [hd]
    rw [e, cond_true, decide_eq_false (fun q => hd q.dc)]
    exact ⟨_, rfl, fun q => absurd q.dc hd⟩
  have e : (dCk d != 0) = false := by simp [hd]
  rw [e, cond_false]
  by_cases hp : pCk p = 0
  case neg =>
    have e : (pCk p != 0) = true := by simp [hp]
    rw [e, cond_true, decide_eq_false (fun q => hp q.pc)]
    exact ⟨_, rfl, fun q => absurd q.pc hp⟩
  have e : (pCk p != 0) = false := by simp [hp]
  rw [e, cond_false]
  by_cases hl : logCk l = 0
  case neg =>
    have e : (logCk l != 0) = true := by simp [hl]
    rw [e, cond_true, decide_eq_false (fun q => hl q.lc)]
    exact ⟨_, rfl, fun q => absurd q.lc hl⟩
  have e : (logCk l != 0) = false := by simp [hl]
  rw [e, cond_false]
  obtain ⟨g1, g2, g3⟩ := logCk_ok hl
  cases ha : f32 r
  case false =>
    have ha' : ¬ Across r := fun q => by have := (across_iff r).2 q; rw [ha] at this; cases this
    rw [decide_eq_false (fun q => ha' q.ac)]
    exact ⟨_, rfl, fun q => absurd q.ac ha'⟩
  have ha' := (across_iff r).1 ha
  have q1 := f33_eq hn g3 g2 ha'
  simp only [q1, Option.isSome_some, Option.getD_some, chk_true, Bool.not_true, cond_false]
  rw [if_neg (show ¬ logCk l ≠ 0 by simp [hl])]
  cases hs : sizeB p r
  · rw [decide_eq_false (fun q => by have := q.sc; rw [hs] at this; cases this)]
    unfold sizeB at hs
    simp only [Bool.or_eq_false_iff] at hs
    simp only [Bool.and_true, hs.1, hs.2, Bool.not_false, cond_true]
    exact ⟨_, rfl, fun q => by have := q.sc; unfold sizeB at this; rw [hs.1, hs.2] at this; cases this⟩
  · have hr : Ready l d p r := ⟨hd, hp, hl, ha', hs⟩
    rw [decide_eq_true hr]
    refine ⟨kOf l d p r, ?_, fun _ => rfl⟩
    unfold sizeB at hs
    simp only [Bool.or_eq_true] at hs
    simp only [Bool.and_true]
    cases hs1 : ((IntKind.i64.wrap (r.2.1 - r.1) == (f57 p).1) && (IntKind.i64.wrap (r.2.2.2 - r.2.2.1) == (f57 p).2))
    · rw [hs1] at hs
      have hs2 := hs.resolve_left (by simp)
      rw [hs2]
      rfl
    · rfl
theorem from_eq (x : Int) : f29 x 0 1000000 = decide (0 ≤ x ∧ x ≤ 1000000) := by
  unfold f29
  rw [bif_if, Bool.eq_iff_iff]
  by_cases h : (0 : Int) ≤ x <;> simp [h]
open Classical in
theorem f37_eq {n : Nat} (hn : 200 ≤ n) (l : List Slc) (d : List Def) (p : Pro) (b : Box) (fine : Int) : f37 n l d p b fine = some (worthOf l d p b fine) := by
  obtain ⟨k, h1, h2⟩ := f50_eq hn l d p (rectOf b)
  unfold f37 f37G
  simp only [rectOf] at h1
  simp only [h1, Option.isSome_some, Option.getD_some, chk_true, from_eq]
  by_cases hr : Ready l d p (rectOf b)
  · have hk := h2 hr
    subst hk
    simp only [rectOf] at hr
    rw [decide_eq_true hr, Bool.not_true, cond_false]
    by_cases hf : 0 ≤ fine ∧ fine ≤ 1000000
    · rw [decide_eq_true hf, Bool.not_true, cond_false]
      simp only [f51_eq hn hr, Option.isSome_some, Option.getD_some, chk_true]
      rw [worthOf, if_pos ⟨hf, hr⟩]
    · rw [decide_eq_false hf, worthOf, if_neg (fun q => hf q.1)]
      rfl
  · rw [worthOf, if_neg (fun q => hr q.2)]
    simp only [rectOf] at hr
    rw [decide_eq_false hr]
    rfl
theorem f39_eq {n : Nat} (hn : 200 ≤ n) (l : List Slc) (d : List Def) (p : Pro) : f39 n l d p = some (decide (logCk l = 0 ∧ dCk d = 0 ∧ pCk p = 0)) := by
  unfold f39 f39G
  simp only [f54_eq hn, f55_eq hn, f56_eq hn, Option.isSome_some, Option.getD_some, chk_true]
  by_cases h1 : logCk l = 0
  · by_cases h2 : dCk d = 0
    · by_cases h3 : pCk p = 0 <;> simp [h1, h2, h3]
    · have e : (dCk d == 0) = false := by simp [h2]
      simp [h1, h2, e]
  · have e : (logCk l == 0) = false := by simp [h1]
    simp [h1, e]
theorem f35_eq {n : Nat} (hn : 200 ≤ n) (l : List Slc) (b : Box) : ∃ q : Bool, f35 n l b = some q ∧ (q = true ↔ Inside l b) := by
  unfold f35 f35G
  have hz : f47 (b.1, b.2.1) = true ∧ f47 (b.2.2.1, b.2.2.2.1) = true ↔ Across (rectOf b) := across2_iff (rectOf b)
  have no : ∀ {c : Prop}, ¬ c → ((false = true) ↔ c) := fun h => ⟨fun q => (by cases q), fun q => absurd q h⟩
  cases c1 : f47 (b.1, b.2.1)
  case false => exact ⟨false, rfl, no fun h => by have := (hz.2 h.1).1; rw [c1] at this; cases this⟩
  cases c2 : f47 (b.2.2.1, b.2.2.2.1)
  case false => exact ⟨false, rfl, no fun h => by have := (hz.2 h.1).2; rw [c2] at this; cases this⟩
  have a1 : Across (rectOf b) := hz.1 ⟨c1, c2⟩
  simp only [cond_true, bif_if]
  by_cases c3 : b.2.2.2.2.1 ≥ 0
  · rw [if_pos c3]
    by_cases c4 : b.2.2.2.2.1 < b.2.2.2.2.2
    · rw [if_pos c4]
      simp only [f42_eq hn, Option.isSome_some, Option.getD_some, chk_true]
      refine ⟨_, rfl, ?_⟩
      by_cases c5 : logCk l = 0
      · rw [if_neg (show ¬ logCk l ≠ 0 by simp [c5]), decide_eq_true_eq]
        exact ⟨fun h => ⟨a1, c3, c4, c5, h⟩, fun h => h.2.2.2.2⟩
      · rw [if_pos c5, decide_eq_true_eq]
        exact ⟨fun h => by omega, fun h => absurd h.2.2.2.1 c5⟩
    · rw [if_neg c4]
      exact ⟨false, rfl, no fun h => c4 h.2.2.1⟩
  · rw [if_neg c3]
    exact ⟨false, rfl, no fun h => c3 h.2.1⟩
/-- Can the box be a board, as the reference says it? -/
theorem f20_eq {n : Nat} (hn : 200 ≤ n) (l : List Slc) (d : List Def) (p : Pro) (b : Box) : ∃ q : Bool, f20 n l d p b = some q ∧ (q = true ↔ Ready l d p (rectOf b) ∧ Fits l d p (rectOf b) b.2.2.2.2) := by
  have no : ∀ {c : Prop}, ¬ c → ((false = true) ↔ c) := fun h => ⟨fun q => (by cases q), fun q => absurd q h⟩
  unfold f20 f20G
  simp only [f39_eq hn, Option.isSome_some, Option.getD_some, chk_true]
  by_cases hv : logCk l = 0 ∧ dCk d = 0 ∧ pCk p = 0
  case neg =>
    rw [decide_eq_false hv]
    exact ⟨false, rfl, no fun h => hv ⟨h.1.lc, h.1.dc, h.1.pc⟩⟩
  rw [decide_eq_true hv, cond_true]
  obtain ⟨hl, hd, hp⟩ := hv
  obtain ⟨g1, g2, g3⟩ := logCk_ok hl
  have ht := total_le g3 (by omega) (by omega)
  have hdl : d.length ≤ 64 := by
    have := hd
    unfold dCk at this
    split at this
    · cases this
    · omega
  have hpl := lens_le hp
  have key : ∃ q : Bool, f40 n l d p b = some q ∧ (q = true ↔ Ready l d p (rectOf b) ∧ Fits l d p (rectOf b) b.2.2.2.2) := by
    obtain ⟨q, h1, h2⟩ := f35_eq hn l b
    unfold f40 f40G
    simp only [h1, Option.isSome_some, Option.getD_some, chk_true]
    cases q
    case false => exact ⟨false, rfl, no fun h => by have := h2.2 ⟨h.1.ac, h.2.z0, h.2.z1, hl, h.2.z2⟩; cases this⟩
    have hi := h2.1 rfl
    obtain ⟨a1, a2, a3, a4, a5⟩ := hi
    have e6 : IntKind.i64.wrap (b.2.2.2.2.2 - b.2.2.2.2.1) = b.2.2.2.2.2 - b.2.2.2.2.1 := wrap_of (by omega) (by omega)
    simp only [e6, f52_eq (n := n) p (by omega) (by omega), Option.isSome_some, Option.getD_some, chk_true, Bool.not_true, cond_false]
    cases c : (priceOf p (b.2.2.2.2.2 - b.2.2.2.2.1)).2
    case false => exact ⟨false, rfl, no fun h => by have := h.2.c; rw [c] at this; cases this⟩
    have h36 := f36_eq hn hl a1 a2 a3 (by omega)
    have hlp : ∃ q : Bool, f40L9 n l d p b (n + 8) 0 (some false) (chk (f36 n l b).isSome (some (decide ((f36 n l b).getD 0 ≤ p.2.2.2.2.1)))) = some q ∧ (q = true ↔ Fits l d p (rectOf b) b.2.2.2.2) := by
      rw [f40L9_at n l d p b _ _ (by omega) (by omega), f40_L, h36]
      simp only [Option.isSome_some, Option.getD_some, chk_true]
      cases t : d.any (rotB b)
      · refine ⟨_, rfl, ?_⟩
        rw [decide_eq_true_eq]
        exact ⟨fun h => ⟨a2, a3, a5, c, h, t⟩, fun h => h.w⟩
      · exact ⟨false, rfl, no fun h => by have := h.t; rw [show boxAt (rectOf b) b.2.2.2.2 = b from rfl, t] at this; cases this⟩
    obtain ⟨q, k1, k2⟩ := hlp
    simp only [Bool.not_true, cond_false]
    rw [k1]
    have hw : ∀ s : Bool, sizeB p (rectOf b) = s → (q = true ↔ Fits l d p (rectOf b) b.2.2.2.2) → ∃ q' : Bool, some (bif s then q else false) = some q' ∧ (q' = true ↔ Ready l d p (rectOf b) ∧ Fits l d p (rectOf b) b.2.2.2.2) := by
      intro s hs hq
      cases s
      · exact ⟨false, rfl, no fun h => by have := h.1.sc; rw [hs] at this; cases this⟩
      · exact ⟨q, rfl, by rw [hq]; exact ⟨fun h => ⟨⟨hd, hp, hl, a1, hs⟩, h⟩, fun h => h.2⟩⟩
    have hsz := hw (sizeB p (rectOf b)) rfl k2
    obtain ⟨q', j1, j2⟩ := hsz
    refine ⟨q', ?_, j2⟩
    rw [← j1]
    unfold sizeB
    simp only [rectOf]
    cases (IntKind.i64.wrap (b.2.1 - b.1) == (f57 p).1) <;> cases (IntKind.i64.wrap (b.2.2.2.1 - b.2.2.1) == (f57 p).2) <;> cases (IntKind.i64.wrap (b.2.1 - b.1) == (f57 p).2) <;> cases (IntKind.i64.wrap (b.2.2.2.1 - b.2.2.1) == (f57 p).1) <;> rfl
  obtain ⟨q, k1, k2⟩ := key
  simp only [k1, Option.isSome_some, Option.getD_some, chk_true]
  exact ⟨q, rfl, k2⟩
open Classical in
theorem f18_eq {n : Nat} (hn : 200 ≤ n) (l : List Slc) (d : List Def) (p : Pro) (b : Box) (fine : Int) : f18 n l d p b fine = some (worthOf l d p b fine) := by
  obtain ⟨q, h1, h2⟩ := f20_eq hn l d p b
  have e30 : f30 fine 0 1000000 = f29 fine 0 1000000 := rfl
  unfold f18 f18G
  simp only [h1, e30, from_eq, Option.isSome_some, Option.getD_some, chk_true]
  by_cases hf : 0 ≤ fine ∧ fine ≤ 1000000
  case neg =>
    rw [decide_eq_false hf, worthOf, if_neg (fun q => hf q.1)]
    rfl
  rw [decide_eq_true hf, Bool.not_true, cond_false]
  cases q
  case false =>
    have : ¬ (Ready l d p (rectOf b) ∧ Fits l d p (rectOf b) b.2.2.2.2) := fun h => by have := h2.2 h; cases this
    rw [worthOf]
    by_cases hr : Ready l d p (rectOf b)
    · rw [if_pos ⟨hf, hr⟩, lookW, if_neg (fun h => this ⟨hr, h⟩)]
      rfl
    · rw [if_neg (fun q => hr q.2)]
      rfl
  obtain ⟨hr, hs⟩ := h2.1 rfl
  have hdl : d.length ≤ 64 := by
    have := hr.dc
    unfold dCk at this
    split at this
    · cases this
    · omega
  have hpl := lens_le hr.pc
  obtain ⟨g1, g2, g3⟩ := logCk_ok hr.lc
  have ht := total_le g3 (by omega) (by omega)
  have e6 : IntKind.i64.wrap (b.2.2.2.2.2 - b.2.2.2.2.1) = b.2.2.2.2.2 - b.2.2.2.2.1 := wrap_of (by have := hs.z0; have := hs.z1; have := hs.z2; omega) (by have := hs.z0; have := hs.z1; have := hs.z2; omega)
  have h38 : f38 n d p b fine = some (worthAt d p (rectOf b) fine b.2.2.2.2) := by
    unfold f38 f38G
    simp only [e6, f52_eq (n := n) p (by omega) (by omega), Option.isSome_some, Option.getD_some, chk_true]
    rw [f38L3_at n d fine b _ (by omega) (by omega), f38_L]
    rfl
  simp only [h38, Option.isSome_some, Option.getD_some, chk_true, Bool.not_true, cond_false]
  rw [worthOf, if_pos ⟨hf, hr⟩, lookW, if_pos hs]
theorem worth_ok {l : List Slc} {d : List Def} {p : Pro} {b : Box} {fine : Int} : (worthOf l d p b fine).2 = true ↔ (0 ≤ fine ∧ fine ≤ 1000000) ∧ Ready l d p (rectOf b) ∧ Fits l d p (rectOf b) b.2.2.2.2 := by
  unfold worthOf lookW
  split
  · rename_i h
    split
    · rename_i h2
      exact ⟨fun _ => ⟨h.1, h.2, h2⟩, fun _ => rfl⟩
    · rename_i h2
      exact ⟨fun q => (by cases q), fun q => absurd q.2.2 h2⟩
  · rename_i h
    exact ⟨fun q => (by cases q), fun q => absurd ⟨q.1, q.2.1⟩ h⟩
end Go.Proofs.Ytdhgbgbdnifonaa.Ev.Plain
