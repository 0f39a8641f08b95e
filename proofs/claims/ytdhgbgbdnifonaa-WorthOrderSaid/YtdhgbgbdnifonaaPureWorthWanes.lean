/- The wane of a box, as the program and as the reference compute it, is the same. -/
import Derived.Test.YtdhgbgbdnifonaaPureWBase
namespace Go.Proofs.Ytdhgbgbdnifonaa.Ev.Plain
set_option linter.unusedVariables false
set_option linter.unusedSimpArgs false

/-! ### The wood in a rectangle -/
def winF (lo : Int) (r : Int × Int × Int × Int) : List Pr → Nat → Int → Int
  | [], _, acc => acc
  | x :: q, j, acc => winF lo r q (j + 1) (IntKind.i64.wrap (acc + IntKind.i64.wrap (f65 x (r.1, r.2.1) * f65 (f66 (IntKind.i64.wrap (lo + (j : Int)))) r.2.2)))
theorem f49L4_win (n : Nat) (s : Int × List Pr) (r) (k0) : ∀ (q : List Pr) (j : Nat) (acc : Int), f49L4F n s r k0 q j acc = k0 (winF s.1 r q j acc)
  | [], j, acc => rfl
  | x :: q, j, acc => by
    simp only [f49L4F, f49L4B, winF]
    exact f49L4_win n s r k0 q (j + 1) _
/-- A length of a common part. -/
theorem len_meet {x z : Pr} (hx : -10000 ≤ x.1 ∧ x.1 ≤ 10000 ∧ -10000 ≤ x.2 ∧ x.2 ≤ 10000) (hz : -10000 ≤ z.1 ∧ z.1 ≤ 10000 ∧ -10000 ≤ z.2 ∧ z.2 ≤ 10000) : f62 (f60 x z) = f65 x z := by
  obtain ⟨a, b⟩ := x
  obtain ⟨c, d⟩ := z
  simp only at hx hz
  have e0 : f62 ((0 : Int), (0 : Int)) = 0 := by decide
  have e79 : ∀ y : Pr, f79 y = decide (y.1 ≥ y.2) := fun _ => rfl
  unfold f60 f65
  simp only [f78_eq, e79, bif_if]
  by_cases h1 : a ≥ b
  · rw [if_pos h1, e0]
    by_cases h2 : c ≥ d
    · rw [if_pos h2]
    · rw [if_neg h2, if_pos (by split <;> split <;> omega)]
  · rw [if_neg h1]
    by_cases h2 : c ≥ d
    · rw [if_pos h2, if_pos h2, e0]
    · rw [if_neg h2, if_neg h2]
      have m1 : -10000 ≤ (if c > a then c else a) ∧ (if c > a then c else a) ≤ 10000 := by split <;> omega
      have m2 : -10000 ≤ (if d < b then d else b) ∧ (if d < b then d else b) ≤ 10000 := by split <;> omega
      generalize (if c > a then c else a) = u at m1
      generalize (if d < b then d else b) = v at m2
      by_cases h3 : u ≥ v
      · rw [if_pos h3, if_pos h3, e0]
      · rw [if_neg h3, if_neg h3]
        unfold f62
        simp only [f78_eq, bif_if]
        rw [if_neg h3]
        by_cases h4 : u < 0
        · rw [if_pos h4, wrap_of (n := 9223372036854775807 + u) (by omega) (by omega), if_neg (by omega)]
        · rw [if_neg h4]
/-- A rectangle that a board can have. -/
def Across (r : Int × Int × Int × Int) : Prop := r.1 < r.2.1 ∧ -600 ≤ r.1 ∧ r.2.1 ≤ 600 ∧ r.2.2.1 < r.2.2.2 ∧ -600 ≤ r.2.2.1 ∧ r.2.2.2 ≤ 600
theorem f46L4_win (n : Nat) (s : Int × List Pr) {r} (hr : Across r) (k0) : ∀ (q : List Pr) (j : Nat) (acc : Int), (∀ x ∈ q, -600 ≤ x.1 ∧ x.1 ≤ 600 ∧ -600 ≤ x.2 ∧ x.2 ≤ 600) → -60 ≤ s.1 → s.1 + j + q.length ≤ 60 → f46L4F n s r k0 q j acc = k0 (winF s.1 r q j acc)
  | [], j, acc, _, _, _ => rfl
  | x :: q, j, acc, hq, h0, h1 => by
    simp only [List.length_cons] at h1
    obtain ⟨r1, r2, r3, r4, r5, r6⟩ := hr
    have hx := hq x (by simp)
    have e1 : IntKind.i64.wrap (s.1 + (j : Int)) = s.1 + (j : Int) := wrap_of (by omega) (by omega)
    have e2 : IntKind.i64.wrap (10 * (s.1 + (j : Int))) = 10 * (s.1 + (j : Int)) := wrap_of (by omega) (by omega)
    have e3 : IntKind.i64.wrap (10 * (s.1 + (j : Int)) + 10) = 10 * (s.1 + (j : Int)) + 10 := wrap_of (by omega) (by omega)
    have e4 : IntKind.i64.wrap (s.1 + (j : Int) + 1) = s.1 + (j : Int) + 1 := wrap_of (by omega) (by omega)
    have e5 : IntKind.i64.wrap (10 * (s.1 + (j : Int) + 1)) = 10 * (s.1 + (j : Int)) + 10 := by rw [wrap_of (by omega) (by omega)]; omega
    have e6 : f66 (s.1 + (j : Int)) = (10 * (s.1 + (j : Int)), 10 * (s.1 + (j : Int)) + 10) := by unfold f66; simp only [e2, e4, e5]
    have l1 := len_meet (x := x) (z := (r.1, r.2.1)) ⟨by omega, by omega, by omega, by omega⟩ ⟨by simp only; omega, by simp only; omega, by simp only; omega, by simp only; omega⟩
    have l2 := len_meet (x := (10 * (s.1 + (j : Int)), 10 * (s.1 + (j : Int)) + 10)) (z := r.2.2) ⟨by simp only; omega, by simp only; omega, by simp only; omega, by simp only; omega⟩ ⟨by omega, by omega, by omega, by omega⟩
    simp only [f46L4F, f46L4B, winF, e1, e2, e3, e6, l1, l2]
    exact f46L4_win n s ⟨r1, r2, r3, r4, r5, r6⟩ k0 q (j + 1) _ (fun y hy => hq y (by simp [hy])) h0 (by omega)
def win (s : Int × List Pr) (r : Int × Int × Int × Int) : Int := winF s.1 r s.2 0 0
theorem f61_eq {n : Nat} (hn : 200 ≤ n) {s : Int × List Pr} (h : secCk s = 0) : f61 n s = some s := by
  unfold f61 f61G
  simp only [f43_eq hn, Option.isSome_some, Option.getD_some, chk_true, h]
  rfl
theorem f64_eq {n : Nat} (hn : 200 ≤ n) {s : Int × List Pr} (h : secCk s = 0) : f64 n s = some s := by
  unfold f64 f64G
  simp only [f73_eq hn, Option.isSome_some, Option.getD_some, chk_true, h]
  rfl
theorem f46_eq {n : Nat} (hn : 200 ≤ n) {s : Int × List Pr} (h : secCk s = 0) {r} (hr : Across r) : f46 n s r = some (win s r) := by
  obtain ⟨h1, h2, h3, h4⟩ := sec_ok h
  unfold f46 f46G
  simp only [f61_eq hn h, Option.isSome_some, Option.getD_some, chk_true]
  rw [f46L4_at n s r _ (by omega) (by omega), f46L4_win n s hr _ s.2 0 0 h4 h2 (by omega)]
  rfl
theorem f49_eq {n : Nat} (hn : 200 ≤ n) {s : Int × List Pr} (h : secCk s = 0) (r) : f49 n s r = some (win s r) := by
  obtain ⟨h1, h2, h3, h4⟩ := sec_ok h
  unfold f49 f49G
  simp only [f64_eq hn h, Option.isSome_some, Option.getD_some, chk_true]
  rw [f49L4_at n s r _ (by omega) (by omega), f49L4_win]
  rfl
/-! ### The wane -/
def wanOf (a w : Int) : Int := IntKind.i64.wrap ((IntKind.i64.wrap (IntKind.i64.wrap (IntKind.i64.wrap (1000 * IntKind.i64.wrap (a - w)) + a) - 1)).tdiv a)
def wan (a : Int) (r : Int × Int × Int × Int) (x : Slc) : Int := wanOf a (win x.2 r)
def endsF : List Slc → Int → List Int
  | [], _ => []
  | x :: q, at_ => (at_ + x.1) :: endsF q (at_ + x.1)
theorem endsF_len : ∀ (q : List Slc) (s : Int), (endsF q s).length = q.length
  | [], _ => rfl
  | x :: q, s => by simp [endsF, endsF_len q]
theorem f33L4_lacks {n : Nat} (hn : 200 ≤ n) {a : Int} (ha : a ≠ 0) (l : List Slc) {r} (hr : Across r) (k0) : ∀ (q : List Slc) (j : Nat) (s : Int) (e w : List Int), LogOk q s → 0 ≤ s → s ≤ 20000 → e.length + q.length < 1000 → w.length + q.length < 1000 → f33L4F n a l r k0 q j s e w = k0 (e ++ endsF q s) (w ++ q.map (wan a r))
  | [], j, s, e, w, _, _, _, _, _ => by simp [f33L4F, endsF]
  | x :: q, j, s, e, w, h, h0, h1, he, hw => by
    obtain ⟨c1, _, c2, c3, c4⟩ := h
    simp only [List.length_cons] at he hw
    have e1 : IntKind.i64.wrap (s + x.1) = s + x.1 := wrap_of (by omega) (by omega)
    have e2 : decide (e.length < 68719476736) = true := decide_eq_true (by omega)
    have e3 : decide (w.length < 68719476736) = true := decide_eq_true (by omega)
    have e4 : (!decide (a = 0)) = true := by simp [ha]
    simp only [f33L4F, f33L4B, e1, e2, e3, e4, chk_true, f46_eq hn c1 hr, Option.isSome_some, Option.getD_some]
    rw [f33L4_lacks hn ha l hr k0 q (j + 1) (s + x.1) _ _ c4 (by omega) (by omega) (by simp; omega) (by simp; omega)]
    simp only [endsF, List.map_cons, List.append_assoc, List.singleton_append]
    rfl
def area (r : Int × Int × Int × Int) : Int := (r.2.1 - r.1) * (r.2.2.2 - r.2.2.1)
theorem area_pos {r} (hr : Across r) : 1 ≤ area r ∧ area r ≤ 1440000 := by
  obtain ⟨r1, r2, r3, r4, r5, r6⟩ := hr
  unfold area
  have h1 : 1 ≤ r.2.1 - r.1 := by omega
  have h2 : r.2.1 - r.1 ≤ 1200 := by omega
  have h3 : 1 ≤ r.2.2.2 - r.2.2.1 := by omega
  have h4 : r.2.2.2 - r.2.2.1 ≤ 1200 := by omega
  generalize r.2.1 - r.1 = p at h1 h2
  generalize r.2.2.2 - r.2.2.1 = q at h3 h4
  constructor
  · have := Int.mul_le_mul h1 h3 (by omega) (by omega)
    omega
  · have := Int.mul_le_mul h2 h4 (by omega) (by omega)
    omega
theorem area_wrap {r} (hr : Across r) : IntKind.i64.wrap (IntKind.i64.wrap (r.2.1 - r.1) * IntKind.i64.wrap (r.2.2.2 - r.2.2.1)) = area r := by
  have ha := area_pos hr
  obtain ⟨r1, r2, r3, r4, r5, r6⟩ := hr
  rw [wrap_of (n := r.2.1 - r.1) (by omega) (by omega), wrap_of (n := r.2.2.2 - r.2.2.1) (by omega) (by omega)]
  exact wrap_of (by unfold area at ha; omega) (by unfold area at ha; omega)
theorem f33_eq {n : Nat} (hn : 200 ≤ n) {l : List Slc} (hl : LogOk l 0) (hlen : l.length ≤ 24) {r} (hr : Across r) : f33 n l r = some (endsF l 0, l.map (wan (area r) r)) := by
  have ha := area_pos hr
  unfold f33 f33G
  simp only [area_wrap hr]
  rw [f33L4_at n _ l r _ (by omega) (by omega), f33L4_lacks hn (by omega) l hr _ l 0 0 [] [] hl (by omega) (by omega) (by simp; omega) (by simp; omega)]
  rfl
/-- The greatest wane of the slices that a span meets. -/
def mostF (a : Int) (r : Int × Int × Int × Int) (z : Pr) : List Slc → Int → Int → Int
  | [], _, acc => acc
  | x :: q, at_, acc => if at_ < z.2 ∧ z.1 < at_ + x.1 then mostF a r z q (at_ + x.1) (if wan a r x > acc then wan a r x else acc) else mostF a r z q (at_ + x.1) acc
theorem f34L3_most (n : Nat) (a : Int) (r) (W E : List Int) (z : Pr) (k0) : ∀ (q : List Slc) (j : Nat) (s acc : Int), W.drop j = q.map (wan a r) → f34L3F n W E z k0 (endsF q s) j acc s = k0 (mostF a r z q s acc)
  | [], j, s, acc, _ => rfl
  | x :: q, j, s, acc, h => by
    rw [List.map_cons] at h
    obtain ⟨h1, h2, h3⟩ := drop_cons h
    have e1 : decide ((j : Int) < (W.length : Int)) = true := decide_eq_true (by omega)
    have e2 : decide ((0 : Int) ≤ (j : Int)) = true := decide_eq_true (by omega)
    simp only [endsF, f34L3F, f34L3B, e1, e2, chk_true, Int.toNat_natCast, h2, bif_if, mostF, f34L3_most n a r W E z k0 q (j + 1) _ _ h3]
    by_cases c1 : s < z.2
    · by_cases c2 : z.1 < s + x.1
      · rw [if_pos c1, if_pos c2, if_pos (show s < z.2 ∧ z.1 < s + x.1 from ⟨c1, c2⟩)]
      · rw [if_pos c1, if_neg c2, if_neg (fun c => c2 c.2)]
    · rw [if_neg c1, if_neg (fun c => c1 c.1)]
theorem f34_eq {n : Nat} (hn : 200 ≤ n) {l : List Slc} (hlen : l.length ≤ 24) (a : Int) (r) (z : Pr) : f34 n (endsF l 0) (l.map (wan a r)) z = some (mostF a r z l 0 0) := by
  have hle := endsF_len l 0
  unfold f34 f34G
  dsimp only
  rw [f34L3_at n _ (endsF l 0) z _ (by omega) (by omega), f34L3_most n a r _ _ z _ l 0 0 0 rfl]
/-! ### The reference -/
def cut (u v : Int) : List Slc → Int → List Slc
  | [], _ => []
  | x :: q, at_ => if f63 (u, v) at_ x.1 > 0 then (f63 (u, v) at_ x.1, x.2.1, x.2.2) :: cut u v q (at_ + x.1) else cut u v q (at_ + x.1)
theorem f48L7_cut (n : Nat) (l : List Slc) (u v : Int) (k0) : ∀ (q : List Slc) (j : Nat) (s : Int) (acc : List Slc), LogOk q s → 0 ≤ s → s ≤ 20000 → acc.length + q.length < 1000 → f48L7F n l u v k0 q j s acc = k0 (acc ++ cut u v q s)
  | [], j, s, acc, _, _, _, _ => by simp [f48L7F, cut]
  | x :: q, j, s, acc, h, h0, h1, hl => by
    obtain ⟨c1, _, c2, c3, c4⟩ := h
    simp only [List.length_cons] at hl
    have e1 : IntKind.i64.wrap (s + x.1) = s + x.1 := wrap_of (by omega) (by omega)
    have e2 : decide (acc.length < 68719476736) = true := decide_eq_true (by omega)
    simp only [f48L7F, f48L7B, e1, e2, chk_true, bif_if, cut]
    split
    · rw [f48L7_cut n l u v k0 q (j + 1) (s + x.1) _ c4 (by omega) (by omega) (by simp; omega), List.append_assoc]
      rfl
    · rw [f48L7_cut n l u v k0 q (j + 1) (s + x.1) _ c4 (by omega) (by omega) (by omega)]
theorem f48_eq {n : Nat} (hn : 200 ≤ n) {l : List Slc} (hc : logCk l = 0) (z : Pr) : f48 n l z = some (cut (if (0 : Int) > z.1 then 0 else z.1) (if (20000 : Int) < z.2 then 20000 else z.2) l 0) := by
  obtain ⟨h1, h2, h3⟩ := logCk_ok hc
  unfold f48 f48G
  simp only [f54_eq hn, Option.isSome_some, Option.getD_some, chk_true, hc]
  show f48L7 n l _ _ (n + 8) 0 0 [] _ = _
  rw [f48L7_at n l _ _ _ (by omega) (by omega), f48L7_cut n l _ _ _ l 0 0 [] h3 (by omega) (by omega) (by simp; omega)]
  rfl
theorem part_pos {u v s x : Int} (h0 : 0 ≤ s) (h1 : 1 ≤ x) (h2 : s + x ≤ 20000) (hu : 0 ≤ u ∧ u ≤ 20000) (hv : 0 ≤ v ∧ v ≤ 20000) (huv : u < v) : (f63 (u, v) s x > 0) ↔ (s < v ∧ u < s + x) := by
  unfold f63
  simp only [bif_if]
  rw [wrap_of (n := s + x) (by omega) (by omega)]
  have m1 : (if s > u then s else u) = max u s := by split <;> omega
  have m2 : (if s + x < v then s + x else v) = min v (s + x) := by split <;> omega
  rw [m1, m2]
  by_cases h : max u s ≥ min v (s + x)
  · rw [if_pos h]; omega
  · rw [if_neg h, wrap_of (by omega) (by omega)]; omega
theorem f36L5_most {n : Nat} (hn : 200 ≤ n) {a : Int} (ha : a ≠ 0) (C : List Slc) (b : Int × Int × Int × Int × Int × Int) (k0) {u v : Int} (hu : 0 ≤ u ∧ u ≤ 20000) (hv : 0 ≤ v ∧ v ≤ 20000) (huv : u < v) : ∀ (q : List Slc) (j : Nat) (s acc : Int), LogOk q s → 0 ≤ s → s ≤ 20000 →
    f36L5F n C a b k0 (cut u v q s) j acc = k0 (mostF a (b.1, b.2.1, b.2.2.1, b.2.2.2.1) (u, v) q s acc)
  | [], j, s, acc, _, _, _ => rfl
  | x :: q, j, s, acc, h, h0, h1 => by
    obtain ⟨c1, _, c2, c3, c4⟩ := h
    have hp := part_pos (u := u) (v := v) h0 c2 c3 hu hv huv
    by_cases c : s < v ∧ u < s + x.1
    · have e4 : (!decide (a = 0)) = true := by simp [ha]
      rw [cut, if_pos (hp.2 c), mostF, if_pos c]
      simp only [f36L5F, f36L5B, f49_eq hn (s := (x.2.1, x.2.2)) c1, Option.isSome_some, Option.getD_some, chk_true, e4]
      rw [f36L5_most hn ha C b k0 hu hv huv q (j + 1) (s + x.1) _ c4 (by omega) (by omega)]
      rfl
    · rw [cut, if_neg (fun h => c (hp.1 h)), mostF, if_neg c]
      exact f36L5_most hn ha C b k0 hu hv huv q j (s + x.1) acc c4 (by omega) (by omega)
theorem cut_len (u v : Int) : ∀ (q : List Slc) (s : Int), (cut u v q s).length ≤ q.length
  | [], _ => Nat.le_refl _
  | x :: q, s => by
    have := cut_len u v q (s + x.1)
    rw [cut]
    split <;> simp <;> omega
abbrev rectOf (b : Int × Int × Int × Int × Int × Int) : Int × Int × Int × Int := (b.1, b.2.1, b.2.2.1, b.2.2.2.1)
theorem f36_eq {n : Nat} (hn : 200 ≤ n) {l : List Slc} (hc : logCk l = 0) {b : Int × Int × Int × Int × Int × Int} (hr : Across (rectOf b)) (h0 : 0 ≤ b.2.2.2.2.1) (h1 : b.2.2.2.2.1 < b.2.2.2.2.2) (h2 : b.2.2.2.2.2 ≤ 20000) : f36 n l b = some (mostF (area (rectOf b)) (rectOf b) b.2.2.2.2 l 0 0) := by
  obtain ⟨g1, g2, g3⟩ := logCk_ok hc
  have ha := area_pos hr
  have hw := area_wrap hr
  have hcl := cut_len b.2.2.2.2.1 b.2.2.2.2.2 l 0
  unfold f36 f36G
  have i1 : (if (0 : Int) > b.2.2.2.2.1 then (0 : Int) else b.2.2.2.2.1) = b.2.2.2.2.1 := if_neg (by omega)
  have i2 : (if (20000 : Int) < b.2.2.2.2.2 then (20000 : Int) else b.2.2.2.2.2) = b.2.2.2.2.2 := if_neg (by omega)
  simp only [f48_eq hn hc, Option.isSome_some, Option.getD_some, chk_true, i1, i2]
  simp only [rectOf] at hw
  rw [hw, f36L5_at n (cut b.2.2.2.2.1 b.2.2.2.2.2 l 0) _ b _ (by omega) (by omega)]
  rw [f36L5_most hn (a := area (rectOf b)) (by omega) _ b _ ⟨h0, by omega⟩ ⟨by omega, h2⟩ h1 l 0 0 0 g3 (by omega) (by omega)]
theorem across_iff (r : Int × Int × Int × Int) : f32 r = true ↔ Across r := by
  unfold f32 Across
  simp only [bif_if]
  constructor
  · intro h
    repeat' (split at h; · cases h)
    omega
  · rintro ⟨r1, r2, r3, r4, r5, r6⟩
    rw [if_neg (by omega), if_neg (by omega), if_neg (by omega), if_neg (by omega), if_neg (by omega), if_neg (by omega)]
theorem across2_iff (r : Int × Int × Int × Int) : (f47 (r.1, r.2.1) = true ∧ f47 (r.2.2.1, r.2.2.2) = true) ↔ Across r := by
  unfold f47 Across
  simp only [bif_if]
  constructor
  · rintro ⟨h, h'⟩
    split at h
    · split at h
      · split at h'
        · split at h'
          · simp at h h'; omega
          · cases h'
        · cases h'
      · cases h
    · cases h
  · rintro ⟨r1, r2, r3, r4, r5, r6⟩
    rw [if_pos (by omega), if_pos (by omega), if_pos (by omega), if_pos (by omega)]
    simp; omega
/-- Does a box lie within a log? -/
def Inside (l : List Slc) (b : Int × Int × Int × Int × Int × Int) : Prop := Across (rectOf b) ∧ 0 ≤ b.2.2.2.2.1 ∧ b.2.2.2.2.1 < b.2.2.2.2.2 ∧ logCk l = 0 ∧ b.2.2.2.2.2 ≤ total l
open Classical in
noncomputable def waneOf (l : List Slc) (b : Int × Int × Int × Int × Int × Int) : Int := if Inside l b then mostF (area (rectOf b)) (rectOf b) b.2.2.2.2 l 0 0 else 1000
theorem f15_eq {n : Nat} (hn : 200 ≤ n) (l : List Slc) (b) : f15 n l b = some (waneOf l b) := by
  unfold f15 f15G waneOf
  by_cases hi : Inside l b
  · obtain ⟨a1, a2, a3, a4, a5⟩ := hi
    obtain ⟨g1, g2, g3⟩ := logCk_ok a4
    have e := (across_iff _).2 a1
    simp only [rectOf] at e
    rw [if_pos ⟨a1, a2, a3, a4, a5⟩]
    simp only [e, f25_eq hn, f27_eq hn, Option.isSome_some, Option.getD_some, chk_true, a4, bif_if]
    have q1 : f33 n l (b.1, b.2.1, b.2.2.1, b.2.2.2.1) = _ := f33_eq hn g3 g2 a1
    simp only [q1, Option.isSome_some, Option.getD_some, chk_true]
    have q2 := f34_eq hn g2 (area (rectOf b)) (rectOf b) b.2.2.2.2
    simp only [rectOf] at q2
    simp only [q2, Option.isSome_some, Option.getD_some, chk_true]
    simp only [Bool.not_true, cond_false, if_neg (show ¬ b.2.2.2.2.1 < 0 by omega), if_neg (show ¬ b.2.2.2.2.1 ≥ b.2.2.2.2.2 by omega)]
    rw [show ((0 : Int) != 0) = false from rfl, cond_false, if_neg (show ¬ (0 : Int) ≠ 0 by omega), if_neg (by omega)]
  · rw [if_neg hi]
    cases c1 : f32 (b.1, b.2.1, b.2.2.1, b.2.2.2.1)
    case false => rfl
    have a1 : Across (rectOf b) := (across_iff _).1 c1
    simp only [Bool.not_true, cond_false, bif_if]
    by_cases c2 : b.2.2.2.2.1 < 0
    · rw [if_pos c2]
    rw [if_neg c2]
    by_cases c3 : b.2.2.2.2.1 ≥ b.2.2.2.2.2
    · rw [if_pos c3]
    rw [if_neg c3]
    simp only [f25_eq hn, f27_eq hn, Option.isSome_some, Option.getD_some, chk_true]
    by_cases c4 : logCk l = 0
    · have e : (logCk l != 0) = false := by simp [c4]
      rw [e, cond_false, if_neg (show ¬ logCk l ≠ 0 by simp [c4]), if_pos]
      exact Classical.byContradiction fun c5 => hi ⟨a1, by omega, by omega, c4, by omega⟩
    · have e : (logCk l != 0) = true := by simp [c4]
      rw [e, cond_true]
open Classical in
theorem f16_eq {n : Nat} (hn : 200 ≤ n) (l : List Slc) (b) : f16 n l b = some (waneOf l b) := by
  have hin : f35 n l b = some (decide (Inside l b)) := by
    unfold f35 f35G
    have hz : f47 (b.1, b.2.1) = true ∧ f47 (b.2.2.1, b.2.2.2.1) = true ↔ Across (rectOf b) := across2_iff (rectOf b)
    cases c1 : f47 (b.1, b.2.1)
    case false =>
      rw [cond_false, decide_eq_false]
      exact fun h => by have := (hz.2 h.1).1; rw [c1] at this; cases this
    cases c2 : f47 (b.2.2.1, b.2.2.2.1)
    case false =>
      simp only [cond_true, cond_false]
      rw [decide_eq_false]
      exact fun h => by have := (hz.2 h.1).2; rw [c2] at this; cases this
    have a1 : Across (rectOf b) := hz.1 ⟨c1, c2⟩
    simp only [cond_true, bif_if]
    by_cases c3 : b.2.2.2.2.1 ≥ 0
    · rw [if_pos c3]
      by_cases c4 : b.2.2.2.2.1 < b.2.2.2.2.2
      · rw [if_pos c4]
        simp only [f42_eq hn, Option.isSome_some, Option.getD_some, chk_true]
        congr 1
        by_cases c5 : logCk l = 0
        · rw [if_neg (show ¬ logCk l ≠ 0 by simp [c5])]
          exact decide_eq_decide.2 ⟨fun h => ⟨a1, c3, c4, c5, h⟩, fun h => h.2.2.2.2⟩
        · rw [if_pos c5, decide_eq_false (by omega), decide_eq_false (fun h => c5 h.2.2.2.1)]
      · rw [if_neg c4, decide_eq_false (fun h => c4 h.2.2.1)]
    · rw [if_neg c3, decide_eq_false (fun h => c3 h.2.1)]
  unfold f16 f16G waneOf
  simp only [hin, Option.isSome_some, Option.getD_some, chk_true]
  by_cases hi : Inside l b
  · rw [decide_eq_true hi, if_pos hi]
    obtain ⟨a1, a2, a3, a4, a5⟩ := hi
    obtain ⟨g1, g2, g3⟩ := logCk_ok a4
    have ht := total_le g3 (by omega) (by omega)
    simp only [f36_eq hn a4 a1 a2 a3 (by omega), Option.isSome_some, Option.getD_some, chk_true, Bool.not_true, cond_false]
  · rw [decide_eq_false hi, if_neg hi]
    rfl
theorem WorthWanes : WorthWanesLaw := by
  intro l b _ _
  refine ⟨200, ?_⟩
  unfold f4 f4G
  simp only [small_eq (Nat.le_refl 200), f15_eq (Nat.le_refl 200), f16_eq (Nat.le_refl 200), Option.isSome_some, Option.getD_some, chk_true]
  cases smallB (l, [], ByteArray.empty, 0, 0, 0, 0, [], [], 0)
  · rfl
  · simp
end Go.Proofs.Ytdhgbgbdnifonaa.Ev.Plain
