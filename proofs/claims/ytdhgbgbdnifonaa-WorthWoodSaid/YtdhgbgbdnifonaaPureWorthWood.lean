/- A box has no wane exactly if it is full of wood; what it lacks is bounded by its wane; a part of it has no greater wane. -/
import Derived.Test.YtdhgbgbdnifonaaPureWorthWanes
namespace Go.Proofs.Ytdhgbgbdnifonaa.Ev.Plain
set_option linter.unusedVariables false
set_option linter.unusedSimpArgs false
theorem f65_val {x z : Pr} (hx : -10000 ≤ x.1 ∧ x.1 ≤ 10000 ∧ -10000 ≤ x.2 ∧ x.2 ≤ 10000) (hz : -10000 ≤ z.1 ∧ z.1 < z.2 ∧ z.2 ≤ 10000) : f65 x z = max 0 (min x.2 z.2 - max x.1 z.1) := by
  have e79 : ∀ y : Pr, f79 y = decide (y.1 ≥ y.2) := fun _ => rfl
  unfold f65
  simp only [e79, bif_if]
  rw [if_neg (by omega)]
  have m1 : (if z.1 > x.1 then z.1 else x.1) = max x.1 z.1 := by split <;> omega
  have m2 : (if z.2 < x.2 then z.2 else x.2) = min x.2 z.2 := by split <;> omega
  rw [m1, m2]
  by_cases h : max x.1 z.1 ≥ min x.2 z.2
  · rw [if_pos h]; omega
  · rw [if_neg h, wrap_of (by omega) (by omega)]; omega
theorem mul_bd {a b A : Int} (h0 : 0 ≤ a) (h1 : a ≤ A) (h2 : 0 ≤ b) : 0 ≤ a * b ∧ a * b ≤ A * b := ⟨Int.mul_nonneg h0 h2, Int.mul_le_mul_of_nonneg_right h1 h2⟩
theorem winF_bd {lo : Int} {r : Int × Int × Int × Int} (hr : Across r) : ∀ (q : List Pr) (j : Nat) (acc : Int), (∀ x ∈ q, -600 ≤ x.1 ∧ x.1 ≤ 600 ∧ -600 ≤ x.2 ∧ x.2 ≤ 600) → -60 ≤ lo → lo + j + q.length ≤ 60 → 0 ≤ acc → acc + (r.2.1 - r.1) * max 0 (r.2.2.2 - max r.2.2.1 (10 * (lo + (j : Int)))) ≤ 1440000 →
    acc ≤ winF lo r q j acc ∧ winF lo r q j acc ≤ acc + (r.2.1 - r.1) * max 0 (r.2.2.2 - max r.2.2.1 (10 * (lo + (j : Int))))
  | [], j, acc, _, _, _, _, _ => by
    obtain ⟨r1, _⟩ := hr
    have := (mul_bd (a := 0) (b := max 0 (r.2.2.2 - max r.2.2.1 (10 * (lo + (j : Int))))) (A := r.2.1 - r.1) (by omega) (by omega) (by omega)).2
    simp only [winF]
    omega
  | x :: q, j, acc, hq, h0, h1, a0, a1 => by
    simp only [List.length_cons] at h1
    obtain ⟨r1, r2, r3, r4, r5, r6⟩ := hr
    have hx := hq x (by simp)
    have e1 : IntKind.i64.wrap (lo + (j : Int)) = lo + (j : Int) := wrap_of (by omega) (by omega)
    have e2 : IntKind.i64.wrap (10 * (lo + (j : Int))) = 10 * (lo + (j : Int)) := wrap_of (by omega) (by omega)
    have e4 : IntKind.i64.wrap (lo + (j : Int) + 1) = lo + (j : Int) + 1 := wrap_of (by omega) (by omega)
    have e5 : IntKind.i64.wrap (10 * (lo + (j : Int) + 1)) = 10 * (lo + (j : Int)) + 10 := by rw [wrap_of (by omega) (by omega)]; omega
    have e6 : f66 (lo + (j : Int)) = (10 * (lo + (j : Int)), 10 * (lo + (j : Int)) + 10) := by unfold f66; simp only [e2, e4, e5]
    have v1 := f65_val (x := x) (z := (r.1, r.2.1)) (by omega) ⟨by simp only; omega, by simp only; omega, by simp only; omega⟩
    have v2 := f65_val (x := (10 * (lo + (j : Int)), 10 * (lo + (j : Int)) + 10)) (z := r.2.2) ⟨by simp only; omega, by simp only; omega, by simp only; omega, by simp only; omega⟩ (by omega)
    simp only at v1 v2
    have hc : (10 * (lo + ((j + 1 : Nat) : Int))) = 10 * (lo + (j : Int)) + 10 := by omega
    have ih := winF_bd (lo := lo) ⟨r1, r2, r3, r4, r5, r6⟩ q (j + 1)
    rw [hc] at ih
    simp only [winF, e1, e6, v1, v2]
    generalize hh : 10 * (lo + (j : Int)) = h at ih v2 e2 e5 e6 hc a1
    have c1 : 0 ≤ max 0 (min x.2 r.2.1 - max x.1 r.1) ∧ max 0 (min x.2 r.2.1 - max x.1 r.1) ≤ r.2.1 - r.1 := by omega
    have c2 : 0 ≤ max 0 (min (h + 10) r.2.2.2 - max h r.2.2.1) ∧ max 0 (r.2.2.2 - max r.2.2.1 h) = max 0 (min (h + 10) r.2.2.2 - max h r.2.2.1) + max 0 (r.2.2.2 - max r.2.2.1 (h + 10)) ∧ 0 ≤ max 0 (r.2.2.2 - max r.2.2.1 (h + 10)) := by omega
    generalize max 0 (min x.2 r.2.1 - max x.1 r.1) = p at c1
    generalize max 0 (min (h + 10) r.2.2.2 - max h r.2.2.1) = u at c2
    generalize max 0 (r.2.2.2 - max r.2.2.1 h) = R at c2 a1
    generalize max 0 (r.2.2.2 - max r.2.2.1 (h + 10)) = R' at ih c2
    have hm := mul_bd (a := p) (b := u) (A := r.2.1 - r.1) c1.1 c1.2 c2.1
    obtain ⟨u0, hR, hR'⟩ := c2
    rw [hR, Int.mul_add] at a1 ⊢
    have hW := (mul_bd (a := 0) (b := R') (A := r.2.1 - r.1) (by omega) (by omega) hR').2
    rw [Int.zero_mul] at hW
    rw [wrap_of (n := p * u) (by omega) (by omega)]
    rw [wrap_of (n := acc + p * u) (by omega) (by omega)]
    have := ih (acc + p * u) (fun y hy => hq y (by simp [hy])) h0 (by omega) (by omega) (by omega)
    omega
theorem win_bd {s : Int × List Pr} (h : secCk s = 0) {r : Int × Int × Int × Int} (hr : Across r) : 0 ≤ win s r ∧ win s r ≤ area r := by
  obtain ⟨h1, h2, h3, h4⟩ := sec_ok h
  have ha := area_pos hr
  have hle : (r.2.1 - r.1) * max 0 (r.2.2.2 - max r.2.2.1 (10 * (s.1 + ((0 : Nat) : Int)))) ≤ area r := by
    obtain ⟨r1, r2, r3, r4, r5, r6⟩ := hr
    unfold area
    exact Int.mul_le_mul_of_nonneg_left (by omega) (by omega)
  have := winF_bd (lo := s.1) hr s.2 0 0 h4 h2 (by omega) (by omega) (by omega)
  unfold win
  omega
/-- The wane of a slice, without wrapping. -/
theorem wan_bd {a w : Int} (ha : 1 ≤ a) (ha2 : a ≤ 1440000) (h0 : 0 ≤ w) (h1 : w ≤ a) : 0 ≤ wanOf a w ∧ wanOf a w ≤ 1000 ∧ 1000 * (a - w) ≤ a * wanOf a w ∧ (w = a → wanOf a w = 0) := by
  have e1 : IntKind.i64.wrap (a - w) = a - w := wrap_of (by omega) (by omega)
  have e2 : IntKind.i64.wrap (1000 * (a - w)) = 1000 * (a - w) := wrap_of (by omega) (by omega)
  have e3 : IntKind.i64.wrap (1000 * (a - w) + a) = 1000 * (a - w) + a := wrap_of (by omega) (by omega)
  have e4 : IntKind.i64.wrap (1000 * (a - w) + a - 1) = 1000 * (a - w) + a - 1 := wrap_of (by omega) (by omega)
  unfold wanOf
  rw [e1, e2, e3, e4, Int.tdiv_eq_ediv_of_nonneg (by omega)]
  have d1 := Int.mul_ediv_add_emod (1000 * (a - w) + a - 1) a
  have d2 := Int.emod_lt_of_pos (1000 * (a - w) + a - 1) (show 0 < a by omega)
  have d3 := Int.emod_nonneg (1000 * (a - w) + a - 1) (show a ≠ 0 by omega)
  have d4 : 0 ≤ (1000 * (a - w) + a - 1) / a := Int.ediv_nonneg (by omega) (by omega)
  have d5 : (1000 * (a - w) + a - 1) / a < 1001 := Int.ediv_lt_of_lt_mul (by omega) (by omega)
  rw [wrap_of (by omega) (by omega)]
  refine ⟨d4, by omega, by omega, fun he => ?_⟩
  subst he
  exact Int.ediv_eq_zero_of_lt (by omega) (by omega)
theorem slice_bd {x : Slc} (h : secCk x.2 = 0) {r : Int × Int × Int × Int} (hr : Across r) : 0 ≤ wan (area r) r x ∧ wan (area r) r x ≤ 1000 ∧ 1000 * (area r - win x.2 r) ≤ area r * wan (area r) r x ∧ (win x.2 r = area r → wan (area r) r x = 0) := by
  have ha := area_pos hr
  have hw := win_bd h hr
  exact wan_bd ha.1 ha.2 hw.1 hw.2
/-! ### Sums along a log -/
def ov (z : Pr) (s len : Int) : Int := max 0 (min z.2 (s + len) - max z.1 s)
def ovS (z : Pr) : List Slc → Int → Int
  | [], _ => 0
  | x :: q, s => ov z s x.1 + ovS z q (s + x.1)
def lackS (r : Int × Int × Int × Int) (z : Pr) : List Slc → Int → Int
  | [], _ => 0
  | x :: q, s => ov z s x.1 * (area r - win x.2 r) + lackS r z q (s + x.1)
def inS (r : Int × Int × Int × Int) (z : Pr) : List Slc → Int → Int
  | [], _ => 0
  | x :: q, s => ov z s x.1 * win x.2 r + inS r z q (s + x.1)
theorem ovS_eq {z : Pr} (hz : z.1 ≤ z.2) : ∀ (q : List Slc) (s : Int), LogOk q s → 0 ≤ s → s ≤ 20000 → ovS z q s = max 0 (min z.2 (s + total q) - max z.1 s)
  | [], s, _, _, _ => by simp only [ovS, total]; omega
  | x :: q, s, h, h0, h1 => by
    obtain ⟨_, _, a, b, c⟩ := h
    have ht := total_le c (by omega) (by omega)
    simp only [ovS, total, ov, ovS_eq hz q (s + x.1) c (by omega) (by omega)]
    omega
theorem sums (r : Int × Int × Int × Int) (z : Pr) : ∀ (q : List Slc) (s : Int), lackS r z q s + inS r z q s = ovS z q s * area r
  | [], s => by simp [lackS, inS, ovS]
  | x :: q, s => by
    have ih := sums r z q (s + x.1)
    simp only [lackS, inS, ovS, Int.add_mul, Int.mul_sub]
    omega
theorem ov_nn (z : Pr) (s len : Int) : 0 ≤ ov z s len := by unfold ov; omega
theorem ov_pos {z : Pr} {s len : Int} (hz : z.1 < z.2) (hl : 1 ≤ len) : 0 < ov z s len ↔ s < z.2 ∧ z.1 < s + len := by unfold ov; omega
theorem lack_nn {r : Int × Int × Int × Int} (hr : Across r) (z : Pr) : ∀ (q : List Slc) (s : Int), LogOk q s → 0 ≤ lackS r z q s
  | [], s, _ => by simp [lackS]
  | x :: q, s, h => by
    obtain ⟨c1, _, a, b, c⟩ := h
    have hw := win_bd c1 hr
    have := lack_nn hr z q (s + x.1) c
    have h2 := Int.mul_nonneg (ov_nn z s x.1) (show 0 ≤ area r - win x.2 r by omega)
    simp only [lackS]
    omega
theorem in_nn {r : Int × Int × Int × Int} (hr : Across r) (z : Pr) : ∀ (q : List Slc) (s : Int), LogOk q s → 0 ≤ inS r z q s
  | [], s, _ => by simp [inS]
  | x :: q, s, h => by
    obtain ⟨c1, _, a, b, c⟩ := h
    have hw := win_bd c1 hr
    have := in_nn hr z q (s + x.1) c
    have h2 := Int.mul_nonneg (ov_nn z s x.1) hw.1
    simp only [inS]
    omega
theorem most_ge {r : Int × Int × Int × Int} (hr : Across r) {z : Pr} (hz : z.1 < z.2) {M : Int} : ∀ (q : List Slc) (s acc : Int), LogOk q s → mostF (area r) r z q s acc ≤ M → acc ≤ M ∧ 1000 * lackS r z q s ≤ ovS z q s * (area r * M)
  | [], s, acc, _, h => ⟨h, by simp [lackS, ovS]⟩
  | x :: q, s, acc, h, hm => by
    obtain ⟨c1, _, a, b, c⟩ := h
    obtain ⟨b0, b1, b2, _⟩ := slice_bd c1 hr
    have hp := ov_pos (s := s) hz a
    have ha := area_pos hr
    simp only [mostF] at hm
    split at hm
    · rename_i hc
      obtain ⟨i1, i2⟩ := most_ge hr hz q (s + x.1) _ c hm
      have hwM : wan (area r) r x ≤ M ∧ acc ≤ M := by split at i1 <;> omega
      refine ⟨hwM.2, ?_⟩
      have h3 : area r * wan (area r) r x ≤ area r * M := Int.mul_le_mul_of_nonneg_left hwM.1 (by omega)
      have h4 := Int.mul_le_mul_of_nonneg_left (show 1000 * (area r - win x.2 r) ≤ area r * M by omega) (ov_nn z s x.1)
      have h5 : ov z s x.1 * (1000 * (area r - win x.2 r)) = 1000 * (ov z s x.1 * (area r - win x.2 r)) := by rw [Int.mul_left_comm]
      rw [h5] at h4
      simp only [lackS, ovS, Int.add_mul, Int.mul_add]
      omega
    · rename_i hc
      obtain ⟨i1, i2⟩ := most_ge hr hz q (s + x.1) _ c hm
      have h0 : ov z s x.1 = 0 := by
        have := ov_nn z s x.1
        apply Classical.byContradiction
        intro hn
        exact hc (hp.1 (by omega))
      refine ⟨i1, ?_⟩
      simp only [lackS, ovS, h0, Int.zero_mul, Int.zero_add]
      exact i2
theorem most_zero {r : Int × Int × Int × Int} (hr : Across r) {z : Pr} (hz : z.1 < z.2) : ∀ (q : List Slc) (s : Int), LogOk q s → lackS r z q s = 0 → mostF (area r) r z q s 0 = 0
  | [], s, _, _ => rfl
  | x :: q, s, h, hl => by
    obtain ⟨c1, _, a, b, c⟩ := h
    obtain ⟨b0, b1, b2, b3⟩ := slice_bd c1 hr
    have hw := win_bd c1 hr
    have hp := ov_pos (s := s) hz a
    have hn := lack_nn hr z q (s + x.1) c
    have h2 := Int.mul_nonneg (ov_nn z s x.1) (show 0 ≤ area r - win x.2 r by omega)
    simp only [lackS] at hl
    have ih := most_zero hr hz q (s + x.1) c (by omega)
    simp only [mostF]
    split
    · rename_i hc
      have hov := hp.2 hc
      have hz0 : area r - win x.2 r = 0 := by
        rcases Int.mul_eq_zero.1 (show ov z s x.1 * (area r - win x.2 r) = 0 by omega) with h5 | h5
        · omega
        · exact h5
      have hwz := b3 (by omega)
      rw [if_neg (by omega)]
      exact ih
    · exact ih
theorem most_le {r : Int × Int × Int × Int} (hr : Across r) {z z' : Pr} (h1 : z.1 ≤ z'.1) (h2 : z'.2 ≤ z.2) : ∀ (q : List Slc) (s acc acc' : Int), LogOk q s → acc' ≤ acc → mostF (area r) r z' q s acc' ≤ mostF (area r) r z q s acc
  | [], s, acc, acc', _, h => h
  | x :: q, s, acc, acc', h, hacc => by
    obtain ⟨c1, _, a, b, c⟩ := h
    simp only [mostF]
    by_cases hc : s < z'.2 ∧ z'.1 < s + x.1
    · rw [if_pos hc, if_pos (show s < z.2 ∧ z.1 < s + x.1 from ⟨by omega, by omega⟩)]
      exact most_le hr h1 h2 q (s + x.1) _ _ c (by split <;> split <;> omega)
    · rw [if_neg hc]
      split
      · exact most_le hr h1 h2 q (s + x.1) _ _ c (by split <;> omega)
      · exact most_le hr h1 h2 q (s + x.1) _ _ c hacc
theorem most_bd {r : Int × Int × Int × Int} (hr : Across r) (z : Pr) : ∀ (q : List Slc) (s acc : Int), LogOk q s → 0 ≤ acc → acc ≤ 1000 → 0 ≤ mostF (area r) r z q s acc ∧ mostF (area r) r z q s acc ≤ 1000
  | [], s, acc, _, h0, h1 => ⟨h0, h1⟩
  | x :: q, s, acc, h, h0, h1 => by
    obtain ⟨c1, _, a, b, c⟩ := h
    obtain ⟨b0, b1, _⟩ := slice_bd c1 hr
    simp only [mostF]
    split
    · exact most_bd hr z q (s + x.1) _ c (by split <;> omega) (by split <;> omega)
    · exact most_bd hr z q (s + x.1) _ c h0 h1
theorem meet_ov {z : Pr} {s len : Int} (hz : z.1 < z.2) (hl : 1 ≤ len) : (f60 (s, s + len) z).1 < (f60 (s, s + len) z).2 ↔ 0 < ov z s len := by
  unfold f60 ov
  simp only [f78_eq, bif_if]
  rw [if_neg (by omega), if_neg (by omega)]
  have m1 : (if z.1 > s then z.1 else s) = max z.1 s := by split <;> omega
  have m2 : (if z.2 < s + len then z.2 else s + len) = min z.2 (s + len) := by split <;> omega
  rw [m1, m2]
  split <;> (simp only; omega)
theorem meet_len {z : Pr} {s len : Int} (hz : z.1 < z.2) (hl : 1 ≤ len) : (f60 (s, s + len) z).2 - (f60 (s, s + len) z).1 = ov z s len := by
  unfold f60 ov
  simp only [f78_eq, bif_if]
  rw [if_neg (by omega), if_neg (by omega)]
  have m1 : (if z.1 > s then z.1 else s) = max z.1 s := by split <;> omega
  have m2 : (if z.2 < s + len then z.2 else s + len) = min z.2 (s + len) := by split <;> omega
  rw [m1, m2]
  split <;> (simp only; omega)
theorem f28L5_in {n : Nat} (hn : 200 ≤ n) (V) {b : Int × Int × Int × Int × Int × Int} (hr : Across (rectOf b)) (hz : b.2.2.2.2.1 < b.2.2.2.2.2) (k0) : ∀ (q : List Slc) (j : Nat) (s acc : Int), LogOk q s → 0 ≤ s → s ≤ 20000 → 0 ≤ acc → acc + ovS b.2.2.2.2 q s * area (rectOf b) ≤ 100000000000 →
    f28L5F n V b k0 (prt b.2.2.2.2 q s) j acc = k0 (acc + inS (rectOf b) b.2.2.2.2 q s)
  | [], j, s, acc, _, _, _, _, _ => by simp [prt, f28L5F, inS]
  | x :: q, j, s, acc, h, h0, h1, a0, a1 => by
    obtain ⟨c1, _, c2, c3, c4⟩ := h
    have hw := win_bd c1 hr
    have hov := ov_nn b.2.2.2.2 s x.1
    have hm := meet_ov (z := b.2.2.2.2) (s := s) hz c2
    have hl := meet_len (z := b.2.2.2.2) (s := s) hz c2
    have hle : ov b.2.2.2.2 s x.1 ≤ x.1 := by unfold ov; omega
    have ho2 : 0 ≤ ovS b.2.2.2.2 q (s + x.1) * area (rectOf b) := by
      have hs := sums (rectOf b) b.2.2.2.2 q (s + x.1)
      have := lack_nn hr b.2.2.2.2 q (s + x.1) c4
      have := in_nn hr b.2.2.2.2 q (s + x.1) c4
      omega
    have hm2 := Int.mul_le_mul_of_nonneg_left hw.2 hov
    have hm3 := Int.mul_nonneg hov hw.1
    simp only [ovS, Int.add_mul] at a1
    simp only [prt]
    by_cases hp : 0 < ov b.2.2.2.2 s x.1
    · rw [if_pos (hm.2 hp)]
      have e46 : f46 n (x.2.1, x.2.2) (b.1, b.2.1, b.2.2.1, b.2.2.2.1) = some (win x.2 (rectOf b)) := f46_eq hn c1 hr
      simp only [f28L5F, f28L5B, hl, e46, Option.isSome_some, Option.getD_some, chk_true]
      rw [wrap_of (n := ov b.2.2.2.2 s x.1) (by omega) (by omega), wrap_of (n := ov b.2.2.2.2 s x.1 * win x.2 (rectOf b)) (by omega) (by omega), wrap_of (n := acc + ov b.2.2.2.2 s x.1 * win x.2 (rectOf b)) (by omega) (by omega)]
      rw [f28L5_in hn V hr hz k0 q (j + 1) (s + x.1) _ c4 (by omega) (by omega) (by omega) (by omega)]
      simp only [inS]
      congr 1
      omega
    · rw [if_neg (fun h => hp (hm.1 h)), f28L5_in hn V hr hz k0 q j (s + x.1) acc c4 (by omega) (by omega) a0 (by omega)]
      have : ov b.2.2.2.2 s x.1 = 0 := by omega
      simp only [inS, this, Int.zero_mul, Int.zero_add]
theorem prt_len (z : Pr) : ∀ (q : List Slc) (s : Int), (prt z q s).length ≤ q.length
  | [], _ => Nat.le_refl _
  | x :: q, s => by
    have := prt_len z q (s + x.1)
    simp only [prt]
    split <;> simp <;> omega
theorem WorthWood : WorthWoodLaw := by
  intro l b z _ _ _
  refine ⟨200, ?_⟩
  have hn := Nat.le_refl 200
  unfold f10 f10G
  simp only [small_eq hn, f25_eq hn, f15_eq hn, f27_eq hn, Option.isSome_some, Option.getD_some, chk_true]
  cases smallB (l, [], ByteArray.empty, 0, 0, 0, 0, [], [], 0)
  · rfl
  simp only [Bool.not_true, cond_false]
  by_cases hl : logCk l = 0
  case neg =>
    have e : (logCk l != 0) = true := by simp [hl]
    rw [e, cond_true]
  have e : (logCk l != 0) = false := by simp [hl]
  rw [e, cond_false]
  obtain ⟨g1, g2, g3⟩ := logCk_ok hl
  have ht := total_le g3 (by omega) (by omega)
  simp only [bif_if]
  rw [if_neg (show ¬ logCk l ≠ 0 by simp [hl])]
  by_cases hi : Inside l b
  case neg =>
    have hw : waneOf l b = 1000 := by unfold waneOf; rw [if_neg hi]
    simp only [hw]
    have k1 : ¬ ((1000 : Int) < 0) := by omega
    have k2 : ¬ ((1000 : Int) > 1000) := by omega
    have k3 : (bif ((1000 : Int) == 1000) then some true else some false) = some true := rfl
    rw [if_neg k1, if_neg k2, k3]
    by_cases q1 : b.1 < -600
    · rw [if_pos q1]
    rw [if_neg q1]
    by_cases q2 : b.2.1 > 600
    · rw [if_pos q2]
    rw [if_neg q2]
    by_cases q3 : b.2.2.1 < -600
    · rw [if_pos q3]
    rw [if_neg q3]
    by_cases q4 : b.2.2.2.1 > 600
    · rw [if_pos q4]
    rw [if_neg q4]
    by_cases q5 : b.2.2.2.2.1 < 0
    · rw [if_pos q5]
    rw [if_neg q5]
    by_cases q6 : b.2.2.2.2.2 > total l
    · rw [if_pos q6]
    rw [if_neg q6]
    by_cases q7 : b.1 ≥ b.2.1
    · rw [if_pos q7]
    rw [if_neg q7]
    by_cases q8 : b.2.2.1 ≥ b.2.2.2.1
    · rw [if_pos q8]
    rw [if_neg q8]
    by_cases q9 : b.2.2.2.2.1 ≥ b.2.2.2.2.2
    · rw [if_pos q9]
    exact absurd ⟨⟨by simp only [rectOf]; omega, by simp only [rectOf]; omega, by simp only [rectOf]; omega, by simp only [rectOf]; omega, by simp only [rectOf]; omega, by simp only [rectOf]; omega⟩, by omega, by omega, hl, by omega⟩ hi
  have hi' := hi
  obtain ⟨a1, a2, a3, a4, a5⟩ := hi
  have hw : waneOf l b = mostF (area (rectOf b)) (rectOf b) b.2.2.2.2 l 0 0 := by unfold waneOf; rw [if_pos hi']
  have hb := most_bd a1 b.2.2.2.2 l 0 0 g3 (by omega) (by omega)
  have ha := area_pos a1
  have hge := most_ge a1 a3 l 0 0 g3 (Int.le_refl (mostF (area (rectOf b)) (rectOf b) b.2.2.2.2 l 0 0))
  have hov := ovS_eq (z := b.2.2.2.2) (by omega) l 0 g3 (by omega) (by omega)
  have hsum := sums (rectOf b) b.2.2.2.2 l 0
  have hln := lack_nn a1 b.2.2.2.2 l 0 g3
  have hin := in_nn a1 b.2.2.2.2 l 0 g3
  have hz0 := most_zero a1 a3 l 0 g3
  have hov' : ovS b.2.2.2.2 l 0 = b.2.2.2.2.2 - b.2.2.2.2.1 := by rw [hov]; omega
  rw [hov'] at hge hsum
  have hsz : 0 ≤ (b.2.2.2.2.2 - b.2.2.2.2.1) * area (rectOf b) ∧ (b.2.2.2.2.2 - b.2.2.2.2.1) * area (rectOf b) ≤ 20000 * 1440000 := by
    refine ⟨Int.mul_nonneg (by omega) (by omega), ?_⟩
    exact Int.mul_le_mul (by omega) ha.2 (by omega) (by omega)
  have h28 : f28 200 l b = some (inS (rectOf b) b.2.2.2.2 l 0) := by
    have hpl := prt_len b.2.2.2.2 l 0
    obtain ⟨r1, r2, r3, r4, r5, r6⟩ := a1
    simp only [rectOf] at r1 r2 r3 r4 r5 r6
    unfold f28 f28G
    simp only [bif_if]
    rw [if_neg (by omega), if_neg (by omega)]
    simp only [f44_eq hn, Option.isSome_some, Option.getD_some, chk_true]
    rw [if_neg (show ¬ logCk l ≠ 0 by simp [hl]), f28L5_at 200 _ b _ (by omega) (by omega)]
    rw [f28L5_in hn _ ⟨r1, r2, r3, r4, r5, r6⟩ a3 _ l 0 0 0 g3 (by omega) (by omega) (by omega) (by rw [hov']; omega)]
    simp
  have hsub : ∀ z' : Pr, b.2.2.2.2.1 ≤ z'.1 → z'.2 ≤ b.2.2.2.2.2 → z'.1 < z'.2 → waneOf l (b.1, b.2.1, b.2.2.1, b.2.2.2.1, z'.1, z'.2) ≤ mostF (area (rectOf b)) (rectOf b) b.2.2.2.2 l 0 0 := by
    intro z' h1 h2 h3
    have : Inside l (b.1, b.2.1, b.2.2.1, b.2.2.2.1, z'.1, z'.2) := ⟨a1, by simp only; omega, h3, a4, by simp only; omega⟩
    unfold waneOf
    rw [if_pos this]
    exact most_le a1 h1 h2 l 0 0 0 g3 (Int.le_refl _)
  have harea := area_wrap a1
  obtain ⟨r1, r2, r3, r4, r5, r6⟩ := a1
  simp only [rectOf] at r1 r2 r3 r4 r5 r6 harea
  rw [hw]
  generalize mostF (area (rectOf b)) (rectOf b) b.2.2.2.2 l 0 0 = M at *
  rw [if_neg (by omega), if_neg (by omega), if_neg (by omega), if_neg (by omega), if_neg (by omega), if_neg (by omega), if_neg (by omega), if_neg (by omega), if_neg (by omega), if_neg (by omega), if_neg (by omega)]
  simp only [h28, harea, Option.isSome_some, Option.getD_some, chk_true]
  have w1 : IntKind.i64.wrap (b.2.2.2.2.2 - b.2.2.2.2.1) = b.2.2.2.2.2 - b.2.2.2.2.1 := wrap_of (by omega) (by omega)
  have hc : area (rectOf b) * (b.2.2.2.2.2 - b.2.2.2.2.1) = (b.2.2.2.2.2 - b.2.2.2.2.1) * area (rectOf b) := Int.mul_comm _ _
  simp only [rectOf] at hc hsz hsum hge ⊢
  rw [w1, hc, wrap_of (n := (b.2.2.2.2.2 - b.2.2.2.2.1) * area (b.1, b.2.1, b.2.2.1, b.2.2.2.1)) (by omega) (by omega)]
  generalize hS : (b.2.2.2.2.2 - b.2.2.2.2.1) * area (b.1, b.2.1, b.2.2.1, b.2.2.2.1) = S at *
  have hMS : (b.2.2.2.2.2 - b.2.2.2.2.1) * (area (b.1, b.2.1, b.2.2.1, b.2.2.2.1) * M) = M * S := by rw [← Int.mul_assoc, hS, Int.mul_comm]
  rw [hMS] at hge
  have hMb := mul_bd (a := M) (b := S) (A := 1000) hb.1 hb.2 hsz.1
  have hlk : S - inS (b.1, b.2.1, b.2.2.1, b.2.2.2.1) b.2.2.2.2 l 0 = lackS (b.1, b.2.1, b.2.2.1, b.2.2.2.1) b.2.2.2.2 l 0 := by
    omega
  try simp only [rectOf] at hln hin hz0
  rw [hlk]
  generalize lackS (b.1, b.2.1, b.2.2.1, b.2.2.2.1) b.2.2.2.2 l 0 = K at *
  rw [wrap_of (n := K) (by omega) (by omega), if_neg (by omega)]
  have hiff : (!((M == 0) == (K == 0))) = false := by
    by_cases hK : K = 0
    · have := hz0 hK
      simp [hK, this]
    · have hM : M ≠ 0 := by
        intro h
        rw [h] at hge
        omega
      have e1 : (M == 0) = false := by simp [hM]
      have e2 : (K == 0) = false := by simp [hK]
      rw [e1, e2]
      rfl
  rw [hiff, cond_false, wrap_of (n := 1000 * K) (by omega) (by omega), wrap_of (n := M * S) (by omega) (by omega), if_neg (by omega)]
  have m1 : b.2.2.2.2.1 ≤ (if z.1 > b.2.2.2.2.1 then z.1 else b.2.2.2.2.1) := by split <;> omega
  have m2 : (if z.2 < b.2.2.2.2.2 then z.2 else b.2.2.2.2.2) ≤ b.2.2.2.2.2 := by split <;> omega
  generalize (if z.1 > b.2.2.2.2.1 then z.1 else b.2.2.2.2.1) = u at m1
  generalize (if z.2 < b.2.2.2.2.2 then z.2 else b.2.2.2.2.2) = v at m2
  by_cases huv : u ≥ v
  · rw [if_pos huv]
  · rw [if_neg huv, if_pos (hsub (u, v) m1 m2 (by simp only; omega))]
end Go.Proofs.Ytdhgbgbdnifonaa.Ev.Plain
