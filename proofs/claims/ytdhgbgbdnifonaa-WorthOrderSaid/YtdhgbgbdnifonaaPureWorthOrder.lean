/- The order of the defects, and a motion of log, defects and box by whole rows, do not change the worth of a box. -/
import Derived.Test.YtdhgbgbdnifonaaPureWorthDefects
namespace Go.Proofs.Ytdhgbgbdnifonaa.Ev.Plain
set_option linter.unusedVariables false
set_option linter.unusedSimpArgs false
/-! ### What must agree for the worth to be the same -/
theorem worth_same {l l' : List Slc} {d d' : List Def} {p : Pro} {b b' : Box} {fine : Int} (h : (worthOf l' d' p b' fine).2 = (worthOf l d p b fine).2) (hz : b'.2.2.2.2 = b.2.2.2.2) (hc : cntT b' d' = cntT b d) : worthOf l' d' p b' fine = worthOf l d p b fine := by
  refine Prod.ext ?_ h
  cases k : (worthOf l d p b fine).2
  · rw [worth_no k, worth_no (h.trans k)]
  · rw [worth_yes k, worth_yes (h.trans k), hz, hc]
theorem dckL_iff : ∀ (d : List Def), dckL d = 0 ↔ ∀ x ∈ d, f80 x = 0
  | [] => by simp [dckL]
  | x :: r => by
    simp only [dckL, List.mem_cons, forall_eq_or_imp]
    by_cases h : f80 x = 0
    · rw [if_neg (by simp [h]), dckL_iff r]
      simp [h]
    · rw [if_pos h]
      simp [h]
theorem dCk_iff (d : List Def) : dCk d = 0 ↔ d.length ≤ 64 ∧ ∀ x ∈ d, f80 x = 0 := by
  unfold dCk
  by_cases h : (d.length : Int) > 64
  · rw [if_pos h]
    exact ⟨fun q => absurd q (by decide), fun q => absurd q.1 (by omega)⟩
  · rw [if_neg h, dckL_iff]
    exact ⟨fun q => ⟨by omega, q⟩, fun q => q.2⟩
theorem cntT_append (b : Box) (e : List Def) : ∀ d : List Def, cntT b (d ++ e) = cntT b d + cntT b e
  | [] => by simp [cntT]
  | x :: r => by
    simp only [List.cons_append, cntT, cntT_append b e r]
    omega
theorem cntT_reverse (b : Box) : ∀ d : List Def, cntT b d.reverse = cntT b d
  | [] => rfl
  | x :: r => by
    rw [List.reverse_cons, cntT_append, cntT_reverse b r]
    simp only [cntT]
    omega
theorem worth_reverse (l : List Slc) (d : List Def) (p : Pro) (b : Box) (fine : Int) : worthOf l d.reverse p b fine = worthOf l d p b fine := by
  refine worth_same ?_ rfl (cntT_reverse b d)
  rw [Bool.eq_iff_iff, worth_ok, worth_ok]
  have hd : dCk d.reverse = 0 ↔ dCk d = 0 := by simp only [dCk_iff, List.length_reverse, List.mem_reverse]
  have ht : d.reverse.any (rotB (boxAt (rectOf b) b.2.2.2.2)) = d.any (rotB (boxAt (rectOf b) b.2.2.2.2)) := List.any_reverse
  constructor
  · rintro ⟨h1, h2, h3⟩
    exact ⟨h1, ⟨hd.1 h2.dc, h2.pc, h2.lc, h2.ac, h2.sc⟩, ⟨h3.z0, h3.z1, h3.z2, h3.c, h3.w, ht ▸ h3.t⟩⟩
  · rintro ⟨h1, h2, h3⟩
    exact ⟨h1, ⟨hd.2 h2.dc, h2.pc, h2.lc, h2.ac, h2.sc⟩, ⟨h3.z0, h3.z1, h3.z2, h3.c, h3.w, ht.trans h3.t⟩⟩
/-! ### A motion -/
def mvS (rows : Int) (x : Slc) : Slc := (x.1, IntKind.i64.wrap (x.2.1 + rows), x.2.2)
def mvD (dy : Int) (x : Def) : Def := (x.1, x.2.1, x.2.2.1, IntKind.i64.wrap (x.2.2.2.1 + dy), IntKind.i64.wrap (x.2.2.2.2.1 + dy), x.2.2.2.2.2.1, x.2.2.2.2.2.2)
def mvB (dy : Int) (b : Box) : Box := (b.1, b.2.1, IntKind.i64.wrap (b.2.2.1 + dy), IntKind.i64.wrap (b.2.2.2.1 + dy), b.2.2.2.2.1, b.2.2.2.2.2)
theorem f80_iff (x : Def) : f80 x = 0 ↔ (1 ≤ x.1 ∧ x.1 ≤ 6 ∧ (x.2.1 < x.2.2.1 ∧ -600 ≤ x.2.1 ∧ x.2.2.1 ≤ 600) ∧ (x.2.2.2.1 < x.2.2.2.2.1 ∧ -600 ≤ x.2.2.2.1 ∧ x.2.2.2.2.1 ≤ 600) ∧ (x.2.2.2.2.2.1 < x.2.2.2.2.2.2 ∧ 0 ≤ x.2.2.2.2.2.1 ∧ x.2.2.2.2.2.2 ≤ 20000)) := by
  have w : ∀ (s : Pr) (lo hi : Int), s.1 < s.2 → (f92 s lo hi = true ↔ lo ≤ s.1 ∧ s.2 ≤ hi) := by
    intro s lo hi h
    rw [f92_eq h]
    unfold f89
    rw [bif_if]
    by_cases c : lo ≤ s.1 <;> simp [c]
  unfold f80 f91
  simp only [bif_if]
  by_cases h1 : x.1 < 1
  · rw [if_pos h1]
    exact ⟨fun q => absurd q (by decide), fun q => absurd q.1 (by omega)⟩
  rw [if_neg h1]
  by_cases h2 : x.1 > 6
  · rw [if_pos h2]
    exact ⟨fun q => absurd q (by decide), fun q => absurd q.2.1 (by omega)⟩
  rw [if_neg h2]
  by_cases h3 : x.2.1 ≥ x.2.2.1
  · rw [if_pos h3]
    exact ⟨fun q => absurd q (by decide), fun q => absurd q.2.2.1.1 (by omega)⟩
  rw [if_neg h3]
  by_cases h4 : x.2.2.2.1 ≥ x.2.2.2.2.1
  · rw [if_pos h4]
    exact ⟨fun q => absurd q (by decide), fun q => absurd q.2.2.2.1.1 (by omega)⟩
  rw [if_neg h4]
  by_cases h5 : x.2.2.2.2.2.1 ≥ x.2.2.2.2.2.2
  · rw [if_pos h5]
    exact ⟨fun q => absurd q (by decide), fun q => absurd q.2.2.2.2.1 (by omega)⟩
  rw [if_neg h5]
  have w1 := w (x.2.1, x.2.2.1) (-600) 600 (by simp only; omega)
  have w2 := w (x.2.2.2.1, x.2.2.2.2.1) (-600) 600 (by simp only; omega)
  have w3 := w x.2.2.2.2.2 0 20000 (by omega)
  simp only at w1 w2 w3
  cases c1 : f92 (x.2.1, x.2.2.1) (-600) 600
  · rw [c1] at w1
    exact ⟨fun q => (by cases q), fun q => (by have := w1.2 q.2.2.1.2; cases this)⟩
  cases c2 : f92 (x.2.2.2.1, x.2.2.2.2.1) (-600) 600
  · rw [c2] at w2
    exact ⟨fun q => (by cases q), fun q => (by have := w2.2 q.2.2.2.1.2; cases this)⟩
  cases c3 : f92 x.2.2.2.2.2 0 20000
  · rw [c3] at w3
    exact ⟨fun q => (by cases q), fun q => (by have := w3.2 q.2.2.2.2.2; cases this)⟩
  have v1 := w1.1 c1
  have v2 := w2.1 c2
  have v3 := w3.1 c3
  exact ⟨fun _ => ⟨by omega, by omega, ⟨by omega, v1⟩, ⟨by omega, v2⟩, ⟨by omega, v3⟩⟩, fun _ => rfl⟩
theorem empty_iff (x z : Pr) : (f60 x z).1 ≥ (f60 x z).2 ↔ x.1 ≥ x.2 ∨ z.1 ≥ z.2 ∨ max x.1 z.1 ≥ min x.2 z.2 := by
  obtain ⟨a, b⟩ := x
  obtain ⟨c, d⟩ := z
  unfold f60
  simp only [f78_eq, bif_if]
  have m1 : (if c > a then c else a) = max a c := by split <;> omega
  have m2 : (if d < b then d else b) = min b d := by split <;> omega
  rw [m1, m2]
  by_cases h1 : a ≥ b
  · rw [if_pos h1]; simp [h1]
  rw [if_neg h1]
  by_cases h2 : c ≥ d
  · rw [if_pos h2]; simp [h2]
  rw [if_neg h2]
  by_cases h3 : max a c ≥ min b d
  · rw [if_pos h3]; simp [h3]
  · rw [if_neg h3]
    constructor
    · intro q; exact Or.inr (Or.inr q)
    · rintro (q | q | q) <;> omega
theorem empty_move {x z : Pr} {dy : Int} : (f60 (x.1 + dy, x.2 + dy) (z.1 + dy, z.2 + dy)).1 ≥ (f60 (x.1 + dy, x.2 + dy) (z.1 + dy, z.2 + dy)).2 ↔ (f60 x z).1 ≥ (f60 x z).2 := by
  rw [empty_iff, empty_iff]
  simp only
  omega
theorem touch_iff (x : Def) (b : Box) : f70 x b = true ↔ ¬ (f60 (x.2.1, x.2.2.1) (b.1, b.2.1)).1 ≥ (f60 (x.2.1, x.2.2.1) (b.1, b.2.1)).2 ∧ ¬ (f60 (x.2.2.2.1, x.2.2.2.2.1) (b.2.2.1, b.2.2.2.1)).1 ≥ (f60 (x.2.2.2.1, x.2.2.2.2.1) (b.2.2.1, b.2.2.2.1)).2 ∧ ¬ (f60 x.2.2.2.2.2 b.2.2.2.2).1 ≥ (f60 x.2.2.2.2.2 b.2.2.2.2).2 := by
  unfold f70 f86 f91
  simp only [bif_if]
  split
  · rename_i h; simp [h]
  · rename_i h
    split
    · rename_i h2; simp [h2]
    · rename_i h2
      split
      · rename_i h3; simp [h3]
      · rename_i h3
        exact ⟨fun _ => ⟨h, h2, h3⟩, fun _ => rfl⟩
theorem touch_move {x : Def} {b : Box} {dy : Int} (hx : f80 x = 0) (hb : Across (rectOf b)) (hd : -200 ≤ dy ∧ dy ≤ 200) : f70 (mvD dy x) (mvB dy b) = f70 x b := by
  obtain ⟨_, _, _, ⟨x1, x2, x3⟩, _⟩ := (f80_iff x).1 hx
  obtain ⟨_, _, _, b1, b2, b3⟩ := hb
  simp only at b1 b2 b3
  have e1 : IntKind.i64.wrap (x.2.2.2.1 + dy) = x.2.2.2.1 + dy := wrap_of (by omega) (by omega)
  have e2 : IntKind.i64.wrap (x.2.2.2.2.1 + dy) = x.2.2.2.2.1 + dy := wrap_of (by omega) (by omega)
  have e3 : IntKind.i64.wrap (b.2.2.1 + dy) = b.2.2.1 + dy := wrap_of (by omega) (by omega)
  have e4 : IntKind.i64.wrap (b.2.2.2.1 + dy) = b.2.2.2.1 + dy := wrap_of (by omega) (by omega)
  rw [Bool.eq_iff_iff, touch_iff, touch_iff]
  unfold mvD mvB
  simp only [e1, e2, e3, e4]
  have := @empty_move (x.2.2.2.1, x.2.2.2.2.1) (b.2.2.1, b.2.2.2.1) dy
  simp only at this
  rw [this]
theorem f65_move {x z : Pr} {dy : Int} (hx : -2000 ≤ x.1 ∧ x.1 ≤ 2000 ∧ -2000 ≤ x.2 ∧ x.2 ≤ 2000) (hz : -2000 ≤ z.1 ∧ z.1 ≤ 2000 ∧ -2000 ≤ z.2 ∧ z.2 ≤ 2000) : f65 (x.1 + dy, x.2 + dy) (z.1 + dy, z.2 + dy) = f65 x z := by
  obtain ⟨a, b⟩ := x
  obtain ⟨c, d⟩ := z
  have e79 : ∀ y : Pr, f79 y = decide (y.1 ≥ y.2) := fun _ => rfl
  unfold f65
  simp only [e79, bif_if]
  have m1 : (if c > a then c else a) = max a c := by split <;> omega
  have m2 : (if d < b then d else b) = min b d := by split <;> omega
  have m3 : (if c + dy > a + dy then c + dy else a + dy) = max a c + dy := by split <;> omega
  have m4 : (if d + dy < b + dy then d + dy else b + dy) = min b d + dy := by split <;> omega
  rw [m1, m2, m3, m4]
  by_cases h2 : c ≥ d
  · rw [if_pos h2, if_pos (by omega)]
  rw [if_neg h2, if_neg (show ¬ c + dy ≥ d + dy by omega)]
  by_cases h3 : max a c ≥ min b d
  · rw [if_pos h3, if_pos (by omega)]
  · rw [if_neg h3, if_neg (by omega)]
    congr 1
    omega
theorem winF_move {lo rows : Int} {r : Int × Int × Int × Int} (hlo : -60 ≤ lo ∧ lo ≤ 60) (hrows : -20 ≤ rows ∧ rows ≤ 20) (hr : Across r) : ∀ (q : List Pr) (j : Nat) (acc : Int), j + q.length ≤ 120 → winF (lo + rows) (r.1, r.2.1, r.2.2.1 + 10 * rows, r.2.2.2 + 10 * rows) q j acc = winF lo r q j acc
  | [], j, acc, _ => rfl
  | x :: q, j, acc, hj => by
    simp only [List.length_cons] at hj
    obtain ⟨r1, r2, r3, r4, r5, r6⟩ := id hr
    have key : ∀ k : Int, -1000 ≤ k → k ≤ 1000 → f66 (IntKind.i64.wrap k) = (10 * k, 10 * k + 10) := by
      intro k h0 h1
      unfold f66
      rw [wrap_of (n := k) (by omega) (by omega)]
      simp only
      rw [wrap_of (n := 10 * k) (by omega) (by omega), wrap_of (n := k + 1) (by omega) (by omega), wrap_of (n := 10 * (k + 1)) (by omega) (by omega)]
      congr 1
      omega
    have e1 := key (lo + (j : Int)) (by omega) (by omega)
    have e2 := key (lo + rows + (j : Int)) (by omega) (by omega)
    have e3 := @f65_move (10 * (lo + (j : Int)), 10 * (lo + (j : Int)) + 10) r.2.2 (10 * rows) ⟨by simp only; omega, by simp only; omega, by simp only; omega, by simp only; omega⟩ ⟨by omega, by omega, by omega, by omega⟩
    simp only at e3
    have e4 : (10 * (lo + rows + (j : Int)), 10 * (lo + rows + (j : Int)) + 10) = (10 * (lo + (j : Int)) + 10 * rows, 10 * (lo + (j : Int)) + 10 + 10 * rows) := by
      congr 1 <;> omega
    simp only [winF, e1, e2, e4, e3]
    exact winF_move hlo hrows hr q (j + 1) _ (by omega)
theorem wan_move {x : Slc} {rows : Int} {r : Int × Int × Int × Int} (hx : secCk x.2 = 0) (hrows : -20 ≤ rows ∧ rows ≤ 20) (hr : Across r) : wan (area (r.1, r.2.1, r.2.2.1 + 10 * rows, r.2.2.2 + 10 * rows)) (r.1, r.2.1, r.2.2.1 + 10 * rows, r.2.2.2 + 10 * rows) (mvS rows x) = wan (area r) r x := by
  obtain ⟨s1, s2, s3, s4⟩ := sec_ok hx
  have ea : area (r.1, r.2.1, r.2.2.1 + 10 * rows, r.2.2.2 + 10 * rows) = area r := by
    unfold area
    simp only
    congr 1
    omega
  have e1 : IntKind.i64.wrap (x.2.1 + rows) = x.2.1 + rows := wrap_of (by omega) (by omega)
  rw [ea]
  unfold wan win mvS
  simp only [e1]
  rw [winF_move ⟨s2, by omega⟩ hrows hr x.2.2 0 0 (by omega)]
theorem mostF_move {rows : Int} {r : Int × Int × Int × Int} (z : Pr) (hrows : -20 ≤ rows ∧ rows ≤ 20) (hr : Across r) : ∀ (q : List Slc) (s acc : Int), LogOk q s → mostF (area (r.1, r.2.1, r.2.2.1 + 10 * rows, r.2.2.2 + 10 * rows)) (r.1, r.2.1, r.2.2.1 + 10 * rows, r.2.2.2 + 10 * rows) z (q.map (mvS rows)) s acc = mostF (area r) r z q s acc
  | [], s, acc, _ => rfl
  | x :: q, s, acc, h => by
    obtain ⟨c1, _, _, _, c4⟩ := h
    have hw := wan_move c1 hrows hr
    simp only [List.map_cons, mostF, hw]
    have e1 : (mvS rows x).1 = x.1 := rfl
    rw [e1]
    split
    · exact mostF_move z hrows hr q _ _ c4
    · exact mostF_move z hrows hr q _ _ c4
theorem total_move (rows : Int) : ∀ q : List Slc, total (q.map (mvS rows)) = total q
  | [] => rfl
  | x :: q => by
    simp only [List.map_cons, total, total_move rows q]
    rfl
theorem any_move {b : Box} {dy : Int} (hb : Across (rectOf b)) (hd : -200 ≤ dy ∧ dy ≤ 200) : ∀ d : List Def, (∀ x ∈ d, f80 x = 0) → (d.map (mvD dy)).any (rotB (mvB dy b)) = d.any (rotB b)
  | [], _ => rfl
  | x :: r, h => by
    have e := touch_move (h x (by simp)) hb hd
    have e1 : (mvD dy x).1 = x.1 := rfl
    simp only [List.map_cons, List.any_cons, rotB, e, e1]
    rw [← any_move hb hd r (fun y hy => h y (by simp [hy]))]
theorem cnt_move {b : Box} {dy : Int} (hb : Across (rectOf b)) (hd : -200 ≤ dy ∧ dy ≤ 200) : ∀ d : List Def, (∀ x ∈ d, f80 x = 0) → cntT (mvB dy b) (d.map (mvD dy)) = cntT b d
  | [], _ => rfl
  | x :: r, h => by
    have e := touch_move (h x (by simp)) hb hd
    simp only [List.map_cons, cntT, e]
    rw [cnt_move hb hd r (fun y hy => h y (by simp [hy]))]
def farB (x : Def) : Bool := decide (x.2.2.2.1 < -600) || decide (x.2.2.2.2.1 > 600)
theorem worth_move {l : List Slc} {d : List Def} {p : Pro} {b : Box} {fine rows : Int} (hrows : -20 ≤ rows ∧ rows ≤ 20) (hok : (worthOf l d p b fine).2 = true) (hb : -600 ≤ IntKind.i64.wrap (b.2.2.1 + 10 * rows) ∧ IntKind.i64.wrap (b.2.2.2.1 + 10 * rows) ≤ 600) (hl : logCk (l.map (mvS rows)) = 0) (hf : (d.map (mvD (10 * rows))).any farB = false) : worthOf (l.map (mvS rows)) (d.map (mvD (10 * rows))) p (mvB (10 * rows) b) fine = worthOf l d p b fine := by
  obtain ⟨h1, h2, h3⟩ := worth_ok.1 hok
  obtain ⟨hdl, hd⟩ := (dCk_iff d).1 h2.dc
  obtain ⟨g1, g2, g3⟩ := logCk_ok h2.lc
  obtain ⟨b1, b2, b3, b4, b5, b6⟩ := id h2.ac
  simp only at b1 b2 b3 b4 b5 b6
  have e3 : IntKind.i64.wrap (b.2.2.1 + 10 * rows) = b.2.2.1 + 10 * rows := wrap_of (by omega) (by omega)
  have e4 : IntKind.i64.wrap (b.2.2.2.1 + 10 * rows) = b.2.2.2.1 + 10 * rows := wrap_of (by omega) (by omega)
  rw [e3, e4] at hb
  have er : rectOf (mvB (10 * rows) b) = (b.1, b.2.1, b.2.2.1 + 10 * rows, b.2.2.2.1 + 10 * rows) := by
    unfold rectOf mvB
    simp only [e3, e4]
  have eb : boxAt (rectOf (mvB (10 * rows) b)) b.2.2.2.2 = mvB (10 * rows) b := rfl
  refine worth_same ?_ rfl (cnt_move h2.ac ⟨by omega, by omega⟩ d hd)
  rw [hok, worth_ok]
  refine ⟨h1, ⟨?_, h2.pc, hl, ?_, ?_⟩, ⟨h3.z0, h3.z1, ?_, h3.c, ?_, ?_⟩⟩
  · rw [dCk_iff, List.length_map]
    refine ⟨hdl, ?_⟩
    intro y hy
    obtain ⟨x, hx, rfl⟩ := List.mem_map.1 hy
    obtain ⟨x1, x2, x3, ⟨x4, x5, x6⟩, x7⟩ := (f80_iff x).1 (hd x hx)
    have hfx := (List.any_eq_false.1 hf) _ hy
    have q1 : IntKind.i64.wrap (x.2.2.2.1 + 10 * rows) = x.2.2.2.1 + 10 * rows := wrap_of (by omega) (by omega)
    have q2 : IntKind.i64.wrap (x.2.2.2.2.1 + 10 * rows) = x.2.2.2.2.1 + 10 * rows := wrap_of (by omega) (by omega)
    simp only [farB, mvD, q1, q2, Bool.or_eq_true, decide_eq_true_eq, not_or] at hfx
    rw [f80_iff]
    unfold mvD
    simp only [q1, q2]
    exact ⟨x1, x2, x3, ⟨by omega, by omega, by omega⟩, x7⟩
  · rw [er]
    exact ⟨b1, b2, b3, by simp only; omega, by simp only; omega, by simp only; omega⟩
  · rw [er]
    have := h2.sc
    unfold sizeB at this ⊢
    simp only at this ⊢
    have q : b.2.2.2.1 + 10 * rows - (b.2.2.1 + 10 * rows) = b.2.2.2.1 - b.2.2.1 := by omega
    rw [q]
    exact this
  · rw [total_move]
    exact h3.z2
  · rw [er]
    have := mostF_move (r := rectOf b) b.2.2.2.2 hrows h2.ac l 0 0 g3
    have h3w := h3.w
    rw [← this] at h3w
    exact h3w
  · have ht := h3.t
    have e := any_move (b := b) h2.ac (dy := 10 * rows) ⟨by omega, by omega⟩ d hd
    exact e.trans ht
/-! ### The loops -/
theorem f26_L (n : Nat) (d : List Def) (kret k0 : Option Bool) : ∀ (r : List Def) (j : Nat), f26L2F n d kret k0 r j = bif r.any farB then kret else k0
  | [], j => rfl
  | x :: r, j => by
    simp only [f26L2F, f26L2B, f26_L n d kret k0 r (j + 1), List.any_cons, farB]
    cases decide (x.2.2.2.1 < -600)
    · cases decide (x.2.2.2.2.1 > 600) <;> rfl
    · rfl
theorem f26_eq (n : Nat) (d : List Def) (h1 : d.length < n + 8) (h2 : d.length < 1000) : f26 n d = some (d.any farB) := by
  unfold f26 f26G
  dsimp only
  rw [f26L2_at n d _ _ (by omega) h1, f26_L]
  cases d.any farB <;> rfl
theorem f9_L7 (n : Nat) (rows : Int) (v4 : Int × Bool) (g : Giv) (b : Box) (k0) : ∀ (i m : Nat) (acc : List Def), i < m → i ≤ g.2.1.length → acc.length + i < 1000 → f9L7 n rows v4 g b m ((i : Int) - 1) acc k0 = k0 (acc ++ (g.2.1.take i).reverse)
  | 0, m + 1, acc, _, _, _ => by
    have c : decide (((0 : Nat) : Int) - 1 ≥ 0) = false := rfl
    simp only [f9L7, f9L7G, c, cond_false, List.take_zero, List.reverse_nil, List.append_nil]
  | i + 1, m + 1, acc, h1, h2, h3 => by
    have e0 : ((i + 1 : Nat) : Int) - 1 = (i : Int) := by omega
    have c1 : decide ((i : Int) ≥ 0) = true := decide_eq_true (by omega)
    have c2 : decide ((0 : Int) ≤ (i : Int)) = true := decide_eq_true (by omega)
    have c3 : decide ((i : Int) < (g.2.1.length : Int)) = true := decide_eq_true (by omega)
    have c4 : decide (acc.length < 68719476736) = true := decide_eq_true (by omega)
    have c5 : IntKind.i64.wrap ((i : Int) - 1) = (i : Int) - 1 := wrap_of (by omega) (by omega)
    rw [e0]
    simp only [f9L7, f9L7G, c1, c2, c3, c4, c5, cond_true, chk_true, Int.toNat_natCast]
    rw [f9_L7 n rows v4 g b k0 i m _ (by omega) (by omega) (by simp; omega)]
    congr 1
    have hi : i < g.2.1.length := by omega
    rw [List.take_add_one, List.getElem?_eq_getElem hi, List.getD_eq_getElem?_getD, List.getElem?_eq_getElem hi]
    simp only [Option.getD_some, Option.toList_some, List.reverse_append, List.reverse_singleton, List.append_assoc]
  | 0, 0, _, h, _, _ => absurd h (by omega)
  | i + 1, 0, _, h, _, _ => absurd h (by omega)
def offS (x : Slc) : Bool := decide (x.2.1 < -1000) || decide (x.2.1 > 1000)
def offD (x : Def) : Bool := decide (x.2.2.2.1 < -5000) || decide (x.2.2.2.2.1 > 5000)
theorem f9_L16 (n : Nat) (rows : Int) (v4 : Int × Bool) (v18 : Int) (g : Giv) (b : Box) (kret : Option Bool) (k2) : ∀ (r : List Slc) (j : Nat) (acc : List Slc), acc.length + r.length < 1000 → f9L16F n rows v4 v18 g b kret k2 r j acc = bif r.any offS then kret else k2 (acc ++ r.map (mvS rows))
  | [], j, acc, _ => by simp [f9L16F]
  | x :: r, j, acc, h => by
    simp only [List.length_cons] at h
    have c : decide (acc.length < 68719476736) = true := decide_eq_true (by omega)
    simp only [f9L16F, f9L16B, c, chk_true, List.any_cons, offS]
    rw [f9_L16 n rows v4 v18 g b kret k2 r (j + 1) _ (by simp; omega)]
    cases decide (x.2.1 < -1000)
    · cases decide (x.2.1 > 1000)
      · simp only [cond_false, Bool.false_or, List.map_cons, List.append_assoc, List.singleton_append, mvS]
      · rfl
    · rfl
theorem f9_L24 (n : Nat) (v4 : Int × Bool) (v18 : Int) (g : Giv) (b : Box) (v29 : List Slc) (kret : Option Bool) (k4) : ∀ (r : List Def) (j : Nat) (acc : List Def), acc.length + r.length < 1000 → f9L24F n v4 v18 g b v29 kret k4 r j acc = bif r.any offD then kret else k4 (acc ++ r.map (mvD v18))
  | [], j, acc, _ => by simp [f9L24F]
  | x :: r, j, acc, h => by
    simp only [List.length_cons] at h
    have c : decide (acc.length < 68719476736) = true := decide_eq_true (by omega)
    simp only [f9L24F, f9L24B, c, chk_true, List.any_cons, offD]
    rw [f9_L24 n v4 v18 g b v29 kret k4 r (j + 1) _ (by simp; omega)]
    cases decide (x.2.2.2.1 < -5000)
    · cases decide (x.2.2.2.2.1 > 5000)
      · simp only [cond_false, Bool.false_or, List.map_cons, List.append_assoc, List.singleton_append, mvD]
      · rfl
    · rfl
theorem WorthOrder : WorthOrderLaw := by
  intro g b rows _ _ _
  refine ⟨200, ?_⟩
  have hn := Nat.le_refl 200
  unfold f9 f9G
  simp only [small_eq hn, Option.isSome_some, Option.getD_some, chk_true]
  cases hs : smallB g
  · rfl
  have hlen : g.1.length ≤ 30 ∧ g.2.1.length ≤ 70 := by
    unfold smallB at hs
    simp at hs
    omega
  simp only [Bool.not_true, cond_false, bif_if]
  by_cases h1 : rows < -20
  · rw [if_pos h1]
  rw [if_neg h1]
  by_cases h2 : rows > 20
  · rw [if_pos h2]
  rw [if_neg h2]
  by_cases h3 : b.2.2.1 < -5000
  · rw [if_pos h3]
  rw [if_neg h3]
  by_cases h4 : b.2.2.2.1 > 5000
  · rw [if_pos h4]
  rw [if_neg h4]
  have hrows : -20 ≤ rows ∧ rows ≤ 20 := ⟨by omega, by omega⟩
  have e10 : IntKind.i64.wrap (10 * rows) = 10 * rows := wrap_of (by omega) (by omega)
  have el : IntKind.i64.wrap ((g.2.1.length : Int) - 1) = (g.2.1.length : Int) - 1 := wrap_of (by omega) (by omega)
  simp only [f17_eq hn, Option.isSome_some, Option.getD_some, chk_true, e10, el]
  rw [f9_L7 200 rows _ g b _ g.2.1.length 208 [] (by omega) (by omega) (by simp; omega)]
  rw [List.take_length, List.nil_append]
  have ep : ((g.2.2.1, g.2.2.2.1, g.2.2.2.2.1, g.2.2.2.2.2.1, g.2.2.2.2.2.2.1, g.2.2.2.2.2.2.2.1, g.2.2.2.2.2.2.2.2.1) : Pro) = proOf g := rfl
  simp only [ep, worth_reverse]
  have r1 : ((worthOf g.1 g.2.1 (proOf g) b g.2.2.2.2.2.2.2.2.2).1 != (worthOf g.1 g.2.1 (proOf g) b g.2.2.2.2.2.2.2.2.2).1) = false := by simp
  have r2 : ((worthOf g.1 g.2.1 (proOf g) b g.2.2.2.2.2.2.2.2.2).2 == (worthOf g.1 g.2.1 (proOf g) b g.2.2.2.2.2.2.2.2.2).2) = true := by simp
  simp only [r1, r2, Bool.not_true, cond_false]
  rw [f9L16_at 200 rows _ _ g b _ _ (by omega) (by omega), f9_L16 200 rows _ _ g b _ _ g.1 0 [] (by simp; omega)]
  cases g.1.any offS
  case true => rfl
  rw [cond_false, List.nil_append, f9L24_at 200 _ _ g b _ _ _ (by omega) (by omega), f9_L24 200 _ _ g b _ _ _ g.2.1 0 [] (by simp; omega)]
  cases g.2.1.any offD
  case true => rfl
  rw [cond_false, List.nil_append]
  simp only [f25_eq hn, f26_eq 200 (g.2.1.map (mvD (10 * rows))) (by simp; omega) (by simp; omega), Option.isSome_some, Option.getD_some, chk_true]
  have hm := @worth_move g.1 g.2.1 (proOf g) b g.2.2.2.2.2.2.2.2.2 rows hrows
  unfold mvB at hm
  generalize hA : worthOf g.1 g.2.1 (proOf g) b g.2.2.2.2.2.2.2.2.2 = A at hm
  cases hA2 : A.2
  · rfl
  simp only [Bool.not_true, cond_false]
  by_cases k1 : IntKind.i64.wrap (b.2.2.1 + 10 * rows) < -600
  · rw [if_pos k1]
  rw [if_neg k1]
  by_cases k2 : IntKind.i64.wrap (b.2.2.2.1 + 10 * rows) > 600
  · rw [if_pos k2]
  rw [if_neg k2]
  by_cases k3 : logCk (g.1.map (mvS rows)) = 0
  case neg =>
    have e : (logCk (g.1.map (mvS rows)) != 0) = true := by simp [k3]
    rw [e, cond_true]
  have e : (logCk (g.1.map (mvS rows)) != 0) = false := by simp [k3]
  rw [e, cond_false]
  cases k4 : (g.2.1.map (mvD (10 * rows))).any farB
  case true => rfl
  rw [cond_false]
  have := hm hA2 ⟨by omega, by omega⟩ k3 k4
  rw [this, hA2, cond_true]
  simp
end Go.Proofs.Ytdhgbgbdnifonaa.Ev.Plain
