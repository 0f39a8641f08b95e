/- Best of the program and of the reference agree. -/
import Derived.Test.YtdhgbgbdnifonaaPureWorthAccepts
namespace Go.Proofs.Ytdhgbgbdnifonaa.Ev.Plain
set_option linter.unusedVariables false
set_option linter.unusedSimpArgs false
theorem size_of_d {d : List Def} (h : dCk d = 0) : d.length ≤ 64 := by
  unfold dCk at h
  split at h
  · cases h
  · omega
/-- One box, in the reference. -/
theorem f40_eq {n : Nat} (hn : 200 ≤ n) {l : List Slc} {d : List Def} {p : Pro} (hl : logCk l = 0) (hd : dCk d = 0) (hp : pCk p = 0) (b : Box) : ∃ q : Bool, f40 n l d p b = some q ∧ (q = true ↔ Ready l d p (rectOf b) ∧ Fits l d p (rectOf b) b.2.2.2.2) := by
  obtain ⟨q, h1, h2⟩ := f20_eq hn l d p b
  unfold f20 f20G at h1
  have hv : logCk l = 0 ∧ dCk d = 0 ∧ pCk p = 0 := ⟨hl, hd, hp⟩
  simp only [f39_eq hn, Option.isSome_some, Option.getD_some, chk_true] at h1
  rw [decide_eq_true hv, cond_true] at h1
  cases h : f40 n l d p b with
  | none => rw [h] at h1; cases h1
  | some q' =>
    rw [h] at h1
    simp only [Option.isSome_some, Option.getD_some, chk_true, Option.some.injEq] at h1
    subst h1
    exact ⟨q', rfl, h2⟩
theorem f38_eq {n : Nat} (hn : 200 ≤ n) {l : List Slc} {d : List Def} {p : Pro} {r : Int × Int × Int × Int} (hr : Ready l d p r) {z : Pr} (hs : Fits l d p r z) (fine : Int) : f38 n d p (r.1, r.2.1, r.2.2.1, r.2.2.2, z.1, z.2) fine = some (worthAt d p r fine z) := by
  have hdl := size_of_d hr.dc
  have hpl := lens_le hr.pc
  obtain ⟨g1, g2, g3⟩ := logCk_ok hr.lc
  have ht := total_le g3 (by omega) (by omega)
  have e6 : IntKind.i64.wrap (z.2 - z.1) = z.2 - z.1 := wrap_of (by have := hs.z0; have := hs.z1; have := hs.z2; omega) (by have := hs.z0; have := hs.z1; have := hs.z2; omega)
  unfold f38 f38G
  simp only [e6, f52_eq (n := n) p (by omega) (by omega), Option.isSome_some, Option.getD_some, chk_true]
  rw [f38L3_at n d fine _ _ (by omega) (by omega), f38_L]
  rfl
/-! ### The search -/
structure St where
  v : Int
  f : Bool
  a : Int
  b : Int
def upd (W : Pr → Int × Bool) (at_ : Int) (x : Int) (s : St) : St :=
  bif (W (at_, IntKind.i64.wrap (at_ + x))).2 then (bif !s.f then ⟨(W (at_, IntKind.i64.wrap (at_ + x))).1, true, at_, IntKind.i64.wrap (at_ + x)⟩ else bif decide ((W (at_, IntKind.i64.wrap (at_ + x))).1 > s.v) then ⟨(W (at_, IntKind.i64.wrap (at_ + x))).1, true, at_, IntKind.i64.wrap (at_ + x)⟩ else s) else s
def along (W : Pr → Int × Bool) (at_ : Int) : List Int → St → St
  | [], s => s
  | x :: r, s => along W at_ r (upd W at_ x s)
def walkO (W : Pr → Int × Bool) (L step : Int) (lens : List Int) : Nat → Int → St → Option St
  | 0, _, _ => none
  | m + 1, at_, s => if at_ < L then walkO W L step lens m (IntKind.i64.wrap (at_ + step)) (along W at_ lens s) else some s
open Classical in
/-- What the search sees at a position. -/
noncomputable def lookA (l : List Slc) (d : List Def) (p : Pro) (r : Int × Int × Int × Int) (fine : Int) (z : Pr) : Int × Bool := if Ready l d p r then lookW l d p r fine z else (0, false)
theorem lookA_ready {l : List Slc} {d : List Def} {p : Pro} {r : Int × Int × Int × Int} (h : Ready l d p r) (fine : Int) (z : Pr) : lookA l d p r fine z = lookW l d p r fine z := by
  unfold lookA
  rw [if_pos h]
theorem f41L10_along {n : Nat} (hn : 200 ≤ n) {l : List Slc} {d : List Def} {p : Pro} {r : Int × Int × Int × Int} (h : Ready l d p r) (step fine at_ : Int) (q : Bool) (k2) : ∀ (xs : List Int) (j : Nat) (s : St),
    f41L10F n step fine at_ p (kOf l d p r, q) k2 xs j s.v s.f s.a s.b = k2 (along (lookA l d p r fine) at_ xs s).v (along (lookA l d p r fine) at_ xs s).f (along (lookA l d p r fine) at_ xs s).a (along (lookA l d p r fine) at_ xs s).b
  | [], j, s => rfl
  | x :: xs, j, s => by
    have ih := f41L10_along hn h step fine at_ q k2 xs (j + 1)
    have e := f51_eq hn h (at_, IntKind.i64.wrap (at_ + x)) fine
    rw [← lookA_ready h] at e
    simp only [f41L10F, f41L10B, e, Option.isSome_some, Option.getD_some, chk_true, along, upd]
    generalize lookA l d p r fine (at_, IntKind.i64.wrap (at_ + x)) = w
    cases w.2
    · exact ih s
    · cases hf : s.f
      · exact ih ⟨w.1, true, at_, _⟩
      · by_cases hv : w.1 > s.v
        · rw [decide_eq_true hv]
          exact ih ⟨w.1, true, at_, _⟩
        · rw [decide_eq_false hv]
          have := ih s
          rw [hf] at this
          exact this
theorem f23L8_along {n : Nat} (hn : 200 ≤ n) {l : List Slc} {d : List Def} {p : Pro} {r : Int × Int × Int × Int} (hl : logCk l = 0) (hd : dCk d = 0) (hp : pCk p = 0) (step fine at_ : Int) (k2) : ∀ (xs : List Int) (j : Nat) (s : St),
    f23L8F n l d step fine at_ p r k2 xs j s.v s.f s.a s.b = k2 (along (lookA l d p r fine) at_ xs s).v (along (lookA l d p r fine) at_ xs s).f (along (lookA l d p r fine) at_ xs s).a (along (lookA l d p r fine) at_ xs s).b
  | [], j, s => rfl
  | x :: xs, j, s => by
    have ih := f23L8_along hn (r := r) hl hd hp step fine at_ k2 xs (j + 1)
    obtain ⟨q, h1, h2⟩ := f40_eq hn hl hd hp (r.1, r.2.1, r.2.2.1, r.2.2.2, at_, IntKind.i64.wrap (at_ + x))
    simp only [f23L8F, f23L8B, h1, Option.isSome_some, Option.getD_some, chk_true, along, upd]
    cases q
    · have e : lookA l d p r fine (at_, IntKind.i64.wrap (at_ + x)) = (0, false) := by
        unfold lookA lookW
        split
        · rename_i g1
          split
          · rename_i g2
            have := h2.2 ⟨g1, g2⟩
            cases this
          · rfl
        · rfl
      rw [e]
      exact ih s
    · obtain ⟨g1, g2⟩ := h2.1 rfl
      have e : lookA l d p r fine (at_, IntKind.i64.wrap (at_ + x)) = (worthAt d p r fine (at_, IntKind.i64.wrap (at_ + x)), true) := by
        rw [lookA_ready g1, lookW, if_pos g2]
      have e38 := f38_eq hn g1 g2 fine
      simp only at e38
      simp only [e, e38, Option.isSome_some, Option.getD_some, chk_true, Bool.not_true, cond_false, cond_true]
      generalize worthAt d p r fine (at_, IntKind.i64.wrap (at_ + x)) = w
      cases hf : s.f
      · exact ih ⟨w, true, at_, _⟩
      · by_cases hv : w > s.v
        · rw [decide_eq_true hv]
          exact ih ⟨w, true, at_, _⟩
        · rw [decide_eq_false hv]
          have := ih s
          rw [hf] at this
          exact this
theorem f41L7_walk {n : Nat} (hn : 200 ≤ n) {l : List Slc} {d : List Def} {p : Pro} {r : Int × Int × Int × Int} (h : Ready l d p r) (step fine : Int) (q : Bool) (k0) : ∀ (m : Nat) (at_ : Int) (s : St),
    f41L7 n step fine p (kOf l d p r, q) m s.v s.f at_ s.a s.b k0 = (walkO (lookA l d p r fine) (total l) step p.2.2.2.2.2.1 m at_ s).bind fun s => k0 s.v s.f s.a s.b
  | 0, at_, s => rfl
  | m + 1, at_, s => by
    have hpl := lens_le h.pc
    have ih := f41L7_walk hn h step fine q k0 m
    have e0 : (kOf l d p r).2.2.2.2.2.2.2.2.2.2.2.2.1 = total l := rfl
    simp only [f41L7, f41L7G, walkO, e0, bif_if]
    split
    · rw [f41L10_at n step fine at_ p (kOf l d p r, q) _ (by omega) (by omega), f41L10_along hn h]
      exact ih _ _
    · rfl
theorem f23L5_walk {n : Nat} (hn : 200 ≤ n) {l : List Slc} {d : List Def} {p : Pro} {r : Int × Int × Int × Int} (hl : logCk l = 0) (hd : dCk d = 0) (hp : pCk p = 0) (step fine : Int) (k0) : ∀ (m : Nat) (at_ : Int) (s : St),
    f23L5 n l d step fine p r m s.v s.f at_ s.a s.b k0 = (walkO (lookA l d p r fine) (total l) step p.2.2.2.2.2.1 m at_ s).bind fun s => k0 s.v s.f s.a s.b
  | 0, at_, s => rfl
  | m + 1, at_, s => by
    have hpl := lens_le hp
    have ih := f23L5_walk hn (r := r) hl hd hp step fine k0 m
    have e0 : f42 n l = some (total l) := by rw [f42_eq hn, if_neg (by simp [hl])]
    simp only [f23L5, f23L5G, walkO, e0, Option.isSome_some, Option.getD_some, chk_true, bif_if]
    split
    · rw [f23L8_at n l d step fine at_ p r _ (by omega) (by omega), f23L8_along hn hl hd hp]
      exact ih _ _
    · rfl
theorem walk_some (W : Pr → Int × Bool) {L step : Int} (hL : L ≤ 20000) (h1 : 1 ≤ step) (h2 : step ≤ 20000) (lens : List Int) : ∀ (m : Nat) (at_ : Int) (s : St), 0 ≤ at_ → at_ ≤ 40000 → 1 ≤ m → L < at_ + m → ∃ s', walkO W L step lens m at_ s = some s'
  | 0, at_, s, h0, _, hm, h => absurd hm (by omega)
  | m + 1, at_, s, h0, h3, hm, h => by
    unfold walkO
    split
    · rename_i hlt
      have e : IntKind.i64.wrap (at_ + step) = at_ + step := wrap_of (by omega) (by omega)
      rw [e]
      exact walk_some W hL h1 h2 lens m (at_ + step) _ (by omega) (by omega) (by omega) (by omega)
    · exact ⟨s, rfl⟩
theorem from1_eq (x : Int) : f29 x 1 20000 = decide (1 ≤ x ∧ x ≤ 20000) := by
  unfold f29
  rw [bif_if, Bool.eq_iff_iff]
  by_cases h : (1 : Int) ≤ x <;> simp [h]
def St.out (s : St) : (Int × Int) × Int × Bool := ((s.a, s.b), s.v, s.f)
def st0 : St := ⟨0, false, 0, 0⟩
/-- What Best answers. -/
def BestIs (n : Nat) (l : List Slc) (d : List Def) (p : Pro) (r : Int × Int × Int × Int) (step fine : Int) (o : (Int × Int) × Int × Bool) : Prop :=
  ((1 ≤ step ∧ step ≤ 20000) ∧ (0 ≤ fine ∧ fine ≤ 1000000) ∧ Ready l d p r ∧ ∃ s, walkO (lookA l d p r fine) (total l) step p.2.2.2.2.2.1 (n + 8) 0 st0 = some s ∧ o = s.out) ∨ (¬ ((1 ≤ step ∧ step ≤ 20000) ∧ (0 ≤ fine ∧ fine ≤ 1000000) ∧ Ready l d p r) ∧ o = ((0, 0), 0, false))
open Classical in
theorem f41_eq {n : Nat} (hn : 20200 ≤ n) (l : List Slc) (d : List Def) (p : Pro) (r : Int × Int × Int × Int) (step fine : Int) : ∃ o, f41 n l d p r step fine = some o ∧ BestIs n l d p r step fine o := by
  obtain ⟨k, h1, h2⟩ := f50_eq (n := n) (by omega) l d p r
  unfold f41 f41G
  simp only [h1, Option.isSome_some, Option.getD_some, chk_true, from_eq, from1_eq]
  by_cases hr : Ready l d p r
  case neg => rw [decide_eq_false hr]; exact ⟨_, rfl, .inr ⟨fun h => hr h.2.2, rfl⟩⟩
  have hk := h2 hr
  subst hk
  rw [decide_eq_true hr, Bool.not_true, cond_false]
  by_cases hs : 1 ≤ step ∧ step ≤ 20000
  case neg => rw [decide_eq_false hs]; exact ⟨_, rfl, .inr ⟨fun h => hs h.1, rfl⟩⟩
  rw [decide_eq_true hs, Bool.not_true, cond_false]
  by_cases hf : 0 ≤ fine ∧ fine ≤ 1000000
  case neg => rw [decide_eq_false hf]; exact ⟨_, rfl, .inr ⟨fun h => hf h.2.1, rfl⟩⟩
  rw [decide_eq_true hf, Bool.not_true, cond_false]
  have hw := f41L7_walk (n := n) (by omega) hr step fine true (fun v93 v94 v95 v96 => some ((v95, v96), v93, v94)) (n + 8) 0 st0
  simp only [st0] at hw
  rw [hw]
  obtain ⟨g1, g2, g3⟩ := logCk_ok hr.lc
  have ht := total_le g3 (by omega) (by omega)
  obtain ⟨s', hs'⟩ := walk_some (lookA l d p r fine) (L := total l) (by omega) hs.1 hs.2 p.2.2.2.2.2.1 (n + 8) 0 st0 (by omega) (by omega) (by omega) (by omega)
  simp only [st0] at hs'
  rw [hs']
  exact ⟨_, rfl, .inl ⟨hs, hf, hr, s', by simp only [st0]; exact hs', rfl⟩⟩
theorem along_false {W : Pr → Int × Bool} (hW : ∀ z, (W z).2 = false) (at_ : Int) : ∀ (xs : List Int) (s : St), along W at_ xs s = s
  | [], s => rfl
  | x :: xs, s => by
    simp only [along, upd, hW, cond_false]
    exact along_false hW at_ xs s
theorem walk_false {W : Pr → Int × Bool} (hW : ∀ z, (W z).2 = false) (L step : Int) (lens : List Int) : ∀ (m : Nat) (at_ : Int) (s s' : St), walkO W L step lens m at_ s = some s' → s' = s
  | 0, at_, s, s', h => by cases h
  | m + 1, at_, s, s', h => by
    unfold walkO at h
    split at h
    · rw [along_false hW] at h
      exact walk_false hW L step lens m _ s s' h
    · exact (Option.some.inj h).symm
theorem f23_eq {n : Nat} (hn : 20200 ≤ n) (l : List Slc) (d : List Def) (p : Pro) (r : Int × Int × Int × Int) (step fine : Int) : ∃ o, f23 n l d p r step fine = some o ∧ BestIs n l d p r step fine o := by
  have e30 : f30 fine 0 1000000 = f29 fine 0 1000000 := rfl
  have e31 : f30 step 1 20000 = f29 step 1 20000 := rfl
  unfold f23 f23G
  simp only [e30, e31, from_eq, from1_eq, f39_eq (n := n) (by omega), Option.isSome_some, Option.getD_some, chk_true]
  by_cases hs : 1 ≤ step ∧ step ≤ 20000
  case neg => rw [decide_eq_false hs]; exact ⟨_, rfl, .inr ⟨fun h => hs h.1, rfl⟩⟩
  rw [decide_eq_true hs, Bool.not_true, cond_false]
  by_cases hf : 0 ≤ fine ∧ fine ≤ 1000000
  case neg => rw [decide_eq_false hf]; exact ⟨_, rfl, .inr ⟨fun h => hf h.2.1, rfl⟩⟩
  rw [decide_eq_true hf, Bool.not_true, cond_false]
  by_cases hv : logCk l = 0 ∧ dCk d = 0 ∧ pCk p = 0
  case neg => rw [decide_eq_false hv]; exact ⟨_, rfl, .inr ⟨fun h => hv ⟨h.2.2.lc, h.2.2.dc, h.2.2.pc⟩, rfl⟩⟩
  rw [decide_eq_true hv, Bool.not_true, cond_false]
  obtain ⟨hl, hd, hp⟩ := hv
  have hw := f23L5_walk (n := n) (by omega) (r := r) hl hd hp step fine (fun v111 v112 v113 v114 => some ((v113, v114), v111, v112)) (n + 8) 0 st0
  simp only [st0] at hw
  rw [hw]
  obtain ⟨g1, g2, g3⟩ := logCk_ok hl
  have ht := total_le g3 (by omega) (by omega)
  obtain ⟨s', hs'⟩ := walk_some (lookA l d p r fine) (L := total l) (by omega) hs.1 hs.2 p.2.2.2.2.2.1 (n + 8) 0 st0 (by omega) (by omega) (by omega) (by omega)
  have hs2 := hs'
  simp only [st0] at hs'
  rw [hs']
  refine ⟨_, rfl, ?_⟩
  by_cases hr : Ready l d p r
  · exact .inl ⟨hs, hf, hr, s', hs2, rfl⟩
  · have hW : ∀ z, (lookA l d p r fine z).2 = false := by
      intro z
      unfold lookA
      rw [if_neg hr]
    have := walk_false hW (total l) step p.2.2.2.2.2.1 (n + 8) 0 st0 s' hs2
    subst this
    exact .inr ⟨fun h => hr h.2.2, rfl⟩
theorem best_unique {n : Nat} {l : List Slc} {d : List Def} {p : Pro} {r : Int × Int × Int × Int} {step fine : Int} {o o' : (Int × Int) × Int × Bool} (h : BestIs n l d p r step fine o) (h' : BestIs n l d p r step fine o') : o = o' := by
  rcases h with ⟨a1, a2, a3, s, a4, rfl⟩ | ⟨a, rfl⟩
  · rcases h' with ⟨_, _, _, s', b4, rfl⟩ | ⟨b, _⟩
    · rw [a4] at b4
      rw [Option.some.inj b4]
    · exact absurd ⟨a1, a2, a3⟩ b
  · rcases h' with ⟨b1, b2, b3, _⟩ | ⟨_, rfl⟩
    · exact absurd ⟨b1, b2, b3⟩ a
    · rfl
theorem f22_eq {n : Nat} (hn : 20200 ≤ n) (g : Giv) (r : Int × Int × Int × Int) (step : Int) : ∃ o, f22 n g r step = some o ∧ BestIs n g.1 g.2.1 (proOf g) r step g.2.2.2.2.2.2.2.2.2 o := by
  obtain ⟨o, h1, h2⟩ := f41_eq hn g.1 g.2.1 (proOf g) r step g.2.2.2.2.2.2.2.2.2
  unfold f22 f22G
  simp only [proOf] at h1
  simp only [h1, Option.isSome_some, Option.getD_some, chk_true]
  exact ⟨o, rfl, h2⟩
theorem WorthBests : WorthBestsLaw := by
  intro g r step _ _ _
  refine ⟨20200, ?_⟩
  obtain ⟨o, h1, h2⟩ := f22_eq (Nat.le_refl 20200) g r step
  obtain ⟨o', h3, h4⟩ := f23_eq (Nat.le_refl 20200) g.1 g.2.1 (proOf g) r step g.2.2.2.2.2.2.2.2.2
  have := best_unique h2 h4
  subst this
  unfold f6 f6G
  simp only [proOf] at h3
  simp only [small_eq (n := 20200) (by omega), h1, h3, Option.isSome_some, Option.getD_some, chk_true]
  cases smallB g
  · rfl
  · cases f21 step
    · rfl
    · simp
end Go.Proofs.Ytdhgbgbdnifonaa.Ev.Plain
