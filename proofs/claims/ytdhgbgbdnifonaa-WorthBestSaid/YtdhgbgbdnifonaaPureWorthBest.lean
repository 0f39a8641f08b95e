/- The best position has the worth that is returned, and no other position is better. -/
import Derived.Test.YtdhgbgbdnifonaaPureWorthBests
namespace Go.Proofs.Ytdhgbgbdnifonaa.Ev.Plain
set_option linter.unusedVariables false
set_option linter.unusedSimpArgs false
theorem lens_sorted (lens : List Int) : ∀ (r : List Int) (j : Nat), lens.drop j = r → lckL lens r j = 0 → (∀ x ∈ r, 100 ≤ x ∧ x ≤ 20000) ∧ r.Pairwise (· < ·) ∧ (0 < j → ∀ x ∈ r, lens.getD (j - 1) 0 < x)
  | [], j, _, _ => ⟨by simp, List.Pairwise.nil, by simp⟩
  | x :: r, j, h, hc => by
    obtain ⟨h1, h2, h3⟩ := drop_cons h
    simp only [lckL] at hc
    split at hc
    · cases hc
    · split at hc
      · cases hc
      · split at hc
        · cases hc
        · rename_i c1 c2 c3
          obtain ⟨i1, i2, i3⟩ := lens_sorted lens r (j + 1) h3 hc
          have i4 := i3 (by omega)
          rw [Nat.add_sub_cancel, h2 0] at i4
          refine ⟨fun y hy => ?_, List.Pairwise.cons i4 i2, fun hj y hy => ?_⟩
          · rcases List.mem_cons.1 hy with rfl | hy
            · omega
            · exact i1 y hy
          · have hx : lens.getD (j - 1) 0 < x := by
              apply Classical.byContradiction
              intro hn
              exact c3 ⟨hj, by omega⟩
            rcases List.mem_cons.1 hy with rfl | hy
            · exact hx
            · have := i4 y hy
              omega
theorem pro_lens {p : Pro} (h : pCk p = 0) : p.2.2.2.2.2.1 ≠ [] ∧ (∀ x ∈ p.2.2.2.2.2.1, 100 ≤ x ∧ x ≤ 20000) ∧ p.2.2.2.2.2.1.Pairwise (· < ·) := by
  unfold pCk at h
  cases c1 : nameB p.1
  · rw [c1] at h; cases h
  rw [c1] at h
  cases c2 : sizedB p
  · rw [c2] at h; cases h
  rw [c2] at h
  simp only [Bool.not_true, cond_false] at h
  unfold lCk at h
  split at h
  · cases h
  · rename_i g1
    split at h
    · cases h
    · split at h
      · cases h
      · split at h
        · contradiction
        · rename_i g4
          have := lens_sorted p.2.2.2.2.2.1 p.2.2.2.2.2.1 0 rfl (by simpa using g4)
          exact ⟨fun e => g1 (by rw [e]; rfl), this.1, this.2.1⟩
structure Inv (W : Pr → Int × Bool) (V : Int → Int → Prop) (s : St) : Prop where
  found : s.f = true → ∃ a x, V a x ∧ s.a = a ∧ s.b = a + x ∧ W (s.a, s.b) = (s.v, true)
  none : s.f = false → s = st0
  best : ∀ a x, V a x → (W (a, a + x)).2 = true → s.f = true ∧ ((W (a, a + x)).1 < s.v ∨ ((W (a, a + x)).1 = s.v ∧ (s.a < a ∨ (s.a = a ∧ s.b ≤ a + x))))
theorem Inv.upd {W : Pr → Int × Bool} {V : Int → Int → Prop} {s : St} (h : Inv W V s) {at_ x : Int} (h0 : 0 ≤ at_ ∧ at_ ≤ 20000) (hx : 0 ≤ x ∧ x ≤ 20000) (ho : ∀ a y, V a y → a < at_ ∨ (a = at_ ∧ y ≤ x)) : Inv W (fun a y => V a y ∨ (a = at_ ∧ y = x)) (upd W at_ x s) := by
  have e : IntKind.i64.wrap (at_ + x) = at_ + x := wrap_of (by omega) (by omega)
  unfold Plain.upd
  rw [e]
  cases c : (W (at_, at_ + x)).2
  · rw [cond_false]
    refine ⟨fun hf => ?_, h.none, fun a y hv hw => ?_⟩
    · obtain ⟨a, y, k1, k2⟩ := h.found hf
      exact ⟨a, y, .inl k1, k2⟩
    · rcases hv with hv | ⟨rfl, rfl⟩
      · exact h.best a y hv hw
      · rw [c] at hw; cases hw
  rw [cond_true]
  have hnew : W (at_, at_ + x) = ((W (at_, at_ + x)).1, true) := by rw [← c]
  cases hf : s.f
  · rw [Bool.not_false, cond_true]
    refine ⟨fun _ => ⟨at_, x, .inr ⟨rfl, rfl⟩, rfl, rfl, hnew⟩, fun q => (by cases q), fun a y hv hw => ?_⟩
    rcases hv with hv | ⟨rfl, rfl⟩
    · have := (h.best a y hv hw).1
      rw [hf] at this
      cases this
    · exact ⟨rfl, .inr ⟨rfl, .inr ⟨rfl, Int.le_refl _⟩⟩⟩
  · rw [Bool.not_true, cond_false]
    by_cases hv : (W (at_, at_ + x)).1 > s.v
    · rw [decide_eq_true hv, cond_true]
      refine ⟨fun _ => ⟨at_, x, .inr ⟨rfl, rfl⟩, rfl, rfl, hnew⟩, fun q => (by cases q), fun a y hv' hw => ?_⟩
      rcases hv' with hv' | ⟨rfl, rfl⟩
      · have := (h.best a y hv' hw).2
        refine ⟨rfl, .inl ?_⟩
        show (W (a, a + y)).1 < (W (at_, at_ + x)).1
        omega
      · exact ⟨rfl, .inr ⟨rfl, .inr ⟨rfl, Int.le_refl _⟩⟩⟩
    · rw [decide_eq_false hv, cond_false]
      refine ⟨fun hf => ?_, h.none, fun a y hv' hw => ?_⟩
      · obtain ⟨a, y, k1, k2⟩ := h.found hf
        exact ⟨a, y, .inl k1, k2⟩
      · rcases hv' with hv' | ⟨rfl, rfl⟩
        · exact h.best a y hv' hw
        · obtain ⟨a', y', k1, k2, k3, k4⟩ := h.found hf
          have ko := ho a' y' k1
          refine ⟨hf, ?_⟩
          rw [k2, k3]
          by_cases hlt : (W (a, a + y)).1 < s.v
          · exact .inl hlt
          · refine .inr ⟨by omega, ?_⟩
            rcases ko with ko | ⟨rfl, ko⟩
            · exact .inl ko
            · exact .inr ⟨rfl, by omega⟩
theorem Inv.along {W : Pr → Int × Bool} {at_ : Int} (h0 : 0 ≤ at_ ∧ at_ ≤ 20000) : ∀ (xs : List Int) {V : Int → Int → Prop} {s : St}, (∀ x ∈ xs, 0 ≤ x ∧ x ≤ 20000) → xs.Pairwise (· < ·) → (∀ x ∈ xs, ∀ a y, V a y → a < at_ ∨ (a = at_ ∧ y ≤ x)) → Inv W V s → Inv W (fun a y => V a y ∨ (a = at_ ∧ y ∈ xs)) (along W at_ xs s)
  | [], V, s, _, _, _, h => ⟨fun hf => let ⟨a, x, k1, k2⟩ := h.found hf; ⟨a, x, .inl k1, k2⟩, h.none, fun a y hv hw => h.best a y (hv.resolve_right (by simp)) hw⟩
  | x :: xs, V, s, hx, hp, ho, h => by
    have h1 := h.upd h0 (hx x (by simp)) (ho x (by simp))
    obtain ⟨p1, p2⟩ := List.pairwise_cons.1 hp
    have h2 := Inv.along h0 xs (fun y hy => hx y (by simp [hy])) p2 (fun y hy a z hv => by
      rcases hv with hv | ⟨rfl, rfl⟩
      · exact ho y (by simp [hy]) a z hv
      · have := p1 y hy
        exact .inr ⟨rfl, by omega⟩) h1
    refine ⟨fun hf => ?_, h2.none, fun a y hv hw => h2.best a y ?_ hw⟩
    · obtain ⟨a, y, k1, k2⟩ := h2.found hf
      refine ⟨a, y, ?_, k2⟩
      rcases k1 with (k1 | ⟨rfl, rfl⟩) | ⟨rfl, k1⟩
      · exact .inl k1
      · exact .inr ⟨rfl, by simp⟩
      · exact .inr ⟨rfl, by simp [k1]⟩
    · rcases hv with hv | ⟨rfl, hv⟩
      · exact .inl (.inl hv)
      · rcases List.mem_cons.1 hv with rfl | hv
        · exact .inl (.inr ⟨rfl, rfl⟩)
        · exact .inr ⟨rfl, hv⟩
def Seen (lens : List Int) (step at_ : Int) (a y : Int) : Prop := 0 ≤ a ∧ a < at_ ∧ (∃ k : Int, a = step * k) ∧ y ∈ lens
theorem Inv.same {W : Pr → Int × Bool} {V V' : Int → Int → Prop} {s : St} (h : Inv W V s) (hv : ∀ a y, V a y ↔ V' a y) : Inv W V' s :=
  ⟨fun hf => let ⟨a, x, k1, k2⟩ := h.found hf; ⟨a, x, (hv a x).1 k1, k2⟩, h.none, fun a y q hw => h.best a y ((hv a y).2 q) hw⟩
theorem Inv.walk {W : Pr → Int × Bool} {L step : Int} (hL : L ≤ 20000) (h1 : 1 ≤ step) (h2 : step ≤ 20000) {lens : List Int} (hx : ∀ x ∈ lens, 0 ≤ x ∧ x ≤ 20000) (hp : lens.Pairwise (· < ·)) : ∀ (m : Nat) (at_ : Int) (s s' : St), 0 ≤ at_ → (∃ k : Int, at_ = step * k) → Inv W (Seen lens step at_) s → walkO W L step lens m at_ s = some s' → ∃ at', L ≤ at' ∧ Inv W (Seen lens step at') s'
  | 0, at_, s, s', _, _, _, h => by cases h
  | m + 1, at_, s, s', h0, hk, hi, h => by
    unfold walkO at h
    split at h
    · rename_i hlt
      have e : IntKind.i64.wrap (at_ + step) = at_ + step := wrap_of (by omega) (by omega)
      rw [e] at h
      obtain ⟨k, rfl⟩ := hk
      refine Inv.walk hL h1 h2 hx hp m (step * k + step) _ s' (by omega) ⟨k + 1, by rw [Int.mul_add, Int.mul_one]⟩ ?_ h
      refine (hi.along ⟨h0, by omega⟩ lens hx hp (fun x hx a y hv => .inl hv.2.1)).same fun a y => ?_
      constructor
      · rintro (⟨q1, q2, q3, q4⟩ | ⟨rfl, q⟩)
        · exact ⟨q1, by omega, q3, q4⟩
        · exact ⟨h0, by omega, ⟨k, rfl⟩, q⟩
      · rintro ⟨q1, q2, ⟨j, rfl⟩, q4⟩
        have hjk : j ≤ k := by
          apply Classical.byContradiction
          intro hn
          have h3 : k + 1 ≤ j := by omega
          have h4 := Int.mul_le_mul_of_nonneg_left h3 (show 0 ≤ step by omega)
          rw [Int.mul_add, Int.mul_one] at h4
          omega
        by_cases hj : j = k
        · exact .inr ⟨by rw [hj], q4⟩
        · have h3 : j + 1 ≤ k := by omega
          have h4 := Int.mul_le_mul_of_nonneg_left h3 (show 0 ≤ step by omega)
          rw [Int.mul_add, Int.mul_one] at h4
          exact .inl ⟨q1, by omega, ⟨j, rfl⟩, q4⟩
    · have := Option.some.inj h
      subst this
      exact ⟨at_, by omega, hi⟩
theorem u64_is (n : Int) : IntKind.u64.wrap n = n % 18446744073709551616 := by
  have h1 : IntKind.u64.signed = false := rfl
  have h2 : IntKind.u64.bits = 64 := rfl
  have p1 : (2 : Int) ^ 64 = 18446744073709551616 := by decide
  unfold IntKind.wrap
  simp only [h1, h2, p1, Bool.false_and]
  rfl
/-- What is known of Best's answer. -/
structure Known (l : List Slc) (d : List Def) (p : Pro) (r : Int × Int × Int × Int) (step fine : Int) (o : (Int × Int) × Int × Bool) : Prop where
  yes : o.2.2 = true → 1 ≤ step ∧ worthOf l d p (r.1, r.2.1, r.2.2.1, r.2.2.2, o.1.1, o.1.2) fine = (o.2.1, true) ∧ ∃ k : Int, o.1.1 = step * k
  no : o.2.2 = false → o = ((0, 0), 0, false)
  best : ∀ a x, 1 ≤ step → step ≤ 20000 → 0 ≤ a → (∃ k : Int, a = step * k) → x ∈ p.2.2.2.2.2.1 → (worthOf l d p (r.1, r.2.1, r.2.2.1, r.2.2.2, a, a + x) fine).2 = true → o.2.2 = true ∧ ((worthOf l d p (r.1, r.2.1, r.2.2.1, r.2.2.2, a, a + x) fine).1 < o.2.1 ∨ ((worthOf l d p (r.1, r.2.1, r.2.2.1, r.2.2.2, a, a + x) fine).1 = o.2.1 ∧ (o.1.1 < a ∨ (o.1.1 = a ∧ o.1.2 ≤ a + x))))
theorem known_of {n : Nat} {l : List Slc} {d : List Def} {p : Pro} {r : Int × Int × Int × Int} {step fine : Int} {o : (Int × Int) × Int × Bool} (h : BestIs n l d p r step fine o) : Known l d p r step fine o := by
  rcases h with ⟨⟨s1, s2⟩, hf, hr, s, hs, rfl⟩ | ⟨hn, rfl⟩
  · obtain ⟨g1, g2, g3⟩ := logCk_ok hr.lc
    have ht := total_le g3 (by omega) (by omega)
    obtain ⟨_, hx, hp⟩ := pro_lens hr.pc
    have hw : ∀ z : Pr, worthOf l d p (r.1, r.2.1, r.2.2.1, r.2.2.2, z.1, z.2) fine = lookA l d p r fine z := by
      intro z
      rw [lookA_ready hr, worthOf, if_pos ⟨hf, hr⟩]
    obtain ⟨at', ha, hi⟩ := Inv.walk (W := lookA l d p r fine) (L := total l) (by omega) s1 s2 (fun x h => by have := hx x h; omega) hp (n + 8) 0 st0 s (by omega) ⟨0, by omega⟩ ⟨fun q => (by cases q), fun _ => rfl, fun a y hv _ => by obtain ⟨q1, q2, _⟩ := hv; omega⟩ hs
    refine ⟨fun q => ?_, fun q => ?_, fun a x _ _ a0 hk hx' hw' => ?_⟩
    · obtain ⟨a, x, ⟨_, _, k3, _⟩, k4, k5, k6⟩ := hi.found q
      refine ⟨s1, (hw (s.a, s.b)).trans k6, ?_⟩
      show ∃ k, s.a = step * k
      rw [k4]
      exact k3
    · have := hi.none q
      rw [this]
      rfl
    · have e := hw (a, a + x)
      simp only at e
      rw [e] at hw' ⊢
      have hlt : a < total l := by
        rw [lookA_ready hr] at hw'
        unfold lookW at hw'
        split at hw'
        · rename_i hfit
          have h1 := hfit.z1
          have h2 := hfit.z2
          simp only at h1 h2
          omega
        · cases hw'
      exact hi.best a x ⟨a0, by omega, hk, hx'⟩ hw'
  · refine ⟨fun q => by (simp at q), fun _ => rfl, fun a x h1 h2 _ _ _ hw' => ?_⟩
    have := worth_ok.1 hw'
    exact absurd ⟨⟨h1, h2⟩, this.1, this.2.1⟩ hn
/-- What the law does behind its first questions. -/
def tailE (n : Nat) (a0 : Giv) (a1 : Int × Int × Int × Int) (a2 : Int × Int × Int) (v5 : (Int × Int) × Int × Bool) : Option Bool :=
  bif decide (a2.1 < 1) then
    some true
  else
    bif decide (a2.1 > 20000) then
      some true
    else
      bif decide (a2.2.1 < 0) then
        some true
      else
        bif decide (a2.2.1 > 20000) then
          some true
        else
          bif ((a0.2.2.2.2.2.2.2.1.length : Int) == 0) then
            some true
          else
            chk (!decide (a2.1 = 0)) <|
            let v42 : Int := IntKind.i64.wrap (a2.2.1.tdiv a2.1)
            let v43 : Int := IntKind.i64.wrap (v42 * a2.1)
            let v44 : Int := IntKind.u64.wrap a2.2.2
            let v45 : Int := IntKind.u64.wrap (a0.2.2.2.2.2.2.2.1.length : Int)
            chk (!decide (v45 = 0)) <|
            let v46 : Int := v44.tmod v45
            let v47 : Int := IntKind.i64.wrap v46
            chk (decide ((0 : Int) ≤ v47)) <|
            chk (decide (v47 < (a0.2.2.2.2.2.2.2.1.length : Int))) <|
            let v48 : Int := a0.2.2.2.2.2.2.2.1.getD (Int.toNat v47) (0 : Int)
            bif decide (v48 < 0) then
              some true
            else
              bif decide (v48 > 20000) then
                some true
              else
                let v49 : Int := IntKind.i64.wrap (v43 + v48)
                let v50 : Option (Int × Bool) := f17 n a0 (a1.1, a1.2.1, a1.2.2.1, a1.2.2.2, v43, v49)
                chk (v50.isSome) <|
                let v51 : Int × Bool := v50.getD ((0 : Int), false)
                bif (!v51.2) then
                  bif (v51.1 == 0) then
                    some true
                  else
                    some false
                else
                  bif (!v5.2.2) then
                    some false
                  else
                    bif decide (v51.1 > v5.2.1) then
                      some false
                    else
                      bif decide (v51.1 < v5.2.1) then
                        some true
                      else
                        bif decide (v5.1.1 < v43) then
                          some true
                        else
                          bif (v5.1.1 == v43) then
                            let v52 : Int := IntKind.i64.wrap (v43 + v48)
                            bif decide (v5.1.2 ≤ v52) then
                              some true
                            else
                              some false
                          else
                            some false
theorem tail_true {g : Giv} {r : Int × Int × Int × Int} {t : Int × Int × Int} {o : (Int × Int) × Int × Bool} (hK : Known g.1 g.2.1 (proOf g) r t.1 g.2.2.2.2.2.2.2.2.2 o) (hlen : g.2.2.2.2.2.2.2.1.length ≤ 10) : tailE 20200 g r t o = some true := by
  unfold tailE
  simp only [bif_if, f17_eq (Nat.le_refl 20200 |> fun _ => (by omega : 200 ≤ 20200)), Option.isSome_some, Option.getD_some, chk_true]
  by_cases h1 : t.1 < 1
  · rw [if_pos h1]
  rw [if_neg h1]
  by_cases h2 : t.1 > 20000
  · rw [if_pos h2]
  rw [if_neg h2]
  by_cases h3 : t.2.1 < 0
  · rw [if_pos h3]
  rw [if_neg h3]
  by_cases h4 : t.2.1 > 20000
  · rw [if_pos h4]
  rw [if_neg h4]
  by_cases h5 : g.2.2.2.2.2.2.2.1.length = 0
  · have e : ((g.2.2.2.2.2.2.2.1.length : Int) == 0) = true := by rw [h5]; rfl
    rw [e, cond_true]
  have e5 : ((g.2.2.2.2.2.2.2.1.length : Int) == 0) = false := by simp only [beq_eq_false_iff_ne, ne_eq]; omega
  rw [e5, cond_false]
  have c1 : (!decide (t.1 = 0)) = true := by simp; omega
  have d0 : 0 ≤ t.2.1.tdiv t.1 := Int.tdiv_nonneg (by omega) (by omega)
  have d1 : t.2.1.tdiv t.1 = t.2.1 / t.1 := Int.tdiv_eq_ediv_of_nonneg (by omega)
  have d2 : t.2.1 / t.1 * t.1 ≤ t.2.1 := Int.ediv_mul_le _ (by omega)
  have d3 : t.2.1 / t.1 ≤ t.2.1 := Int.ediv_le_self _ (by omega)
  have d4 : 0 ≤ t.2.1 / t.1 * t.1 := Int.mul_nonneg (by omega) (by omega)
  have w1 : IntKind.i64.wrap (t.2.1.tdiv t.1) = t.2.1 / t.1 := by rw [d1]; exact wrap_of (by omega) (by omega)
  have w2 : IntKind.i64.wrap (t.2.1 / t.1 * t.1) = t.2.1 / t.1 * t.1 := wrap_of (by omega) (by omega)
  have w3 : IntKind.u64.wrap (g.2.2.2.2.2.2.2.1.length : Int) = (g.2.2.2.2.2.2.2.1.length : Int) := by rw [u64_is]; omega
  have w4 := u64_is t.2.2
  have c2 : (!decide ((g.2.2.2.2.2.2.2.1.length : Int) = 0)) = true := by rw [decide_eq_false (by omega)]; rfl
  have m0 : 0 ≤ IntKind.u64.wrap t.2.2 := by rw [w4]; exact Int.emod_nonneg _ (by decide)
  have m1 : 0 ≤ (IntKind.u64.wrap t.2.2).tmod (g.2.2.2.2.2.2.2.1.length : Int) := Int.tmod_nonneg _ m0
  have m2 : (IntKind.u64.wrap t.2.2).tmod (g.2.2.2.2.2.2.2.1.length : Int) < (g.2.2.2.2.2.2.2.1.length : Int) := Int.tmod_lt_of_pos _ (by omega)
  simp only [w1, w2, w3, c1, c2, chk_true]
  generalize (IntKind.u64.wrap t.2.2).tmod (g.2.2.2.2.2.2.2.1.length : Int) = i at m1 m2
  have w5 : IntKind.i64.wrap i = i := wrap_of (by omega) (by omega)
  have c3 : decide ((0 : Int) ≤ i) = true := decide_eq_true m1
  have c4 : decide (i < (g.2.2.2.2.2.2.2.1.length : Int)) = true := decide_eq_true m2
  simp only [w5, c3, c4, chk_true]
  have hx : g.2.2.2.2.2.2.2.1.getD (Int.toNat i) 0 ∈ (proOf g).2.2.2.2.2.1 := by
    rw [List.getD_eq_getElem?_getD, List.getElem?_eq_getElem (by omega)]
    exact List.getElem_mem _
  generalize g.2.2.2.2.2.2.2.1.getD (Int.toNat i) 0 = x at hx
  by_cases h6 : x < 0
  · rw [if_pos h6]
  rw [if_neg h6]
  by_cases h7 : x > 20000
  · rw [if_pos h7]
  rw [if_neg h7]
  have hk : ∃ k : Int, t.2.1 / t.1 * t.1 = t.1 * k := ⟨t.2.1 / t.1, Int.mul_comm _ _⟩
  generalize t.2.1 / t.1 * t.1 = a at d2 d4 w2 hk
  have w6 : IntKind.i64.wrap (a + x) = a + x := wrap_of (by omega) (by omega)
  have hb := hK.best a x (by omega) (by omega) d4 hk hx
  simp only [w6]
  generalize hW : worthOf g.1 g.2.1 (proOf g) (r.1, r.2.1, r.2.2.1, r.2.2.2, a, a + x) g.2.2.2.2.2.2.2.2.2 = w at hb
  cases hw : w.2
  · have h0 : w.1 = 0 := by
      rw [← hW] at hw ⊢
      unfold worthOf lookW at hw ⊢
      split at hw
      · rename_i k1
        rw [if_pos k1]
        split at hw
        · cases hw
        · rename_i k2
          rw [if_neg k2]
      · rename_i k1
        rw [if_neg k1]
    rw [h0]
    rfl
  · obtain ⟨b1, b2⟩ := hb hw
    rw [b1]
    simp only [Bool.not_true, cond_false]
    rw [if_neg (show ¬ w.1 > o.2.1 by omega)]
    by_cases h8 : w.1 < o.2.1
    · rw [if_pos h8]
    rw [if_neg h8]
    have b3 := b2.resolve_left h8
    by_cases h9 : o.1.1 < a
    · rw [if_pos h9]
    rw [if_neg h9]
    obtain ⟨b4, b5⟩ := b3.2.resolve_left h9
    have e9 : (o.1.1 == a) = true := by simp [b4]
    rw [e9, cond_true, if_pos b5]
theorem WorthBest : WorthBestLaw := by
  intro g r t _ _ _
  refine ⟨20200, ?_⟩
  obtain ⟨o, h1, h2⟩ := f22_eq (Nat.le_refl 20200) g r t.1
  have hK := known_of h2
  unfold f7 f7G
  simp only [small_eq (n := 20200) (by omega), h1, Option.isSome_some, Option.getD_some, chk_true]
  cases hs : smallB g
  · rfl
  cases f21 t.1
  · rfl
  have hlen : g.2.2.2.2.2.2.2.1.length ≤ 10 := by
    unfold smallB at hs
    simp at hs
    omega
  have ht := tail_true hK hlen
  have e17 := f17_eq (n := 20200) (by omega) g (r.1, r.2.1, r.2.2.1, r.2.2.2, o.1.1, o.1.2)
  simp only [e17, Option.isSome_some, Option.getD_some, chk_true, Bool.not_true, cond_false]
  cases ho : o.2.2
  · have hno := hK.no ho
    have e1 : (o.2.1 != 0) = false := by rw [hno]; rfl
    have e2 : (!((o.1.1 == 0) && ((o.1.2 == 0) && true))) = false := by rw [hno]; rfl
    simp only [Bool.not_false, cond_true, cond_false, e1, e2]
    unfold tailE at ht
    rw [ho] at ht
    exact ht
  · obtain ⟨s1, y1, k, y2⟩ := hK.yes ho
    have e1 : (o.2.1 != o.2.1) = false := by simp
    have e2 : decide (t.1 < 1) = false := decide_eq_false (by omega)
    have e3 : (!decide (t.1 = 0)) = true := by simp; omega
    have e4 : o.1.1.tmod t.1 = 0 := by rw [y2]; exact Int.mul_tmod_right _ _
    have e5 : ((0 : Int) != 0) = false := rfl
    have e6 : worthOf g.1 g.2.1 (proOf g) (r.1, r.2.1, r.2.2.1, r.2.2.2, o.1.1, o.1.2) g.2.2.2.2.2.2.2.2.2 = (o.2.1, true) := y1
    simp only [e6, e1, e3, e4, e5, Bool.not_true, cond_true, cond_false, chk_true]
    unfold tailE at ht
    rw [ho, e2] at ht
    simp only [e2, e3, Bool.not_true, cond_true, cond_false, chk_true] at ht ⊢
    exact ht
end Go.Proofs.Ytdhgbgbdnifonaa.Ev.Plain
