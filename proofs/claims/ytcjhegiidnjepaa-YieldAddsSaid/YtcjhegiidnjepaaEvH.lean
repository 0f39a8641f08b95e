/- append, as an operation. -/
import Derived.Test.YtcjhegiidnjepaaEvG
namespace Go.Proofs.Ytcjhegiidnjepaa.Ev
open Go.RowKit
set_option linter.unusedVariables false
set_option linter.unusedSimpArgs false

theorem castRow_inv {r t : Row} {l : List (Row.T r)} {l' : List (Row.T t)} (h : castRow l = some l') : r = t ∧ HEq l l' := by
  unfold castRow at h
  split at h
  case isFalse => exact (none_some h).elim
  case isTrue hb =>
    have := Row.eq_of_beq hb
    subst this
    exact ⟨rfl, heq_of_eq (Option.some.inj h)⟩
theorem putB_two (bl : Bls) (b n : Nat) (x : Blk) (c : Nat) : get (putB bl [(b, none), (n, some x)]) c = if c = n then some x else if c = b then none else get bl c := by
  simp only [putB, get_setB, get_delB]
section
variable {P : Program} {X : Fix} {U : Nat → Prop} {dst : Option Tmp} {ty : TypeId} {pos : String} {af : Array Edge} {gd : Option (Nat × Bool)} {s : Sx} {a : Act} {w : World} {g : Gh} {e : Eff} {V : Vw}
theorem own_row (h : Sim X U s a w g) {b : Nat} {r : Row} {l : List (Row.T r)} (hb : get s.bl b = some (.row r l)) {u : Value} (hu : Rep0 w g (.own b) u) :
    (u = .slice none 0 0 ∧ l = [] ∧ g.at_ b = none) ∨ ∃ B arr el, g.at_ b = some B ∧ u = .slice (some ⟨B, 0, none⟩) l.length (g.cap b) ∧ w.heap[B]? = some (.cells arr el (0, 0)) ∧ arr.size = g.cap b * Row.size r ∧ l.length ≤ g.cap b ∧ g.cap b ≤ maxLen ∧ (∀ i x, l[i]? = some x → RepRow w g.prot r x (fun o u => arr[o]? = some u) (i * Row.size r)) ∧ ∀ o, g.prot B o → o < l.length * Row.size r := by
  obtain ⟨h1, h2, h3⟩ := h.blk b _ hb
  simp only [Rep0] at hu
  cases hB : g.at_ b with
  | none => rw [hB] at hu; exact .inl ⟨hu.1, h2 hB, rfl⟩
  | some B =>
    rw [hB] at hu
    obtain ⟨arr, el, e1, e2, e3, e4, e5⟩ := h3 B hB
    exact .inr ⟨B, arr, el, rfl, by rw [← h1]; exact hu, e1, e2, e3.1, e3.2, e4, e5⟩
/-- A list that is told, as cells. -/
theorem listOf_ok (h : Hyp P X U V s a w g) {r : Row} {x : AV} {l : List (Row.T r)} {u : Value} (hx : Rep w g x u) (hl : listOf V.rd r x = some l) :
    ∃ (A : Option Addr) (c : Nat) (news : List Value), u = .slice A l.length c ∧ news.length = l.length * Row.size r ∧ (∀ v ∈ news, v.oneCell' = true) ∧ (0 < l.length → ∃ B o, A = some ⟨B, o, none⟩ ∧ ∀ j v, news[j]? = some v → w.cell? ⟨B, o + j, none⟩ = some v) ∧
      ∀ (q : Nat → Value → Prop) (o : Nat), (∀ j v, news[j]? = some v → q (o + j) v) → ∀ i y, l[i]? = some y → RepRow w g.prot r y q (o + i * Row.size r) := by
  have nil : ∀ {A : Option Addr} {c : Nat} {l : List (Row.T r)}, l = [] → u = .slice A 0 c → ∃ (A : Option Addr) (c : Nat) (news : List Value), u = .slice A l.length c ∧ news.length = l.length * Row.size r ∧ (∀ v ∈ news, v.oneCell' = true) ∧ (0 < l.length → ∃ B o, A = some ⟨B, o, none⟩ ∧ ∀ j v, news[j]? = some v → w.cell? ⟨B, o + j, none⟩ = some v) ∧
      ∀ (q : Nat → Value → Prop) (o : Nat), (∀ j v, news[j]? = some v → q (o + j) v) → ∀ i y, l[i]? = some y → RepRow w g.prot r y q (o + i * Row.size r) := by
    intro A c l hl hu
    subst hl
    exact ⟨A, c, [], hu, by simp, fun v hv => by simp at hv, fun h0 => absurd h0 (by simp), fun q o _ i y hi => by simp at hi⟩
  unfold listOf at hl
  split at hl
  case h_4 => exact (none_some hl).elim
  case h_1 =>
    have := Option.some.inj hl
    have hu : u = .slice none 0 0 := hx
    exact nil this.symm hu
  case h_2 r' l' =>
    obtain ⟨rfl, hh⟩ := castRow_inv hl
    have := eq_of_heq hh
    subst this
    have hr : RepLeaf w g.prot (.sl r') l' u := hx
    obtain ⟨A, c, hu, hc, hp⟩ := hr
    by_cases h0 : 0 < List.length (α := Row.T r') l'
    · obtain ⟨B, o, hA, hq⟩ := hp h0
      obtain ⟨vs, k1, k2, k3, k4⟩ := rows_vals (w := w) (pr := g.prot) l' (q := fun j u => w.cell? ⟨B, o + j, none⟩ = some u ∧ g.prot B (o + j)) (o := 0) (fun i x hi => by rw [Nat.zero_add]; exact hq i x hi)
      exact ⟨A, c, vs, hu, k1, k3, fun _ => ⟨B, o, hA, fun j v hv => by have := (k2 j v hv).1; rwa [Nat.zero_add] at this⟩, k4⟩
    · have hn : l' = [] := List.eq_nil_of_length_eq_zero (by omega)
      exact nil (A := A) (c := c) hn (by rw [hu, hn]; rfl)
  case h_3 b =>
    split at hl
    case h_2 => exact (none_some hl).elim
    case h_1 r' l' hb =>
      obtain ⟨rfl, hh⟩ := castRow_inv hl
      have := eq_of_heq hh
      subst this
      rw [h.rd] at hb
      rcases own_row h.sim hb hx with ⟨hu, hn, _⟩ | ⟨B, arr, el, hB, hu, e1, e2, e3, e4, e5, e6⟩
      · exact nil (A := none) (c := 0) hn hu
      · obtain ⟨vs, k1, k2, k3, k4⟩ := rows_vals (w := w) (pr := g.prot) l' (q := fun o u => arr[o]? = some u) (o := 0) (fun i x hi => by rw [Nat.zero_add]; exact e5 i x hi)
        exact ⟨_, _, vs, hu, k1, k3, fun _ => ⟨B, 0, rfl, fun j v hv => by rw [cell_of_row w B _ arr el (0, 0) e1]; exact k2 j v hv⟩, k4⟩
/-- The state behind an append. -/
theorem append_sim (h : Hyp P X U V s a w g) (hd : ∀ t, dst = some t → t < X.nt) {r : Row} {l0 l : List (Row.T r)} {v u v' : Value} {w' : World} {A : Option Addr} {c : Nat} {news : List Value} {bl' : Bls} {fz' : List Nat} {B0 : Option Nat}
    (hbl : ∀ c y, c ≠ V.nm → get bl' c = some y → get s.bl c = some y ∧ ∀ B, g.at_ c = some B → B0 ≠ some B) (hbn : get bl' V.nm = some (.row r (l0 ++ l))) (hfz : ∀ c, memN fz' c = false → memN s.fz c = false)
    (hv : (v = .slice none 0 0 ∧ l0 = [] ∧ B0 = none) ∨ ∃ B cap arr el, B0 = some B ∧ ¬ X.old B ∧ v = .slice (some ⟨B, 0, none⟩) l0.length cap ∧ w.heap[B]? = some (.cells arr el (0, 0)) ∧ (∀ i x, l0[i]? = some x → RepRow w g.prot r x (fun o u => arr[o]? = some u) (i * Row.size r)) ∧ (∀ o, g.prot B o → o < l0.length * Row.size r) ∧ (memN fz' V.nm = false → ∀ o, ¬ g.prot B o))
    (hnl : news.length = l.length * Row.size r) (hrep : ∀ (q : Nat → Value → Prop) (o : Nat), (∀ j v, news[j]? = some v → q (o + j) v) → ∀ i y, l[i]? = some y → RepRow w g.prot r y q (o + i * Row.size r))
    (hres : (v = .slice none 0 0 ∧ l.length = 0 ∧ v' = .slice none 0 0 ∧ w' = w) ∨ ∃ B' cap' arr' el', Grown w w' X.old (Row.size r) l0.length l.length v v' news B' cap' arr' el') :
    ∃ g', Sim X (upto V.nm U) ⟨putD s.tm dst (.own V.nm), bl', fz', s.nx⟩ (a.put dst v') w' g' := by
  have hfresh : ¬ U V.nm := h.fresh V.nm (Nat.le_refl _) (by omega)
  rcases hres with ⟨hv0, hl0, rfl, rfl⟩ | ⟨B', cap', arr', el', G⟩
  · have hln : l = [] := List.eq_nil_of_length_eq_zero hl0
    subst hln
    have hl0n : l0 = [] := by
      rcases hv with ⟨_, hn, _⟩ | ⟨B, cap, arr, el, _, _, hv1, _⟩
      · exact hn
      · rw [hv0] at hv1; cases hv1
    subst hl0n
    refine ⟨g.setO V.nm none 0 0, ?_⟩
    have hext : GExt w' w' g (g.setO V.nm none 0 0) U := ⟨fun k o hp => ⟨rfl, hp⟩, fun b hb => by simp only [Gh.setO]; rw [if_neg (by rintro rfl; exact hfresh hb)], fun b hb => by simp only [Gh.setO]; rw [if_neg (by rintro rfl; exact hfresh hb)], fun b hb => by simp only [Gh.setO]; rw [if_neg (by rintro rfl; exact hfresh hb)]⟩
    have hat : (g.setO V.nm none 0 0).at_ V.nm = none := by simp [Gh.setO]
    have hm := h.sim.one (w' := w') (g' := g.setO V.nm none 0 0) (U' := upto1 U V.nm) V.nm (.row r ([] ++ [])) bl' fz' (fun b hb => .inl hb) (fun c y hc hy => (hbl c y hc hy).1) hbn (fun c _ hf => hfz c hf) hext (fun c y B hc hy hB => ⟨rfl, fun o ho => ho⟩)
      ⟨by simp [Gh.setO], fun _ => rfl, fun B hB => by rw [hat] at hB; cases hB⟩ (fun cs B o hx => by cases hx) (fun r l B o _ _ hB => by rw [hat] at hB; cases hB) (fun c y B _ _ _ hB => by rw [hat] at hB; cases hB) (fun B hB => by rw [hat] at hB; cases hB) (fun _ _ _ => Iff.rfl) (fun B o hp => h.sim.plt B o hp) (Unt.refl _ _) (.inr rfl) (fun cs hx => by cases hx)
    exact (hm.put (d := dst) (v := .own V.nm) (u := .slice none 0 0) hd (by simp [Rep, Rep2, Rep1, Rep0, Gh.setO]) (by intro b hb; simp only [names, names2, names1, names0, List.mem_singleton] at hb; exact .inr hb)).more (fun b hb => upto_of hb)
  · refine ⟨g.setO V.nm (some B') (l0.length + l.length) cap', ?_⟩
    have hat : (g.setO V.nm (some B') (l0.length + l.length) cap').at_ V.nm = some B' := by simp [Gh.setO]
    -- what is protected in the block stays
    have hpold : ∀ o, g.prot B' o → B0 = some B' ∧ o < l0.length * Row.size r ∧ w'.cell? ⟨B', o, none⟩ = w.cell? ⟨B', o, none⟩ := by
      intro o hp
      have hlt := h.sim.plt B' o hp
      rcases G.from_ with ⟨hge, _⟩ | ⟨cap, arr, el, hv1, hb1, hold⟩
      · omega
      · rcases hv with ⟨hv2, _⟩ | ⟨B, cap2, arr2, el2, hB0, _, hv2, hb2, _, hpl, _⟩
        · rw [hv2] at hv1; cases hv1
        · rw [hv2] at hv1
          cases hv1
          have ho := hpl o hp
          exact ⟨hB0, ho, by rw [cell_of_row w' B' o arr' el' (0, 0) G.blk, cell_of_row w B' o arr el (0, 0) hb1, hold o ho]⟩
    have hext : GExt w w' g (g.setO V.nm (some B') (l0.length + l.length) cap') U := by
      refine ⟨fun k o hp => ⟨?_, hp⟩, fun b hb => by simp only [Gh.setO]; rw [if_neg (by rintro rfl; exact hfresh hb)], fun b hb => by simp only [Gh.setO]; rw [if_neg (by rintro rfl; exact hfresh hb)], fun b hb => by simp only [Gh.setO]; rw [if_neg (by rintro rfl; exact hfresh hb)]⟩
      by_cases hk : k = B'
      · subst hk; exact (hpold o hp).2.2
      · exact cell_same (G.old k (h.sim.plt k o hp) hk) o
    have hother : ∀ c y B, c ≠ V.nm → get bl' c = some y → g.at_ c = some B → B ≠ B' := by
      rintro c y B hc hy hB rfl
      obtain ⟨h1, h2⟩ := hbl c y hc hy
      have hlt := BlkRep.lt h.sim h1 hB
      rcases G.from_ with ⟨hge, _⟩ | ⟨cap, arr, el, hv1, _, _⟩
      · omega
      · rcases hv with ⟨hv2, _⟩ | ⟨B2, cap2, arr2, el2, hB0, _, hv2, _⟩
        · rw [hv2] at hv1; cases hv1
        · rw [hv2] at hv1
          cases hv1
          exact h2 _ hB hB0
    have hm := h.sim.one (w' := w') (g' := g.setO V.nm (some B') (l0.length + l.length) cap') (U' := upto1 U V.nm) V.nm (.row r (l0 ++ l)) bl' fz' (fun b hb => .inl hb) (fun c y hc hy => (hbl c y hc hy).1) hbn (fun c _ hf => hfz c hf) hext
      (fun c y B hc hy hB => ⟨G.old B (BlkRep.lt h.sim (hbl c y hc hy).1 hB) (hother c y B hc hy hB), fun o ho => ho⟩)
      ⟨by simp [Gh.setO], fun hn => absurd (hat.symm.trans hn) (by simp), fun B hB => by
        rw [hat] at hB
        cases hB
        refine ⟨arr', el', G.blk, by simp only [Gh.setO, if_true]; exact G.csz, ⟨by simp only [Gh.setO, if_true, List.length_append]; exact G.le, by simp only [Gh.setO, if_true]; exact G.max⟩, fun i x hi => ?_, fun o ho => ?_⟩
        · by_cases hil : i < l0.length
          · rw [List.getElem?_append_left hil] at hi
            have hold : ∃ B arr el, v = .slice (some ⟨B, 0, none⟩) l0.length (match v with | .slice _ _ c => c | _ => 0) ∧ w.heap[B]? = some (.cells arr el (0, 0)) ∧ ∀ j, j < l0.length * Row.size r → arr'[j]? = arr[j]? := by
              rcases G.from_ with ⟨_, hz | ⟨B, cap, arr, el, hv1, hb1, ho⟩⟩ | ⟨cap, arr, el, hv1, hb1, ho⟩
              · omega
              · exact ⟨B, arr, el, by rw [hv1], hb1, ho⟩
              · exact ⟨B', arr, el, by rw [hv1], hb1, ho⟩
            obtain ⟨B, arr, el, hv1, hb1, ho⟩ := hold
            rcases hv with ⟨hv2, hn, _⟩ | ⟨B2, cap2, arr2, el2, hB0, _, hv2, hb2, hrow, _, _⟩
            · subst hn; simp at hil
            · rw [hv2] at hv1
              cases hv1
              rw [hb1] at hb2
              cases hb2
              refine RepRow.keepB hext.keep (fun o u h1 h2 hq => ?_) (hrow i x hi)
              rw [ho o ?_]
              · exact hq
              · calc o < i * Row.size r + Row.size r := h2
                  _ = (i + 1) * Row.size r := by rw [Nat.add_mul, Nat.one_mul]
                  _ ≤ l0.length * Row.size r := Nat.mul_le_mul_right _ hil
          · rw [List.getElem?_append_right (by omega)] at hi
            have hr := hrep (fun o u => arr'[o]? = some u) (l0.length * Row.size r) (fun j v hj => by
              have hjl := (List.getElem?_eq_some_iff.1 hj).1
              show arr'[_]? = some v
              rw [G.new j (by rw [← hnl]; exact hjl)]
              exact hj) (i - l0.length) x hi
            rw [← Nat.add_mul, show l0.length + (i - l0.length) = i by omega] at hr
            exact RepRow.keep hext.keep (fun _ _ hq => hq) hr
        · have := (hpold o ho).2.1
          rw [List.length_append, Nat.add_mul]
          omega⟩
      (fun cs B o hx => by cases hx)
      (fun r' l' B o _ hf hB hp => by
        rw [hat] at hB
        cases hB
        rcases hv with ⟨_, _, hB0⟩ | ⟨B2, cap2, arr2, el2, hB0, _, hv2, hb2, hrow, _, hnf⟩
        · have := (hpold o hp).1; rw [hB0] at this; cases this
        · have := (hpold o hp).1
          rw [hB0] at this
          cases this
          exact hnf hf o hp)
      (fun c y B hc hy hB hB2 => by
        rw [hat] at hB2
        exact hother c y B hc hy hB (Option.some.inj hB2).symm)
      (fun B hB => by
        rw [hat] at hB
        cases hB
        rcases G.from_ with ⟨hge, _⟩ | ⟨cap, arr, el, hv1, _, _⟩
        · exact fun hO => absurd (h.sim.blt _ hO) (Nat.not_lt.2 hge)
        · rcases hv with ⟨hv2, _⟩ | ⟨B2, cap2, arr2, el2, hB0, hbase, hv2, _⟩
          · rw [hv2] at hv1; cases hv1
          · rw [hv2] at hv1
            cases hv1
            exact hbase)
      (fun _ _ _ => Iff.rfl) (fun B o hp => Nat.lt_of_lt_of_le (h.sim.plt B o hp) G.below.size) G.below (.inr rfl) (fun cs hx => by cases hx)
    exact (hm.put (d := dst) (v := .own V.nm) (u := v') hd (by rw [G.val]; simp [Rep, Rep2, Rep1, Rep0, Gh.setO]) (by intro b hb; simp only [names, names2, names1, names0, List.mem_singleton] at hb; exact .inr hb)).more (fun b hb => upto_of hb)
theorem oCall_append (h : Hyp P X U V s a w g) (hd : ∀ t, dst = some t → t < X.nt) {c : Call} (hc : c.callee = .builtin .append) (he : oCall V c some = some e) : OpOk P X U ⟨dst, .call c, ty, pos, af, gd⟩ s a w V.nm e := by
  have ho := opnds_rep h c.args.toList
  unfold oCall at he
  rw [hc] at he
  simp only at he
  split at he
  case h_2 => cases he
  case h_1 sT xT sv xv h1 h2 =>
    obtain ⟨ht, he1⟩ := chk_some he
    replace he := he1
    clear he1
    have ht := Nat.eq_of_beq_eq_true ht
    subst ht
    split at he
    case h_2 => cases he
    case h_1 ee hel =>
      obtain ⟨el, hu, hee⟩ := elemOf_inv h.hT hel
      split at he
      case h_2 => cases he
      case h_1 r hr =>
        obtain ⟨hby, he1⟩ := chk_some he
        replace he := he1
        clear he1
        have hby : ee.bytes ≤ 1024 := by simpa using hby
        have hsz : Row.size r = ee.size := (h.hT _ _ hee).row r hr
        have hpos : 0 < ee.size := by rw [← hsz]; exact row_pos r
        rw [h2] at ho
        cases hm : c.args.toList.map a.eval with
        | nil => rw [hm] at ho; simp [RepL] at ho
        | cons v us =>
          rw [hm] at ho
          cases us with
          | nil => simp [RepL] at ho
          | cons u us =>
            simp only [RepL] at ho
            obtain ⟨hvs, hxu, rfl⟩ := ho
            have ha : c.args.map a.eval = #[v, u] := by apply Array.ext'; simpa using hm
            have hts : c.argTypes = #[sT, sT] := by apply Array.ext'; simpa using h1
            have bytes : ∀ n m : Nat, n < most → m < most → (n + m) * ee.bytes ≤ 140737488355328 ∧ n + m ≤ maxLen := by
              intro n m hn hm
              simp only [most, maxLen] at hn hm ⊢
              refine ⟨?_, by omega⟩
              calc (n + m) * ee.bytes ≤ (n + m) * 1024 := Nat.mul_le_mul_left _ hby
                _ ≤ 140737488355328 := by omega
            unfold oAppend at he
            split at he
            case h_3 => cases he
            case h_1 l hl =>
              obtain ⟨hmost, he1⟩ := chk_some he
              replace he := he1
              clear he1
              have hmost : l.length < most := by simpa using hmost
              cases he
              have hv : v = .slice none 0 0 := hvs
              subst hv
              obtain ⟨A, cc, news, rfl, hnl, hone, hA, hrep⟩ := listOf_ok h hxu hl
              obtain ⟨b1, b2⟩ := bytes 0 l.length (by decide) hmost
              obtain ⟨v', w', hrun, hres⟩ := append_run (P := P) (w := w) (ty := ty) (O := X.old) (A := A) (c := cc) (h.hT _ _ hee) hu hpos h.sim.blt (.inl ⟨rfl, rfl⟩) (by rw [hnl, hsz]) hone hA b2 b1
              rw [← hsz] at hres
              obtain ⟨g', hsim⟩ := append_sim h hd (r := r) (l0 := []) (l := l) (v := .slice none 0 0) (u := .slice A l.length cc) (v' := v') (w' := w') (A := A) (c := cc) (news := news) (bl' := setB s.bl V.nm (.row r l)) (fz' := s.fz) (B0 := none)
                (fun c y hc hy => by rw [get_setB, if_neg hc] at hy; exact ⟨hy, fun B _ => by simp⟩) (by rw [get_setB, if_pos rfl]; rfl) (fun _ hf => hf) (.inl ⟨rfl, rfl, rfl⟩) hnl hrep hres
              intro ro next Q nd hk
              refine wp_to nd (w' := w') (u := v') ?_ (hk _ _ g' hsim)
              rw [call_builtin hc, ha, hts]
              simp [builtin, hrun]
            case h_2 b l hl =>
              split at he
              case h_2 => cases he
              case h_1 l0 hl0 =>
                obtain ⟨m1, he1⟩ := chk_some he
                replace he := he1
                clear he1
                obtain ⟨m2, he1⟩ := chk_some he
                replace he := he1
                clear he1
                have m1 : l0.length < most := by simpa using m1
                have m2 : l.length < most := by simpa using m2
                rw [h.hF.l] at he
                cases he
                obtain ⟨A, cc, news, rfl, hnl, hone, hA, hrep⟩ := listOf_ok h hxu hl
                obtain ⟨b1, b2⟩ := bytes l0.length l.length m1 m2
                replace hl0 : (match V.rd b with | some (.row _ l) => castRow l | _ => none) = some l0 := hl0
                split at hl0
                case h_2 => exact (none_some hl0).elim
                case h_1 r' l' hb =>
                  obtain ⟨rfl, hh⟩ := castRow_inv hl0
                  have := eq_of_heq hh
                  subst this
                  rw [h.rd] at hb
                  have hbU : U b := h.sim.nmK b _ hb
                  have hbn : b ≠ V.nm := by rintro rfl; exact h.fresh _ (Nat.le_refl _) (by omega) hbU
                  have hcase := own_row h.sim hb hvs
                  have hv : (v = .slice none 0 0 ∧ l'.length = 0) ∨ ∃ B cap arr el', v = .slice (some ⟨B, 0, none⟩) l'.length cap ∧ ¬ X.old B ∧ w.heap[B]? = some (.cells arr el' (0, 0)) ∧ arr.size = cap * ee.size ∧ l'.length ≤ cap ∧ cap ≤ maxLen := by
                    rcases hcase with ⟨hv, hn, _⟩ | ⟨B, arr, el', hB, hv, e1, e2, e3, e4, _, _⟩
                    · exact .inl ⟨hv, by rw [hn]; rfl⟩
                    · exact .inr ⟨B, _, arr, el', hv, h.sim.new b _ B hb hB, e1, by rw [← hsz]; exact e2, e3, e4⟩
                  obtain ⟨v', w', hrun, hres⟩ := append_run (P := P) (w := w) (ty := ty) (O := X.old) (A := A) (c := cc) (h.hT _ _ hee) hu hpos h.sim.blt hv (by rw [hnl, hsz]) hone hA b2 b1
                  rw [← hsz] at hres
                  obtain ⟨g', hsim⟩ := append_sim h hd (r := r') (l0 := l') (l := l) (v := v) (u := .slice A l.length cc) (v' := v') (w' := w') (A := A) (c := cc) (news := news) (bl' := putB s.bl [(b, none), (V.nm, some (.row r' (l' ++ l)))]) (fz' := (bif V.isFz b then [V.nm] else []) ++ s.fz) (B0 := g.at_ b)
                    (fun c y hc hy => by
                      rw [putB_two, if_neg hc] at hy
                      by_cases hcb : c = b
                      · rw [if_pos hcb] at hy; cases hy
                      · rw [if_neg hcb] at hy
                        exact ⟨hy, fun B hB hB2 => hcb (h.sim.inj c b _ _ B hy hb hB hB2)⟩) (by rw [putB_two, if_pos rfl]) (fun c hf => (memN_append hf).2)
                    (by
                      rcases hcase with ⟨hv, hn, hB⟩ | ⟨B, arr, el', hB, hv, e1, e2, e3, e4, e5, e6⟩
                      · exact .inl ⟨hv, hn, hB⟩
                      · refine .inr ⟨B, _, arr, el', hB, h.sim.new b _ B hb hB, hv, e1, e5, e6, fun hf o => ?_⟩
                        refine h.sim.unf b _ _ B o hb ?_ hB
                        cases hfb : memN s.fz b
                        · rfl
                        · rw [h.fz, hfb] at hf
                          simp [memN] at hf) hnl hrep hres
                  intro ro next Q nd hk
                  refine wp_to nd (w' := w') (u := v') ?_ (hk _ _ g' ?_)
                  · rw [call_builtin hc, ha, hts]
                    simp [builtin, hrun]
                  · exact hsim
end
end Go.Proofs.Ytcjhegiidnjepaa.Ev
