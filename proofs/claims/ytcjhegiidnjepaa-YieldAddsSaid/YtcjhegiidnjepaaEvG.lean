/- append. -/
import Derived.Test.YtcjhegiidnjepaaEvF
namespace Go.Proofs.Ytcjhegiidnjepaa.Ev
open Go.RowKit
set_option linter.unusedVariables false
set_option linter.unusedSimpArgs false

section
variable {P : Program} {w : World} {g : Gh}
theorem leaf_one {l : Leaf} {x : Leaf.T l} {v : Value} {pr : Nat → Nat → Prop} (h : RepLeaf w pr l x v) : v.oneCell' = true := by
  cases l with
  | int k => have h' : v = .int k x := h; subst h'; rfl
  | bool => have h' : v = .bool x := h; subst h'; rfl
  | str => have h' : v = .string x := h; subst h'; rfl
  | sl r => obtain ⟨A, c, rfl, _⟩ := h; rfl
/-- The values of a row's cells. -/
theorem RepRow.vals {pr : Nat → Nat → Prop} : ∀ {r : Row} {x : Row.T r} {q : Nat → Value → Prop} {o : Nat}, RepRow w pr r x q o →
    ∃ vs : List Value, vs.length = Row.size r ∧ (∀ j v, vs[j]? = some v → q (o + j) v) ∧ (∀ v ∈ vs, v.oneCell' = true) ∧ ∀ (q' : Nat → Value → Prop) (o' : Nat), (∀ j v, vs[j]? = some v → q' (o' + j) v) → RepRow w pr r x q' o'
  | .one l, x, q, o, h => by
    obtain ⟨u, hu, hl⟩ := h
    refine ⟨[u], rfl, fun j v hv => ?_, fun v hv => ?_, fun q' o' hq => ⟨u, hq 0 u rfl, hl⟩⟩
    · cases j with
      | zero => simp only [List.getElem?_cons_zero, Option.some.injEq] at hv; subst hv; exact hu
      | succ j => simp at hv
    · simp only [List.mem_singleton] at hv; subst hv; exact leaf_one hl
  | .cons l r, x, q, o, h => by
    obtain ⟨⟨u, hu, hl⟩, hr⟩ := h
    obtain ⟨vs, k1, k2, k3, k4⟩ := RepRow.vals hr
    refine ⟨u :: vs, by simp [Row.size, k1], fun j v hv => ?_, fun v hv => ?_, fun q' o' hq => ⟨⟨u, hq 0 u rfl, hl⟩, k4 q' (o' + 1) (fun j v hv => ?_)⟩⟩
    · cases j with
      | zero => simp only [List.getElem?_cons_zero, Option.some.injEq] at hv; subst hv; exact hu
      | succ j =>
        simp only [List.getElem?_cons_succ] at hv
        have := k2 j v hv
        rwa [show o + 1 + j = o + (j + 1) by omega] at this
    · simp only [List.mem_cons] at hv
      rcases hv with rfl | hv
      · exact leaf_one hl
      · exact k3 v hv
    · have := hq (j + 1) v (by simpa using hv)
      rwa [show o' + (j + 1) = o' + 1 + j by omega] at this
/-- The values of all cells of a list of rows. -/
theorem rows_vals {pr : Nat → Nat → Prop} {r : Row} : ∀ (l : List (Row.T r)) {q : Nat → Value → Prop} {o : Nat}, (∀ i x, l[i]? = some x → RepRow w pr r x q (o + i * Row.size r)) →
    ∃ vs : List Value, vs.length = l.length * Row.size r ∧ (∀ j v, vs[j]? = some v → q (o + j) v) ∧ (∀ v ∈ vs, v.oneCell' = true) ∧ ∀ (q' : Nat → Value → Prop) (o' : Nat), (∀ j v, vs[j]? = some v → q' (o' + j) v) → ∀ i x, l[i]? = some x → RepRow w pr r x q' (o' + i * Row.size r)
  | [], q, o, h => ⟨[], by simp, fun j v hv => by simp at hv, fun v hv => by simp at hv, fun q' o' _ i x hi => by simp at hi⟩
  | y :: l, q, o, h => by
    obtain ⟨vs, k1, k2, k3, k4⟩ := RepRow.vals (h 0 y rfl)
    obtain ⟨us, m1, m2, m3, m4⟩ := rows_vals l (q := q) (o := o + Row.size r) (fun i x hi => by
      have := h (i + 1) x (by simpa using hi)
      rwa [show o + (i + 1) * Row.size r = o + Row.size r + i * Row.size r by rw [Nat.add_mul]; omega] at this)
    refine ⟨vs ++ us, by rw [List.length_append, k1, m1, List.length_cons, Nat.add_mul]; omega, fun j v hv => ?_, fun v hv => ?_, fun q' o' hq i x hi => ?_⟩
    · by_cases hj : j < vs.length
      · rw [List.getElem?_append_left hj] at hv
        simpa using k2 j v hv
      · rw [List.getElem?_append_right (by omega)] at hv
        have := m2 _ v hv
        rwa [k1, show o + Row.size r + (j - Row.size r) = o + j by omega] at this
    · rcases List.mem_append.1 hv with hv | hv
      · exact k3 v hv
      · exact m3 v hv
    · cases i with
      | zero =>
        simp only [List.getElem?_cons_zero, Option.some.injEq] at hi
        subst hi
        refine k4 q' _ (fun j v hv => ?_)
        have hj := (List.getElem?_eq_some_iff.1 hv).1
        simpa using hq j v (by rw [List.getElem?_append_left hj]; exact hv)
      | succ i =>
        simp only [List.getElem?_cons_succ] at hi
        have := m4 q' (o' + Row.size r) (fun j v hv => by
          have := hq (Row.size r + j) v (by rw [← k1, List.getElem?_append_right (by omega), Nat.add_sub_cancel_left]; exact hv)
          rwa [← Nat.add_assoc] at this) i x hi
        rwa [show o' + Row.size r + i * Row.size r = o' + (i + 1) * Row.size r by rw [Nat.add_mul]; omega] at this
/-- What append makes of a slice of ours. -/
structure Grown (w w' : World) (O : Nat → Prop) (size n m : Nat) (v v' : Value) (news : List Value) (B' : Nat) (cap' : Nat) (arr' : Array Value) (el' : TypeId) : Prop where
  val : v' = .slice (some ⟨B', 0, none⟩) (n + m) cap'
  blk : w'.heap[B']? = some (.cells arr' el' (0, 0))
  csz : arr'.size = cap' * size
  le : n + m ≤ cap'
  max : cap' ≤ maxLen
  new : ∀ j, j < m * size → arr'[n * size + j]? = news[j]?
  old : ∀ k, k < w.heap.size → k ≠ B' → w'.heap[k]? = w.heap[k]?
  lt : B' < w'.heap.size
  below : Unt O w w'
  from_ : (w.heap.size ≤ B' ∧ (n = 0 ∨ ∃ B cap arr el, v = .slice (some ⟨B, 0, none⟩) n cap ∧ w.heap[B]? = some (.cells arr el (0, 0)) ∧ ∀ j, j < n * size → arr'[j]? = arr[j]?)) ∨
    ∃ cap arr el, v = .slice (some ⟨B', 0, none⟩) n cap ∧ w.heap[B']? = some (.cells arr el (0, 0)) ∧ ∀ j, j < n * size → arr'[j]? = arr[j]?
theorem append_run {t el : Nat} {ee : TyE} {ty : TypeId} (hT : TOk P el ee) (hu : P.underlying t = some (.slice el)) (hpos : 0 < ee.size) {v : Value} {n : Nat} {O : Nat → Prop} (hb : ∀ B, O B → B < w.heap.size)
    (hv : (v = .slice none 0 0 ∧ n = 0) ∨ ∃ B cap arr el', v = .slice (some ⟨B, 0, none⟩) n cap ∧ ¬ O B ∧ w.heap[B]? = some (.cells arr el' (0, 0)) ∧ arr.size = cap * ee.size ∧ n ≤ cap ∧ cap ≤ maxLen)
    {A : Option Addr} {m c : Nat} {news : List Value} (hl : news.length = m * ee.size) (h1 : ∀ u ∈ news, u.oneCell' = true) (hA : 0 < m → ∃ B o, A = some ⟨B, o, none⟩ ∧ ∀ j u, news[j]? = some u → w.cell? ⟨B, o + j, none⟩ = some u)
    (h63 : n + m ≤ maxLen) (hbytes : (n + m) * ee.bytes ≤ 140737488355328) :
    ∃ v' w', (Builtin.append_ #[t, t] ty #[v, .slice A m c]).run P w = .ok v' w' ∧
      ((v = .slice none 0 0 ∧ m = 0 ∧ v' = .slice none 0 0 ∧ w' = w) ∨ ∃ B' cap' arr' el', Grown w w' O ee.size n m v v' news B' cap' arr' el') := by
  obtain ⟨i, z, g1, g2, g3, g4, _, g6⟩ := hT.info
  by_cases hm : m = 0
  · subst hm
    have hn : news = [] := List.eq_nil_of_length_eq_zero (by simpa using hl)
    subst hn
    have hfc : (Builtin.firstCells i.size 0 (.slice A 0 c)).run P w = .ok #[] w := by
      cases A with
      | none => simp [Builtin.firstCells]
      | some ad => simp [Builtin.firstCells, loadCells, loadCellsFrom]
    rcases hv with ⟨rfl, rfl⟩ | ⟨B, cap, arr, el', rfl, hbB, hB, hs, hnc, hcm⟩
    · exact ⟨_, w, by simp [Builtin.append_, run_underlying hu, sizeOf, typeInfo, g1, Builtin.lenOf, hfc], .inl ⟨rfl, rfl, rfl, rfl⟩⟩
    · refine ⟨.slice (some ⟨B, 0, none⟩) n cap, w, by simp [Builtin.append_, run_underlying hu, sizeOf, typeInfo, g1, Builtin.lenOf, hfc, hnc, storeCells], .inr ⟨B, cap, arr, el', ?_⟩⟩
      exact ⟨rfl, hB, hs, hnc, hcm, fun j hj => by simp at hj, fun k _ _ => rfl, (Array.getElem?_eq_some_iff.1 hB).1, Unt.refl O w, .inr ⟨cap, arr, el', rfl, hB, fun j _ => rfl⟩⟩
  · obtain ⟨BA, oA, rfl, hcells⟩ := hA (by omega)
    have hcells' : ∀ j u, news[j]? = some u → w.cell? ((⟨BA, oA, none⟩ : Addr).add j) = some u := fun j u hj => by rw [add_zero]; exact hcells j u hj
    have hl' : news.length = m * i.size := by rw [g2]; exact hl
    have grown : ∀ (old : Nat) (xs : List Value), xs.length = n * ee.size → Grown w (w.drew.alloc (.cells (xs.toArray ++ news.toArray ++ Builtin.zeroCells z.cells (grownCap w (n + m) old el - (n + m))) el)) O ee.size n m v (.slice (some ⟨w.heap.size, 0, none⟩) (n + m) (grownCap w (n + m) old el)) news w.heap.size (grownCap w (n + m) old el) (xs.toArray ++ news.toArray ++ Builtin.zeroCells z.cells (grownCap w (n + m) old el - (n + m))) el ∨
        ¬ (n = 0 ∨ ∃ B cap arr el', v = .slice (some ⟨B, 0, none⟩) n cap ∧ w.heap[B]? = some (.cells arr el' (0, 0)) ∧ ∀ j, j < n * ee.size → (xs.toArray ++ news.toArray ++ Builtin.zeroCells z.cells (grownCap w (n + m) old el - (n + m)))[j]? = arr[j]?) := by
      intro old xs hxs
      by_cases hfrom : (n = 0 ∨ ∃ B cap arr el', v = .slice (some ⟨B, 0, none⟩) n cap ∧ w.heap[B]? = some (.cells arr el' (0, 0)) ∧ ∀ j, j < n * ee.size → (xs.toArray ++ news.toArray ++ Builtin.zeroCells z.cells (grownCap w (n + m) old el - (n + m)))[j]? = arr[j]?)
      case neg => exact .inr hfrom
      have hge := grownCap_ge w (n + m) old el
      refine .inl ⟨rfl, heap_alloc_new w.drew _, ?_, hge, grownCap_le_maxLen w (n + m) old el h63, fun j hj => ?_, fun k hk _ => ?_, by simp, ((Unt.refl O w).drew).alloc hb _, .inl ⟨Nat.le_refl _, hfrom⟩⟩
      · simp only [Array.size_append, List.size_toArray, size_zeroCells, g6, hxs, hl, ← Nat.add_mul]
        congr 1
        omega
      · rw [Array.getElem?_append_left (by simp [hxs, hl]; omega), Array.getElem?_append_right (by simp [hxs])]
        simp [hxs]
      · rw [Below.heap_alloc w.drew _ k (by simpa using hk)]
        rfl
    rcases hv with ⟨rfl, rfl⟩ | ⟨B, cap, arr, el', rfl, hbB, hB, hs, hnc, hcm⟩
    · have hr := run_append_nil (P := P) w t ty el i z hu g1 g4 ⟨BA, oA, none⟩ m c news hl' hcells' (by omega) (by simp only [maxLen] at h63; omega) (by rw [g3]; simp only [Nat.zero_add] at hbytes; omega)
      have hg := (grown 0 [] (by simp)).resolve_right (fun hc => hc (.inl rfl))
      simp only [Nat.zero_add, List.nil_append, Array.empty_append] at hg
      exact ⟨_, _, hr, .inr ⟨_, _, _, _, by simpa using hg⟩⟩
    · by_cases hroom : n + m ≤ cap
      · have hf := run_firstCells_some (P := P) w i.size m ⟨BA, oA, none⟩ m c news hl' hcells'
        have hfit : n * ee.size + news.length ≤ arr.size := by rw [hl, hs, ← Nat.add_mul]; exact Nat.mul_le_mul_right _ hroom
        have hst := run_storeCells_at P B (n * ee.size) el' news 0 arr w hB (by simpa using hfit) h1
        simp only [Nat.add_zero] at hst
        refine ⟨.slice (some ⟨B, 0, none⟩) (n + m) cap, w.setRow B (cellsPut arr (n * ee.size) news), ?_, .inr ⟨B, cap, cellsPut arr (n * ee.size) news, el', ?_⟩⟩
        · simp [Builtin.append_, run_underlying hu, sizeOf, typeInfo, g1, Builtin.lenOf, hroom, hf, add_zero, g2, hst, cellsPut]
          rw [g2] at hf
          simp [hf, hst]
        · exact ⟨rfl, setRow_heap w B arr _ el' (0, 0) hB, by rw [cellsPut_size hfit]; exact hs, hroom, hcm, fun j hj => cellsPut_in hfit (by omega), fun k _ hk => setRow_other w B k _ hk, by simpa using (Array.getElem?_eq_some_iff.1 hB).1, Unt.setRow w hbB _, .inr ⟨cap, arr, el', rfl, hB, fun j hj => cellsPut_out hfit (.inl hj)⟩⟩
      · have hxs : (arr.toList.take (n * ee.size)).length = n * ee.size := by
          rw [List.length_take, Array.length_toList, hs]
          exact Nat.min_eq_left (Nat.mul_le_mul_right _ hnc)
        have holds : ∀ j u, (arr.toList.take (n * ee.size))[j]? = some u → w.cell? ((⟨B, 0, none⟩ : Addr).add j) = some u := by
          intro j u hj
          rw [add_zero, Nat.zero_add, cell_of_row w B j arr el' (0, 0) hB]
          rw [List.getElem?_take] at hj
          split at hj
          · simpa using hj
          · cases hj
        have hr := run_append_grow (P := P) w t ty el i z hu g1 g4 ⟨B, 0, none⟩ n cap (arr.toList.take (n * ee.size)) (by rw [g2]; exact hxs) holds ⟨BA, oA, none⟩ m c news hl' hcells' (by omega) (by simp only [maxLen] at h63; omega) (growslice_fits (by omega) (by rw [g3]; exact hbytes))
        have hg := (grown cap _ hxs).resolve_right (fun hc => hc (.inr ⟨B, cap, arr, el', rfl, hB, fun j hj => by
          have k2 : j < (arr.toList.take (n * ee.size)).toArray.size := by rw [List.size_toArray, hxs]; exact hj
          have k1 : j < ((arr.toList.take (n * ee.size)).toArray ++ news.toArray).size := by rw [Array.size_append]; omega
          rw [Array.getElem?_append_left k1, Array.getElem?_append_left k2]
          simp [hj]⟩))
        exact ⟨_, _, hr, .inr ⟨_, _, _, _, hg⟩⟩
end
end Go.Proofs.Ytcjhegiidnjepaa.Ev
