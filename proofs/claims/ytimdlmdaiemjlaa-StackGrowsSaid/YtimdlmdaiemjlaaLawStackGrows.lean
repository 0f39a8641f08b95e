/- StackGrows: for every input the call returns true, and each argument reads afterwards as it read before. No conditions. (The row, written for this claim by a program, a turned copy of the print tool.) -/
import Derived.Test.YtimdlmdaiemjlaaRows
import Derived.Test.YtimdlmdaiemjlaaPStackGrowsx5
import Derived.Test.YtimdlmdaiemjlaaPureStackGrows
import Derived.Test.YtimdlmdaiemjlaaOpen
import Derived.WalkKit
import Derived.ProofKit
import Derived.OpenShut
import Derived.ShutString
import Derived.ChangeOld
import Derived.Below
import Derived.SizedLaws
namespace Go.Proofs.Ytimdlmdaiemjlaa.stackGrows
open Go.ChangeShapes Go.WideShapes Go.ChangeAt Go.RowKit
open Go.ChangeMaps (open_string shut_string)
set_option linter.unusedVariables false
set_option linter.unusedSimpArgs false
theorem own : ownKnob Try.prog.godebug = none := by kernel_rfl
theorem laidOut : laidOutB Try.prog = true := by kernel_rfl
theorem opens23 : Opened.Opens Try.prog 23 PStackGrows.k23 PStackGrows.Q23 := Opened.opens_imp (Opened.opens_iso (fun x : PStackGrows.S23 => (x.f0, x.f1, x.f2)) (fun a => (⟨a.1, a.2.1, a.2.2⟩ : PStackGrows.S23)) (fun _ => rfl) (Opened.opens_struct Try.underlying23 (n := 3) (by kernel_rfl) (l := [(0, 3), (1, 3), (2, 3)]) (by kernel_rfl) (Opened.opensAt_cons (off := 0) (off' := 1) (n := 3) (by kernel_rfl) (Opened.opens_int Try.underlying3) (Opened.opensAt_cons (off := 1) (off' := 2) (n := 3) (by kernel_rfl) (Opened.opens_int Try.underlying3) (Opened.opensAt_last (off := 2) (n := 3) (by kernel_rfl) (Opened.opens_int Try.underlying3)))))) (fun _ h => h)
theorem opens34 : Opened.Opens Try.prog 34 PStackGrows.k34 PStackGrows.Q34 := Opened.opens_imp (Opened.opens_iso (fun x : PStackGrows.S34 => (x.f0, x.f1)) (fun a => (⟨a.1, a.2⟩ : PStackGrows.S34)) (fun _ => rfl) (Opened.opens_array Try.underlying34 (n := 2) (by kernel_rfl) (l := [(0, 3), (1, 3)]) (by kernel_rfl) (Opened.opensAt_cons (off := 0) (off' := 1) (n := 2) (by kernel_rfl) (Opened.opens_int Try.underlying3) (Opened.opensAt_last (off := 1) (n := 2) (by kernel_rfl) (Opened.opens_int Try.underlying3))))) (fun _ h => h)
set_option maxRecDepth 100000 in
theorem lifted (os : Os) (started : os.Started) (H : Type) (enc : TypeId × Value → H) :
    ReturnsInHanded {} Try.checked os 8 .any (Rows.stackGrowsSpec.pre6 enc Try.prog Try.f8 Rows.stackGrowsRow.domain false) (Rows.stackGrowsSpec.post enc Try.prog Try.f8 false true false false) := by
  refine returnsInHanded_of_change_sized (C := Try.checked) own started (by kernel_rfl) Try.func8
    (ChangeSpec.witness6 (enc := enc) (C := Try.checked) false ⟨#[], #[.agg #[(.int .i64 0), (.int .i64 0), (.int .i64 0)], .agg #[(.int .i64 0), (.int .i64 0)], .int .i64 0], []⟩ 8 (by kernel_rfl) (by kernel_rfl) (by kernel_rfl) (by kernel_rfl)) ?_
  intro W base args ds gs before hval0 hW hcnd hsz0 _
  have hsz : (DataW.weightsEach Try.prog (Try.f8.params.toList ++ Rows.stackGrowsSpec.plain.varTypes Try.prog) (ds ++ gs)).all (· ≤ reachBytes) = true := hsz0
  have hval : ∀ (j : Nat) t v, Try.f8.params[j]? = some t → args[j]? = some v → Value.okWide Try.prog W .any base t v := hval0
  have hW' := hW
  obtain ⟨p, q, hA0, hV, rfl, hfz, hnd⟩ := hW
  have hA : DataW.TrodAll enc Try.prog W 0 (fun _ => true) true Try.f8.params.toList args.toList ds p := hA0
  rw [Try.params8] at hA hval hsz
  obtain ⟨v0, vs0, d0, ds0, p0, q0, hargs, rfl, rfl, h0, r0⟩ := trodAll_cons hA
  obtain ⟨v1, vs1, d1, ds1, p1, q1, rfl, rfl, rfl, h1, r1⟩ := trodAll_cons r0
  obtain ⟨v2, vs2, d2, ds2, p2, q2, rfl, rfl, rfl, h2, r2⟩ := trodAll_cons r1
  obtain ⟨rfl, rfl, rfl⟩ := trodAll_nil r2
  obtain rfl : args = #[v0, v1, v2] := by cases args; simp_all
  obtain ⟨rfl, rfl⟩ := trodVars_none hV
  have lt0 : ∀ x ∈ p0, x.block < W.heap.size := by obtain ⟨m, hm⟩ := h0; exact DataW.trod_lt m _ _ _ hm
  obtain ⟨x0, K0, q0⟩ := Opened.opens_arg opens23 h0
  obtain ⟨⟨cs0⟩, rfl, _⟩ := okWide_struct Try.underlying23 (hval 0 23 v0 rfl rfl)
  have K0' : PStackGrows.k23.K W x0 cs0 := K0
  obtain rfl := PStackGrows.k23_open K0'
  obtain ⟨q0_0, q0_1, q0_2⟩ := q0
  have lt1 : ∀ x ∈ p1, x.block < W.heap.size := by obtain ⟨m, hm⟩ := h1; exact DataW.trod_lt m _ _ _ hm
  obtain ⟨x1, K1, q1⟩ := Opened.opens_arg opens34 h1
  obtain ⟨⟨cs1⟩, rfl⟩ := Opened.okWide_agg Try.underlying34 (hval 1 34 v1 rfl rfl)
  have K1' : PStackGrows.k34.K W x1 cs1 := K1
  obtain rfl := PStackGrows.k34_open K1'
  obtain ⟨q1_0, q1_1⟩ := q1
  obtain ⟨a2, rfl, rfl, rfl, w2⟩ := open_int Try.underlying3 (hval 2 3 v2 rfl rfl) h2
  clear hA0 hval0 hsz0 hsz
  obtain ⟨k, h⟩ := Pure.StackGrows x0.f0 x0.f1 x0.f2 x1.f0 x1.f1 a2 q0_0 q0_1 q0_2 q1_0 q1_1 w2
  refine (PStackGrows.sawmilllaw32_StackGrows.calls k x0.f0 x0.f1 x0.f2 x1.f0 x1.f1 a2 true W  h).mono fun e W' hh => ?_
  obtain ⟨he, hd⟩ := hh
  have bel : Below W.heap.size W W' := hd
  subst he
  exact ⟨_, rfl, _, _, _, [], _, [], hW', trodAll_mk1 (shut_bool Try.underlying4 _), (trodAll_cons_mk (Below.trod laidOut (by kernel_rfl) (of_decide_eq_true (by kernel_rfl)) h0 bel lt0) (trodAll_cons_mk (Below.trod laidOut (by kernel_rfl) (of_decide_eq_true (by kernel_rfl)) h1 bel lt1) (trodAll_cons_mk (shut_int Try.underlying3 w2) trodAll_mk0))), rfl, bel.frame _, fun h => by cases h⟩
theorem over : Rows.stackGrowsRow.holds Try.pinned (OpenSpec.ofChange Rows.stackGrowsSpec) :=
  OpenClaim.holds_of_wide 8 Try.f8 rfl rfl rfl rfl rfl rfl rfl ⟨rfl, rfl, rfl, rfl, rfl⟩ rfl rfl rfl rfl rfl (by kernel_rfl) Try.func8 (by kernel_rfl)
    (of_decide_eq_true (by kernel_rfl)) (by unfold Func.isWrapper; first | (rw [if_pos (by decide +kernel)]; kernel_rfl) | (rw [if_neg (by decide +kernel)]; exact ⟨rfl, rfl⟩))
    (fun os started H enc _ => lifted os started H enc)
theorem proved : Rows.StackGrowsSaid := over
#print axioms proved
end Go.Proofs.Ytimdlmdaiemjlaa.stackGrows
namespace Go.Proofs.Ytimdlmdaiemjlaa
/-- The row, under a short name, for the claim. -/
theorem stackGrows_holds : Rows.StackGrowsSaid := stackGrows.proved
end Go.Proofs.Ytimdlmdaiemjlaa
