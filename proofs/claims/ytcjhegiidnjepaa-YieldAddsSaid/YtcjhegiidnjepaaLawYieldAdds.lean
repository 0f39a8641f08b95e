/- YieldAdds: for every input the call returns true, and each argument reads afterwards as it read before. No conditions. (The row, written for this claim by a program.) -/
import Derived.Test.YtcjhegiidnjepaaRows
import Derived.Test.YtcjhegiidnjepaaFb0
import Derived.Test.YtcjhegiidnjepaaPureYieldAdds
import Derived.Test.YtcjhegiidnjepaaEvL
import Derived.WalkKit
import Derived.ProofKit
import Derived.OpenShut
import Derived.ShutString
import Derived.ChangeOld
import Derived.Below
import Derived.SizedLaws
namespace Go.Proofs.Ytcjhegiidnjepaa.yieldAdds
open Go.ChangeShapes Go.WideShapes Go.ChangeAt Go.RowKit Go.Proofs.Ytcjhegiidnjepaa.Ev
set_option linter.unusedVariables false
set_option linter.unusedSimpArgs false
theorem own : ownKnob Try.prog.godebug = none := by kernel_rfl
theorem laidOut : laidOutB Try.prog = true := by kernel_rfl
theorem answers (x0 : Row.T R2) (x1 : Row.T R2) (i0 : RowIn R2 x0) (i1 : RowIn R2 x1) : FnOK Try.prog 6 [encV true R2 x0, encV true R2 x1] (.bool true, []) := by
  obtain ⟨n, hn⟩ := Plain.YieldAdds x0 x1 i0 i1
  exact fnT_ok (sg := sg6) (y := (show ResT sg6 from true)) (cx_ok (tl16_ok n)) rfl (normal_ok _) Try.func6 (code_ok_of (cx_ok (tl16_ok n)) st6) ((f6_ev n x0 x1).trans (hn))
theorem cell_lt {w : World} {B o : Nat} {v : Value} (h : w.cell? ⟨B, o, none⟩ = some v) : B < w.heap.size := by
  unfold World.cell? at h
  split at h
  · rename_i hb
    exact (Array.getElem?_eq_some_iff.1 hb).1
  · cases h
set_option maxRecDepth 100000 in
theorem lifted (os : Os) (started : os.Started) (H : Type) (enc : TypeId × Value → H) :
    ReturnsInHanded {} Try.checked os 6 .any (Rows.yieldAddsSpec.pre6 enc Try.prog Try.f6 Rows.yieldAddsRow.domain false) (Rows.yieldAddsSpec.post enc Try.prog Try.f6 false true false false) := by
  refine returnsInHanded_of_change_sized (C := Try.checked) own started (by kernel_rfl) Try.func6
    (ChangeSpec.witness6 (enc := enc) (C := Try.checked) false ⟨#[], #[.agg #[.int .i64 0, .int .i64 0, .int .i64 0, .int .i64 0, .int .i64 0], .agg #[.int .i64 0, .int .i64 0, .int .i64 0, .int .i64 0, .int .i64 0]], []⟩ 8 (by kernel_rfl) (by kernel_rfl) (by kernel_rfl) (by kernel_rfl)) ?_
  intro W base args ds gs before hval0 hW hcnd hsz0 _
  have hval : ∀ (j : Nat) t v, Try.f6.params[j]? = some t → args[j]? = some v → Value.okWide Try.prog W .any base t v := hval0
  have hW' := hW
  obtain ⟨p, q, hA0, hV, rfl, hfz, hnd⟩ := hW
  have hA : DataW.TrodAll enc Try.prog W 0 (fun _ => true) true Try.f6.params.toList args.toList ds p := hA0
  rw [Try.params6] at hA hval
  obtain ⟨v0, vs0, d0, ds0, p0, q0, hargs, rfl, rfl, h0, r0⟩ := trodAll_cons hA
  obtain ⟨v1, vs1, d1, ds1, p1, q1, rfl, rfl, rfl, h1, r1⟩ := trodAll_cons r0
  obtain ⟨rfl, rfl, rfl⟩ := trodAll_nil r1
  obtain rfl : args = #[v0, v1] := by cases args; simp_all
  obtain ⟨rfl, rfl⟩ := trodVars_none hV
  have lt0 : ∀ x ∈ p0, x.block < W.heap.size := by obtain ⟨m, hm⟩ := h0; exact DataW.trod_lt m _ _ _ hm
  obtain ⟨x0, a0, i0, k0, n0⟩ := open_arg (g := g0 fun B _ => B < W.heap.size) (r := R2) (agg := true) (by kernel_rfl : argB Try.prog 41 true R2 = true) (fun B o v hc => cell_lt hc) (hval 0 41 v0 rfl rfl) h0
  have lt1 : ∀ x ∈ p1, x.block < W.heap.size := by obtain ⟨m, hm⟩ := h1; exact DataW.trod_lt m _ _ _ hm
  obtain ⟨x1, a1, i1, k1, n1⟩ := open_arg (g := g0 fun B _ => B < W.heap.size) (r := R2) (agg := true) (by kernel_rfl : argB Try.prog 41 true R2 = true) (fun B o v hc => cell_lt hc) (hval 1 41 v1 rfl rfl) h1
  clear hA0 hval0 hsz0
  refine (answers x0 x1 i0 i1 W (fun B _ => B < W.heap.size) [v0, v1] (fun _ _ h => h) ⟨a0, a1, rfl⟩ (by simp only [List.all_cons, List.all_nil, k0, k1, Bool.and_self]) (by simp only [namesL2, n0, n1, List.append_nil])).mono fun e W' hh => ?_
  cases e with
  | panicked _ => exact hh.elim
  | outgrown => exact hh.elim
  | returned u =>
    obtain ⟨g, R⟩ := hh
    obtain rfl : u = .bool true := R.rep
    exact ⟨_, rfl, _, _, _, [], _, [], hW', trodAll_mk1 (shut_bool Try.underlying4 _), (trodAll_cons_mk (Below.trod laidOut (by kernel_rfl) (of_decide_eq_true (by kernel_rfl)) h0 R.below lt0) (trodAll_cons_mk (Below.trod laidOut (by kernel_rfl) (of_decide_eq_true (by kernel_rfl)) h1 R.below lt1) trodAll_mk0)), rfl, R.below.frame _, fun h => by cases h⟩
theorem over : Rows.yieldAddsRow.holds Try.pinned (OpenSpec.ofChange Rows.yieldAddsSpec) :=
  OpenClaim.holds_of_wide 6 Try.f6 rfl rfl rfl rfl rfl rfl rfl ⟨rfl, rfl, rfl, rfl, rfl⟩ rfl rfl rfl rfl rfl (by kernel_rfl) Try.func6 (by kernel_rfl)
    (of_decide_eq_true (by kernel_rfl)) (by unfold Func.isWrapper; first | (rw [if_pos (by decide +kernel)]; kernel_rfl) | (rw [if_neg (by decide +kernel)]; exact ⟨rfl, rfl⟩))
    (fun os started H enc _ => lifted os started H enc)
theorem proved : Rows.YieldAddsSaid := over
#print axioms proved
end Go.Proofs.Ytcjhegiidnjepaa.yieldAdds
namespace Go.Proofs.Ytcjhegiidnjepaa
/-- The row, under a short name, for the claim. -/
theorem yieldAdds_holds : Rows.YieldAddsSaid := yieldAdds.proved
end Go.Proofs.Ytcjhegiidnjepaa
