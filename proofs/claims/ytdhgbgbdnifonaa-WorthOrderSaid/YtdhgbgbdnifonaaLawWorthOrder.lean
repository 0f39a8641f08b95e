/- WorthOrder: for every input the call returns true, and each argument reads afterwards as it read before. No conditions. (The row, written for this claim by a program.) -/
import Derived.Test.YtdhgbgbdnifonaaRows
import Derived.Test.YtdhgbgbdnifonaaFb2
import Derived.Test.YtdhgbgbdnifonaaPureWorthOrder
import Derived.Test.YtdhgbgbdnifonaaEvL
import Derived.WalkKit
import Derived.ProofKit
import Derived.OpenShut
import Derived.ShutString
import Derived.ChangeOld
import Derived.Below
import Derived.SizedLaws
namespace Go.Proofs.Ytdhgbgbdnifonaa.worthOrder
open Go.ChangeShapes Go.WideShapes Go.ChangeAt Go.RowKit Go.Proofs.Ytdhgbgbdnifonaa.Ev
set_option linter.unusedVariables false
set_option linter.unusedSimpArgs false
theorem own : ownKnob Try.prog.godebug = none := by kernel_rfl
theorem laidOut : laidOutB Try.prog = true := by kernel_rfl
theorem answers (x0 : Row.T R4) (x1 : Row.T R12) (x2 : Row.T R3) (i0 : RowIn R4 x0) (i1 : RowIn R12 x1) (i2 : RowIn R3 x2) : FnOK Try.prog 9 [encV true R4 x0, encV true R12 x1, encV false R3 x2] (.bool true, []) := by
  obtain ⟨n, hn⟩ := Plain.WorthOrder x0 x1 x2 i0 i1 i2
  exact fnT_ok (sg := sg9) (y := (show ResT sg9 from true)) (cx_ok (tl87_ok n)) (normal_ok _) Try.func9 (code_ok_of (cx_ok (tl87_ok n)) st9) ((f9_ev n x0 x1 x2).trans (hn))
theorem cell_lt {w : World} {B o : Nat} {v : Value} (h : w.cell? ⟨B, o, none⟩ = some v) : B < w.heap.size := by
  unfold World.cell? at h
  split at h
  · rename_i hb
    exact (Array.getElem?_eq_some_iff.1 hb).1
  · cases h
set_option maxRecDepth 100000 in
theorem lifted (os : Os) (started : os.Started) (H : Type) (enc : TypeId × Value → H) :
    ReturnsInHanded {} Try.checked os 9 .any (Rows.worthOrderSpec.pre6 enc Try.prog Try.f9 Rows.worthOrderRow.domain false) (Rows.worthOrderSpec.post enc Try.prog Try.f9 false true false false) := by
  refine returnsInHanded_of_change_sized (C := Try.checked) own started (by kernel_rfl) Try.func9
    (ChangeSpec.witness6 (enc := enc) (C := Try.checked) false ⟨#[], #[.agg #[.slice none 0 0, .slice none 0 0, .string ByteArray.empty, .int .i64 0, .int .i64 0, .int .i64 0, .int .i64 0, .slice none 0 0, .slice none 0 0, .int .i64 0], .agg #[.int .i64 0, .int .i64 0, .int .i64 0, .int .i64 0, .int .i64 0, .int .i64 0], .int .i64 0], []⟩ 8 (by kernel_rfl) (by kernel_rfl) (by kernel_rfl) (by kernel_rfl)) ?_
  intro W base args ds gs before hval0 hW hcnd hsz0 _
  have hval : ∀ (j : Nat) t v, Try.f9.params[j]? = some t → args[j]? = some v → Value.okWide Try.prog W .any base t v := hval0
  have hW' := hW
  obtain ⟨p, q, hA0, hV, rfl, hfz, hnd⟩ := hW
  have hA : DataW.TrodAll enc Try.prog W 0 (fun _ => true) true Try.f9.params.toList args.toList ds p := hA0
  rw [Try.params9] at hA hval
  obtain ⟨v0, vs0, d0, ds0, p0, q0, hargs, rfl, rfl, h0, r0⟩ := trodAll_cons hA
  obtain ⟨v1, vs1, d1, ds1, p1, q1, rfl, rfl, rfl, h1, r1⟩ := trodAll_cons r0
  obtain ⟨v2, vs2, d2, ds2, p2, q2, rfl, rfl, rfl, h2, r2⟩ := trodAll_cons r1
  obtain ⟨rfl, rfl, rfl⟩ := trodAll_nil r2
  obtain rfl : args = #[v0, v1, v2] := by cases args; simp_all
  obtain ⟨rfl, rfl⟩ := trodVars_none hV
  have lt0 : ∀ x ∈ p0, x.block < W.heap.size := by obtain ⟨m, hm⟩ := h0; exact DataW.trod_lt m _ _ _ hm
  obtain ⟨x0, a0, i0, k0, n0⟩ := open_arg (g := g0 fun B _ => B < W.heap.size) (r := R4) (agg := true) (by kernel_rfl : argB Try.prog 41 true R4 = true) (fun B o v hc => cell_lt hc) (hval 0 41 v0 rfl rfl) h0
  have lt1 : ∀ x ∈ p1, x.block < W.heap.size := by obtain ⟨m, hm⟩ := h1; exact DataW.trod_lt m _ _ _ hm
  obtain ⟨x1, a1, i1, k1, n1⟩ := open_arg (g := g0 fun B _ => B < W.heap.size) (r := R12) (agg := true) (by kernel_rfl : argB Try.prog 34 true R12 = true) (fun B o v hc => cell_lt hc) (hval 1 34 v1 rfl rfl) h1
  have lt2 : ∀ x ∈ p2, x.block < W.heap.size := by obtain ⟨m, hm⟩ := h2; exact DataW.trod_lt m _ _ _ hm
  obtain ⟨x2, a2, i2, k2, n2⟩ := open_arg (g := g0 fun B _ => B < W.heap.size) (r := R3) (agg := false) (by kernel_rfl : argB Try.prog 3 false R3 = true) (fun B o v hc => cell_lt hc) (hval 2 3 v2 rfl rfl) h2
  clear hA0 hval0 hsz0
  refine (answers x0 x1 x2 i0 i1 i2 W (fun B _ => B < W.heap.size) [v0, v1, v2] (fun _ _ h => h) ⟨a0, a1, a2, rfl⟩ (by simp only [List.all_cons, List.all_nil, k0, k1, k2, Bool.and_self]) (by simp only [namesL2, n0, n1, n2, List.append_nil])).mono fun e W' hh => ?_
  cases e with
  | panicked _ => exact hh.elim
  | outgrown => exact hh.elim
  | returned u =>
    obtain ⟨g, R⟩ := hh
    obtain rfl : u = .bool true := R.rep
    exact ⟨_, rfl, _, _, _, [], _, [], hW', trodAll_mk1 (shut_bool Try.underlying4 _), (trodAll_cons_mk (Below.trod laidOut (by kernel_rfl) (of_decide_eq_true (by kernel_rfl)) h0 R.below lt0) (trodAll_cons_mk (Below.trod laidOut (by kernel_rfl) (of_decide_eq_true (by kernel_rfl)) h1 R.below lt1) (trodAll_cons_mk (Below.trod laidOut (by kernel_rfl) (of_decide_eq_true (by kernel_rfl)) h2 R.below lt2) trodAll_mk0))), rfl, R.below.frame _, fun h => by cases h⟩
theorem over : Rows.worthOrderRow.holds Try.pinned (OpenSpec.ofChange Rows.worthOrderSpec) :=
  OpenClaim.holds_of_wide 9 Try.f9 rfl rfl rfl rfl rfl rfl rfl ⟨rfl, rfl, rfl, rfl, rfl⟩ rfl rfl rfl rfl rfl (by kernel_rfl) Try.func9 (by kernel_rfl)
    (of_decide_eq_true (by kernel_rfl)) (by unfold Func.isWrapper; first | (rw [if_pos (by decide +kernel)]; kernel_rfl) | (rw [if_neg (by decide +kernel)]; exact ⟨rfl, rfl⟩))
    (fun os started H enc _ => lifted os started H enc)
theorem proved : Rows.WorthOrderSaid := over
#print axioms proved
end Go.Proofs.Ytdhgbgbdnifonaa.worthOrder
namespace Go.Proofs.Ytdhgbgbdnifonaa
/-- The row, under a short name, for the claim. -/
theorem worthOrder_holds : Rows.WorthOrderSaid := worthOrder.proved
end Go.Proofs.Ytdhgbgbdnifonaa
