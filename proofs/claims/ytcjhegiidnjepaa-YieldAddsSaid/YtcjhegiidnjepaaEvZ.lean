/- What the proofs about this seat's functions share: its table of types, its program. -/
import Derived.Test.YtcjhegiidnjepaaEvT
import Derived.Test.YtcjhegiidnjepaaEvY
import Derived.KernelRfl
namespace Go.Proofs.Ytcjhegiidnjepaa.Ev
set_option linter.unusedVariables false
set_option maxRecDepth 100000
theorem tab_ok : TabOk Try.prog tab := tabB_ok (by kernel_rfl)
theorem mixed : Try.prog.follows .mixedOrders = true := by kernel_rfl
noncomputable def cx (l : List (Nat × Sp)) (n : Nat) (H : List (Nat × List Keep)) : Cx := ⟨tab, .open, tabF l n, noS, noY, false, get readers, popOf H⟩
theorem cx_ok {l : List (Nat × Sp)} {n : Nat} {H : List (Nat × List Keep)} (h : CallOk Try.prog (tabF l n)) : CxOk Try.prog (cx l n H) := ⟨Frc.law_open, tab_ok, h, (by intro f args s nm rnd e he; cases he), fun _ => rfl⟩
def fnSt (f : Func) : Bool := match f.body with
  | some c => codeSt f.ntmps c
  | none => true
theorem code_ok_of {C : Cx} (hC : CxOk Try.prog C) {f : Func} (h : fnSt f = true) : ∀ c, f.body = some c → CodeOk Try.prog C f.ntmps c := by
  intro c hc
  unfold fnSt at h
  rw [hc] at h
  exact codeSt_ok hC mixed c h
theorem known_of {f : Nat} {fn : Func} (hf : Try.prog.funcs[f]? = some fn) (h1 : fn.name ≠ "runtime.NumGoroutine") (h2 : fn.body.isSome = true) : Known Try.prog f := ⟨fn, hf, h1, h2⟩
end Go.Proofs.Ytcjhegiidnjepaa.Ev
