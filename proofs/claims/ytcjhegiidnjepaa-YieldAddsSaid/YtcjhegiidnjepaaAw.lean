/- The examples' function answers true: a closed run, over calls whose answers are known. -/
import Derived.Test.YtcjhegiidnjepaaAw1
import Derived.Test.YtcjhegiidnjepaaAw2
import Derived.Test.YtcjhegiidnjepaaAw3
import Derived.Test.YtcjhegiidnjepaaAw4
import Derived.Test.YtcjhegiidnjepaaEvY
import Derived.KernelRfl
namespace Go.Proofs.Ytcjhegiidnjepaa.Ev
set_option maxRecDepth 1000000
noncomputable def facts : List (Nat × List AV × AV) := [(23, fa0, fv0), (10, fa1, fv1), (11, fa2, fv2), (10, fa3, fv3)]
theorem facts_ok : ∀ p ∈ facts, env.ev .closed 60 p.1 p.2.1 = some (true, p.2.2, []) := List.forall_mem_cons.2 ⟨fact0, List.forall_mem_cons.2 ⟨fact1, List.forall_mem_cons.2 ⟨fact2, List.forall_mem_cons.2 ⟨fact3, fun _ h => absurd h List.not_mem_nil⟩⟩⟩⟩
noncomputable def awC : Cx := ⟨tab, .closed, orcF facts (env.ev .closed 60), noS, noY, false, get readers, popOf (hintsOf keeps 9)⟩
theorem awC_ok : CxOk Try.prog awC := ⟨Frc.law_closed, tab_ok, orcF_ok (env_ok env_fine Frc.law_closed 60) (env_ok env_fine Frc.law_closed 60) facts_ok, (by intro f args s nm rnd e he; cases he), fun _ => rfl⟩
theorem closed9 : evBody awC (hintsOf keeps 9) 60 Try.f9 [] = some (true, .bool true, []) := by kernel_rfl
theorem st_aw : fnSt Try.f9 = true := by kernel_rfl
theorem given9 : FnOK Try.prog 9 [] (.bool true, []) := (fn_ok awC_ok rfl (normal_ok _) Try.func9 (code_ok_of awC_ok st_aw) closed9).2
end Go.Proofs.Ytcjhegiidnjepaa.Ev
