/- What a call of function 23 answers: a closed run. -/
import Derived.Test.YtcjhegiidnjepaaAw0
import Derived.KernelRfl
namespace Go.Proofs.Ytcjhegiidnjepaa.Ev
set_option maxRecDepth 1000000
def fa0 : List AV := []
def fv0 : AV := (.agg [(.imm (.cons (.int .i64) (.cons (.int .i64) (.one (.sl (.cons (.int .i64) (.one (.int .i64))))))) (show List (Int × Int × (List (Int × Int))) from [(3000, (-10), [((-100), 100), ((-100), 100), ((-100), 100), ((-100), 100), ((-100), 100), ((-100), 100), ((-100), 100), ((-100), 100), ((-100), 100), ((-100), 100), ((-100), 100), ((-100), 100), ((-100), 100), ((-100), 100), ((-100), 100), ((-100), 100), ((-100), 100), ((-100), 100), ((-100), 100), ((-100), 100)])])), (.imm (.cons (.int .i64) (.cons (.int .i64) (.cons (.int .i64) (.cons (.int .i64) (.cons (.int .i64) (.cons (.int .i64) (.one (.int .i64)))))))) (show List (Int × Int × Int × Int × Int × Int × Int) from [])), (.imm (.cons .str (.cons (.int .i64) (.cons (.int .i64) (.cons (.int .i64) (.cons (.int .i64) (.cons (.sl (.one (.int .i64))) (.one (.sl (.one (.int .i64)))))))))) (show List (ByteArray × Int × Int × Int × Int × (List (Int)) × (List (Int))) from [((⟨#[112, 108, 97, 110, 107]⟩ : ByteArray), 40, 100, 50, 0, [2000], [70])])), (.int .i64 (-50)), (.int .i64 55), (.int .i64 0), (.int .i64 42), (.imm (.cons (.int .i64) (.one (.int .i64))) (show List (Int × Int) from [(1, 0)])), (.int .i64 4), (.int .i64 5), (.int .i64 1), (.int .i64 500), (.int .i64 1), (.int .i64 0), (.int .i64 0)])
theorem fact0 : env.ev .closed 60 23 fa0 = some (true, fv0, []) := by kernel_rfl
end Go.Proofs.Ytcjhegiidnjepaa.Ev
