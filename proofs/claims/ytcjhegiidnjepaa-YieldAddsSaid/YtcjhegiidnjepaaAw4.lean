/- What a call of function 10 answers: a closed run. -/
import Derived.Test.YtcjhegiidnjepaaAw0
import Derived.KernelRfl
namespace Go.Proofs.Ytcjhegiidnjepaa.Ev
set_option maxRecDepth 1000000
def fa3 : List AV := [(.agg [(.imm (.cons (.int .i64) (.cons (.int .i64) (.one (.sl (.cons (.int .i64) (.one (.int .i64))))))) (show List (Int × Int × (List (Int × Int))) from [(3000, (-10), [((-100), 100), ((-100), 100), ((-100), 100), ((-100), 100), ((-100), 100), ((-100), 100), ((-100), 100), ((-100), 100), ((-100), 100), ((-100), 100), ((-100), 100), ((-100), 100), ((-100), 100), ((-100), 100), ((-100), 100), ((-100), 100), ((-100), 100), ((-100), 100), ((-100), 100), ((-100), 100)])])), (.imm (.cons (.int .i64) (.cons (.int .i64) (.cons (.int .i64) (.cons (.int .i64) (.cons (.int .i64) (.cons (.int .i64) (.one (.int .i64)))))))) (show List (Int × Int × Int × Int × Int × Int × Int) from [])), (.imm (.cons .str (.cons (.int .i64) (.cons (.int .i64) (.cons (.int .i64) (.cons (.int .i64) (.cons (.sl (.one (.int .i64))) (.one (.sl (.one (.int .i64)))))))))) (show List (ByteArray × Int × Int × Int × Int × (List (Int)) × (List (Int))) from [((⟨#[112, 108, 97, 110, 107]⟩ : ByteArray), 40, 100, 50, 0, [2000], [70])])), (.int .i64 (-50)), (.int .i64 55), (.int .i64 0), (.int .i64 90), (.imm (.cons (.int .i64) (.one (.int .i64))) (show List (Int × Int) from [(3, 42), (1, 0), (0, 0)])), (.int .i64 4), (.int .i64 5), (.int .i64 1), (.int .i64 500), (.int .i64 0), (.int .i64 0), (.int .i64 0)])]
def fv3 : AV := (.tup [(.agg [(.int .i64 120000000), (.int .i64 8820000), (.int .i64 109897950), (.int .i64 1282050), (.int .i64 70000000)]), (.int .i64 0)])
theorem fact3 : env.ev .closed 60 10 fa3 = some (true, fv3, []) := by kernel_rfl
end Go.Proofs.Ytcjhegiidnjepaa.Ev
