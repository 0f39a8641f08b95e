/- The evaluator computes the plain functions, part 1. Written by a program. -/
import Derived.Test.YtdhgbgbdnifonaaFCa
import Derived.Test.YtdhgbgbdnifonaaAw
import Derived.Test.YtdhgbgbdnifonaaEvZ
import Derived.KernelRfl
namespace Go.Proofs.Ytdhgbgbdnifonaa.Ev
set_option linter.unusedVariables false
set_option linter.unusedSimpArgs false
set_option maxRecDepth 100000
abbrev R0 : Row := (.one .bool)
abbrev R1 : Row := (.one (.int .i64))
abbrev R2 : Row := (.cons (.int .i64) (.cons (.int .i64) (.cons (.int .i64) (.one (.int .i64)))))
abbrev R3 : Row := (.cons (.int .i64) (.cons (.int .i64) (.one (.int .i64))))
noncomputable def tl0 : List (Nat × Sp) := []
theorem tl0_ok (n : Nat) : CallOk Try.prog (tabF tl0 n) := tabF_nil _ n
/-! f29: sawmill/worth.from -/
abbrev sg29 : Sig := [(false, R0)]
noncomputable def h29 : List (Nat × List Keep) := hintsOf keeps 29
theorem st29 : fnSt Try.f29 = true := by kernel_rfl
theorem f29_ev (n : Nat) (a0 : Int) (a1 : Int) (a2 : Int) : evT (cx tl0 n) h29 (n + 8) Try.f29 sg29 [encV false R1 a0, encV false R1 a1, encV false R1 a2] = some (f29 a0 a1 a2) := (by kernel_rfl : evT (cx tl0 n) h29 (n + 8) Try.f29 sg29 [encV false R1 a0, encV false R1 a1, encV false R1 a2] = f29O a0 a1 a2).trans (f29_o a0 a1 a2)
noncomputable def sp29 : Sp := fun n => dat1 false R1 fun a0 => dat1 false R1 fun a1 => dat1 false R1 fun a2 => dat0 (ansT sg29 (f29 a0 a1 a2))
theorem sp29_ok {n : Nat} (h : CallOk Try.prog (tabF tl0 n)) : ∀ args r, sp29 n args = some (true, r) → FnOK Try.prog 29 args r := SpR.all (SpR.dat1 fun a0 => SpR.dat1 fun a1 => SpR.dat1 fun a2 => SpR.ansT (fnT_ok (cx_ok h) (normal_ok _) Try.func29 (code_ok_of (cx_ok h) st29) (f29_ev n a0 a1 a2)))
noncomputable def tl1 : List (Nat × Sp) := (29, sp29) :: tl0
theorem tl1_ok (n : Nat) : CallOk Try.prog (tabF tl1 n) := tabF_cons (tl0_ok n) (known_of Try.func29 (by decide +kernel) (by kernel_rfl)) (sp29_ok (tl0_ok n))
/-! f11: sawmill/worth.Check -/
abbrev sg11 : Sig := [(false, R1)]
noncomputable def h11 : List (Nat × List Keep) := hintsOf keeps 11
theorem st11 : fnSt Try.f11 = true := by kernel_rfl
theorem f11_ev (n : Nat) (a0 : Int × Int × Int × Int) (a1 : Int × Int × Int) : evT (cx tl1 n) h11 (n + 8) Try.f11 sg11 [encV true R2 a0, encV true R3 a1] = some (f11 a0 a1) := (by kernel_rfl : evT (cx tl1 n) h11 (n + 8) Try.f11 sg11 [encV true R2 a0, encV true R3 a1] = f11O a0 a1).trans (f11_o a0 a1)
noncomputable def sp11 : Sp := fun n => dat1 true R2 fun a0 => dat1 true R3 fun a1 => dat0 (ansT sg11 (f11 a0 a1))
theorem sp11_ok {n : Nat} (h : CallOk Try.prog (tabF tl1 n)) : ∀ args r, sp11 n args = some (true, r) → FnOK Try.prog 11 args r := SpR.all (SpR.dat1 fun a0 => SpR.dat1 fun a1 => SpR.ansT (fnT_ok (cx_ok h) (normal_ok _) Try.func11 (code_ok_of (cx_ok h) st11) (f11_ev n a0 a1)))
noncomputable def tl2 : List (Nat × Sp) := (11, sp11) :: tl1
theorem tl2_ok (n : Nat) : CallOk Try.prog (tabF tl2 n) := tabF_cons (tl1_ok n) (known_of Try.func11 (by decide +kernel) (by kernel_rfl)) (sp11_ok (tl1_ok n))
/-! f30: sawmill/sawmillref20.from -/
abbrev sg30 : Sig := [(false, R0)]
noncomputable def h30 : List (Nat × List Keep) := hintsOf keeps 30
theorem st30 : fnSt Try.f30 = true := by kernel_rfl
theorem f30_ev (n : Nat) (a0 : Int) (a1 : Int) (a2 : Int) : evT (cx tl2 n) h30 (n + 8) Try.f30 sg30 [encV false R1 a0, encV false R1 a1, encV false R1 a2] = some (f30 a0 a1 a2) := (by kernel_rfl : evT (cx tl2 n) h30 (n + 8) Try.f30 sg30 [encV false R1 a0, encV false R1 a1, encV false R1 a2] = f30O a0 a1 a2).trans (f30_o a0 a1 a2)
noncomputable def sp30 : Sp := fun n => dat1 false R1 fun a0 => dat1 false R1 fun a1 => dat1 false R1 fun a2 => dat0 (ansT sg30 (f30 a0 a1 a2))
theorem sp30_ok {n : Nat} (h : CallOk Try.prog (tabF tl2 n)) : ∀ args r, sp30 n args = some (true, r) → FnOK Try.prog 30 args r := SpR.all (SpR.dat1 fun a0 => SpR.dat1 fun a1 => SpR.dat1 fun a2 => SpR.ansT (fnT_ok (cx_ok h) (normal_ok _) Try.func30 (code_ok_of (cx_ok h) st30) (f30_ev n a0 a1 a2)))
noncomputable def tl3 : List (Nat × Sp) := (30, sp30) :: tl2
theorem tl3_ok (n : Nat) : CallOk Try.prog (tabF tl3 n) := tabF_cons (tl2_ok n) (known_of Try.func30 (by decide +kernel) (by kernel_rfl)) (sp30_ok (tl2_ok n))
/-! f12: sawmill/sawmillref20.Check -/
abbrev sg12 : Sig := [(false, R1)]
noncomputable def h12 : List (Nat × List Keep) := hintsOf keeps 12
theorem st12 : fnSt Try.f12 = true := by kernel_rfl
theorem f12_ev (n : Nat) (a0 : Int × Int × Int × Int) (a1 : Int × Int × Int) : evT (cx tl3 n) h12 (n + 8) Try.f12 sg12 [encV true R2 a0, encV true R3 a1] = some (f12 a0 a1) := (by kernel_rfl : evT (cx tl3 n) h12 (n + 8) Try.f12 sg12 [encV true R2 a0, encV true R3 a1] = f12O a0 a1).trans (f12_o a0 a1)
noncomputable def sp12 : Sp := fun n => dat1 true R2 fun a0 => dat1 true R3 fun a1 => dat0 (ansT sg12 (f12 a0 a1))
theorem sp12_ok {n : Nat} (h : CallOk Try.prog (tabF tl3 n)) : ∀ args r, sp12 n args = some (true, r) → FnOK Try.prog 12 args r := SpR.all (SpR.dat1 fun a0 => SpR.dat1 fun a1 => SpR.ansT (fnT_ok (cx_ok h) (normal_ok _) Try.func12 (code_ok_of (cx_ok h) st12) (f12_ev n a0 a1)))
noncomputable def tl4 : List (Nat × Sp) := (12, sp12) :: tl3
theorem tl4_ok (n : Nat) : CallOk Try.prog (tabF tl4 n) := tabF_cons (tl3_ok n) (known_of Try.func12 (by decide +kernel) (by kernel_rfl)) (sp12_ok (tl3_ok n))
/-! f13: sawmill/sawmilllaw20.awake -/
abbrev sg13 : Sig := [(false, R0)]
noncomputable def sp13 : Sp := fun _ => dat0 (ansT sg13 true)
noncomputable def tl5 : List (Nat × Sp) := (13, sp13) :: tl4
theorem tl5_ok (n : Nat) : CallOk Try.prog (tabF tl5 n) := tabF_cons (tl4_ok n) (known_of Try.func13 (by decide +kernel) (by kernel_rfl)) (SpR.all (SpR.ansT given13))
/-! f3: sawmill/sawmilllaw20.WorthChecks -/
abbrev sg3 : Sig := [(false, R0)]
noncomputable def h3 : List (Nat × List Keep) := hintsOf keeps 3
theorem st3 : fnSt Try.f3 = true := by kernel_rfl
theorem f3_ev (n : Nat) (a0 : Int × Int × Int × Int) (a1 : Int × Int × Int) : evT (cx tl5 n) h3 (n + 8) Try.f3 sg3 [encV true R2 a0, encV true R3 a1] = some (f3 a0 a1) := (by kernel_rfl : evT (cx tl5 n) h3 (n + 8) Try.f3 sg3 [encV true R2 a0, encV true R3 a1] = f3O a0 a1).trans (f3_o a0 a1)
noncomputable def sp3 : Sp := fun n => dat1 true R2 fun a0 => dat1 true R3 fun a1 => dat0 (ansT sg3 (f3 a0 a1))
theorem sp3_ok {n : Nat} (h : CallOk Try.prog (tabF tl5 n)) : ∀ args r, sp3 n args = some (true, r) → FnOK Try.prog 3 args r := SpR.all (SpR.dat1 fun a0 => SpR.dat1 fun a1 => SpR.ansT (fnT_ok (cx_ok h) (normal_ok _) Try.func3 (code_ok_of (cx_ok h) st3) (f3_ev n a0 a1)))
noncomputable def tl6 : List (Nat × Sp) := (3, sp3) :: tl5
theorem tl6_ok (n : Nat) : CallOk Try.prog (tabF tl6 n) := tabF_cons (tl5_ok n) (known_of Try.func3 (by decide +kernel) (by kernel_rfl)) (sp3_ok (tl5_ok n))
end Go.Proofs.Ytdhgbgbdnifonaa.Ev
