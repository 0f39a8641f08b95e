/- The evaluator computes the plain functions, part 3. Written by a program. -/
import Derived.Test.YtdhgbgbdnifonaaFb1
namespace Go.Proofs.Ytdhgbgbdnifonaa.Ev
set_option linter.unusedVariables false
set_option linter.unusedSimpArgs false
set_option maxRecDepth 100000
/-! f7: sawmill/sawmilllaw20.WorthBest -/
abbrev sg7 : Sig := [(false, R0)]
noncomputable def h7 : List (Nat × List Keep) := hintsOf keeps 7
theorem st7 : fnSt Try.f7 = true := by kernel_rfl
theorem f7_ev (n : Nat) (a0 : List (Int × Int × List (Int × Int)) × List (Int × Int × Int × Int × Int × Int × Int) × ByteArray × Int × Int × Int × Int × List Int × List Int × Int) (a1 : Int × Int × Int × Int) (a2 : Int × Int × Int) : evT (cx tl84 n) h7 (n + 8) Try.f7 sg7 [encV true R4 a0, encV true R5 a1, encV true R19 a2] = f7 n a0 a1 a2 := by
  have h := (by kernel_rfl : evT (cx tl84 n) h7 (n + 8) Try.f7 sg7 [encV true R4 a0, encV true R5 a1, encV true R19 a2] = f7G n a0 a1 a2)
  exact h
noncomputable def sp7 : Sp := fun n => dat1 true R4 fun a0 => dat1 true R5 fun a1 => dat1 true R19 fun a2 => dat0 (ansO sg7 (f7 n a0 a1 a2) false)
theorem sp7_ok {n : Nat} (h : CallOk Try.prog (tabF tl84 n)) : ∀ args r, sp7 n args = some (true, r) → FnOK Try.prog 7 args r := SpR.all (SpR.dat1 fun a0 => SpR.dat1 fun a1 => SpR.dat1 fun a2 => SpR.ansO fun y hy => fnT_ok (cx_ok h) (normal_ok _) Try.func7 (code_ok_of (cx_ok h) st7) ((f7_ev n a0 a1 a2).trans hy))
noncomputable def tl85 : List (Nat × Sp) := (7, sp7) :: tl84
theorem tl85_ok (n : Nat) : CallOk Try.prog (tabF tl85 n) := tabF_cons (tl84_ok n) (known_of Try.func7 (by decide +kernel) (by kernel_rfl)) (sp7_ok (tl84_ok n))
/-! f8: sawmill/sawmilllaw20.WorthDefects -/
abbrev sg8 : Sig := [(false, R0)]
noncomputable def h8 : List (Nat × List Keep) := hintsOf keeps 8
theorem st8 : fnSt Try.f8 = true := by kernel_rfl
theorem f8_ev (n : Nat) (a0 : List (Int × Int × List (Int × Int)) × List (Int × Int × Int × Int × Int × Int × Int) × ByteArray × Int × Int × Int × Int × List Int × List Int × Int) (a1 : Int × Int × Int × Int × Int × Int) (a2 : List (Int × Int × List (Int × Int)) × List (Int × Int × Int × Int × Int × Int × Int) × ByteArray × Int × Int × Int × Int × List Int × List Int × Int) : evT (cx tl85 n) h8 (n + 8) Try.f8 sg8 [encV true R4 a0, encV true R12 a1, encV true R4 a2] = f8 n a0 a1 a2 := by
  have h := (by kernel_rfl : evT (cx tl85 n) h8 (n + 8) Try.f8 sg8 [encV true R4 a0, encV true R12 a1, encV true R4 a2] = f8G n a0 a1 a2)
  exact h
noncomputable def sp8 : Sp := fun n => dat1 true R4 fun a0 => dat1 true R12 fun a1 => dat1 true R4 fun a2 => dat0 (ansO sg8 (f8 n a0 a1 a2) false)
theorem sp8_ok {n : Nat} (h : CallOk Try.prog (tabF tl85 n)) : ∀ args r, sp8 n args = some (true, r) → FnOK Try.prog 8 args r := SpR.all (SpR.dat1 fun a0 => SpR.dat1 fun a1 => SpR.dat1 fun a2 => SpR.ansO fun y hy => fnT_ok (cx_ok h) (normal_ok _) Try.func8 (code_ok_of (cx_ok h) st8) ((f8_ev n a0 a1 a2).trans hy))
noncomputable def tl86 : List (Nat × Sp) := (8, sp8) :: tl85
theorem tl86_ok (n : Nat) : CallOk Try.prog (tabF tl86 n) := tabF_cons (tl85_ok n) (known_of Try.func8 (by decide +kernel) (by kernel_rfl)) (sp8_ok (tl85_ok n))
/-! f28: sawmill/solid.Within -/
abbrev sg28 : Sig := [(false, R3)]
noncomputable def h28 : List (Nat × List Keep) := hintsOf keeps 28
theorem st28 : fnSt Try.f28 = true := by kernel_rfl
noncomputable def b28L5 : Code := sub [1, 1, 1, 0, 1, 0, 0] (bodyOf Try.f28)
def f28L5S (v2 : List (Int × Int × Int × List (Int × Int))) (a1 : Int × Int × Int × Int × Int × Int) (v9 : Int) (v10 : Int) : Sx := ⟨(.node .undef (.node .undef (.node (.ptr 0 0) .nil (.node .undef .nil (.node (.imm R10 v2) .nil .nil))) (.node (.int .i64 v9) .nil (.node .undef .nil (.node (.int .i64 v10) .nil .nil)))) (.node .undef (.node .undef .nil (.node .undef .nil (.node (.int .i64 (v2.length : Int)) .nil .nil))) .nil)), [(0, .box [(.int .i64 a1.1), (.int .i64 a1.2.1), (.int .i64 a1.2.2.1), (.int .i64 a1.2.2.2.1), (.int .i64 a1.2.2.2.2.1), (.int .i64 a1.2.2.2.2.2)])], [], 1⟩
def f28L5X0 (v2 : List (Int × Int × Int × List (Int × Int))) (a1 : Int × Int × Int × Int × Int × Int) (v18 : Int) : Sx := ⟨(.node .undef (.node .undef .nil (.node (.int .i64 v18) .nil .nil)) .nil), [], [], 0⟩
noncomputable def f28L5N (n m : Nat) (s : Sx) (k : Kont (Int)) : Option (Int) := loopN (get h28 15) (evCode (cx tl86 n) h28 (n + 8) b28L5) m s k
theorem f28L5_ok (n : Nat) (v2 : List (Int × Int × Int × List (Int × Int))) (a1 : Int × Int × Int × Int × Int × Int) : ∀ (m : Nat) (v9 : Int) (v10 : Int) (k : Kont (Int)), f28L5N n m (f28L5S v2 a1 v9 v10) k = f28L5 n v2 a1 m v9 v10 (fun v18 => k.x 0 (f28L5X0 v2 a1 v18)) := by
  intro m
  induction m with
  | zero => intros; rfl
  | succ m ih =>
    intro v9 v10 k
    have h := (by kernel_rfl : f28L5N n (m + 1) (f28L5S v2 a1 v9 v10) k = f28L5G n v2 a1 v9 v10 (fun v9 v10 => f28L5N n m (f28L5S v2 a1 v9 v10) k) (fun v18 => k.x 0 (f28L5X0 v2 a1 v18)))
    exact h.trans (congrArg (fun kc => f28L5G n v2 a1 v9 v10 kc (fun v18 => k.x 0 (f28L5X0 v2 a1 v18))) (funext fun v9 => funext fun v10 => ih v9 v10 k))
theorem f28_ev_s1 (n : Nat) (a0 : List (Int × Int × List (Int × Int))) (a1 : Int × Int × Int × Int × Int × Int) : evT (cx tl86 n) h28 (n + 8) Try.f28 sg28 [encV false R8 a0, encV true R12 a1] = f28G n a0 a1 (fun v2 a1 v9 v10 _ => f28L5N n (n + 8) (f28L5S v2 a1 v9 v10) (kAt (cx tl86 n) h28 (n + 8) [1, 1, 1, 0, 1, 0] (bodyOf Try.f28) (konT (cx tl86 n) Try.f28.results.toList sg28))) := by kernel_rfl
theorem f28_ev_s2 (n : Nat) (a0 : List (Int × Int × List (Int × Int))) (a1 : Int × Int × Int × Int × Int × Int) : f28G n a0 a1 (fun v2 a1 v9 v10 _ => f28L5 n v2 a1 (n + 8) v9 v10 (fun v18 => (kAt (cx tl86 n) h28 (n + 8) [1, 1, 1, 0, 1, 0] (bodyOf Try.f28) (konT (cx tl86 n) Try.f28.results.toList sg28)).x 0 (f28L5X0 v2 a1 v18))) = f28G n a0 a1 (fun v2 a1 => f28L5 n v2 a1 (n + 8)) := by kernel_rfl
theorem f28_ev (n : Nat) (a0 : List (Int × Int × List (Int × Int))) (a1 : Int × Int × Int × Int × Int × Int) : evT (cx tl86 n) h28 (n + 8) Try.f28 sg28 [encV false R8 a0, encV true R12 a1] = f28 n a0 a1 := by
  have h := (f28_ev_s1 n a0 a1 : evT (cx tl86 n) h28 (n + 8) Try.f28 sg28 [encV false R8 a0, encV true R12 a1] = f28G n a0 a1 (fun v2 a1 v9 v10 _ => f28L5N n (n + 8) (f28L5S v2 a1 v9 v10) (kAt (cx tl86 n) h28 (n + 8) [1, 1, 1, 0, 1, 0] (bodyOf Try.f28) (konT (cx tl86 n) Try.f28.results.toList sg28))))
  replace h := h.trans (congrArg (fun lp => f28G n a0 a1 lp) (funext fun x0 => funext fun x1 => funext fun x2 => funext fun x3 => funext fun _ => f28L5_ok n x0 x1 (n + 8) x2 x3 (kAt (cx tl86 n) h28 (n + 8) [1, 1, 1, 0, 1, 0] (bodyOf Try.f28) (konT (cx tl86 n) Try.f28.results.toList sg28))))
  replace h := h.trans (f28_ev_s2 n a0 a1 : f28G n a0 a1 (fun v2 a1 v9 v10 _ => f28L5 n v2 a1 (n + 8) v9 v10 (fun v18 => (kAt (cx tl86 n) h28 (n + 8) [1, 1, 1, 0, 1, 0] (bodyOf Try.f28) (konT (cx tl86 n) Try.f28.results.toList sg28)).x 0 (f28L5X0 v2 a1 v18))) = f28G n a0 a1 (fun v2 a1 => f28L5 n v2 a1 (n + 8)))
  exact h
noncomputable def sp28 : Sp := fun n => dat1 false R8 fun a0 => dat1 true R12 fun a1 => dat0 (ansO sg28 (f28 n a0 a1) (0 : Int))
theorem sp28_ok {n : Nat} (h : CallOk Try.prog (tabF tl86 n)) : ∀ args r, sp28 n args = some (true, r) → FnOK Try.prog 28 args r := SpR.all (SpR.dat1 fun a0 => SpR.dat1 fun a1 => SpR.ansO fun y hy => fnT_ok (cx_ok h) (normal_ok _) Try.func28 (code_ok_of (cx_ok h) st28) ((f28_ev n a0 a1).trans hy))
noncomputable def tl87 : List (Nat × Sp) := (28, sp28) :: tl86
theorem tl87_ok (n : Nat) : CallOk Try.prog (tabF tl87 n) := tabF_cons (tl86_ok n) (known_of Try.func28 (by decide +kernel) (by kernel_rfl)) (sp28_ok (tl86_ok n))
/-! f10: sawmill/sawmilllaw20.WorthWood -/
abbrev sg10 : Sig := [(false, R0)]
noncomputable def h10 : List (Nat × List Keep) := hintsOf keeps 10
theorem st10 : fnSt Try.f10 = true := by kernel_rfl
theorem f10_ev (n : Nat) (a0 : List (Int × Int × List (Int × Int))) (a1 : Int × Int × Int × Int × Int × Int) (a2 : Int × Int) : evT (cx tl87 n) h10 (n + 8) Try.f10 sg10 [encV false R8 a0, encV true R12 a1, encV true R6 a2] = f10 n a0 a1 a2 := by
  have h := (by kernel_rfl : evT (cx tl87 n) h10 (n + 8) Try.f10 sg10 [encV false R8 a0, encV true R12 a1, encV true R6 a2] = f10G n a0 a1 a2)
  exact h
noncomputable def sp10 : Sp := fun n => dat1 false R8 fun a0 => dat1 true R12 fun a1 => dat1 true R6 fun a2 => dat0 (ansO sg10 (f10 n a0 a1 a2) false)
theorem sp10_ok {n : Nat} (h : CallOk Try.prog (tabF tl87 n)) : ∀ args r, sp10 n args = some (true, r) → FnOK Try.prog 10 args r := SpR.all (SpR.dat1 fun a0 => SpR.dat1 fun a1 => SpR.dat1 fun a2 => SpR.ansO fun y hy => fnT_ok (cx_ok h) (normal_ok _) Try.func10 (code_ok_of (cx_ok h) st10) ((f10_ev n a0 a1 a2).trans hy))
noncomputable def tl88 : List (Nat × Sp) := (10, sp10) :: tl87
theorem tl88_ok (n : Nat) : CallOk Try.prog (tabF tl88 n) := tabF_cons (tl87_ok n) (known_of Try.func10 (by decide +kernel) (by kernel_rfl)) (sp10_ok (tl87_ok n))
end Go.Proofs.Ytdhgbgbdnifonaa.Ev
