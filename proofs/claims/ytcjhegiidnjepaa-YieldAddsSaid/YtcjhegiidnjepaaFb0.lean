/- The evaluator computes the plain functions, part 1. Written by a program. -/
import Derived.Test.YtcjhegiidnjepaaFa
import Derived.Test.YtcjhegiidnjepaaAw
import Derived.Test.YtcjhegiidnjepaaEvZ
import Derived.KernelRfl
namespace Go.Proofs.Ytcjhegiidnjepaa.Ev
set_option linter.unusedVariables false
set_option linter.unusedSimpArgs false
set_option maxRecDepth 100000
abbrev R0 : Row := (.one .bool)
abbrev R1 : Row := (.one (.int .i64))
abbrev R2 : Row := (.cons (.int .i64) (.cons (.int .i64) (.cons (.int .i64) (.cons (.int .i64) (.one (.int .i64))))))
abbrev R3 : Row := (.one (.int .u64))
noncomputable def tl0 : List (Nat × Sp) := []
theorem tl0_ok (n : Nat) : CallOk Try.prog (tabF tl0 n) := tabF_nil _ n
/-! f26: sawmill/yield.within -/
abbrev sg26 : Sig := [(false, R0)]
noncomputable def h26 : List (Nat × List Keep) := hintsOf keeps 26
theorem st26 : fnSt Try.f26 = true := by kernel_rfl
noncomputable def b26L2 : Code := sub [1, 0, 1, 0, 0] (bodyOf Try.f26)
def f26L2S (v1 : List (Int)) (a0 : Int × Int × Int × Int × Int) (v3 : Int) : Sx := ⟨(.node .undef (.node (.ptr 0 0) (.node .undef (.node .undef (.node (.int .i64 v3) .nil .nil) .nil) .nil) (.node .undef .nil (.node (.own 1) .nil .nil))) (.node .undef .nil (.node .undef .nil (.node (.int .i64 (v1.length : Int)) .nil .nil)))), [(0, .box [(.int .i64 a0.1), (.int .i64 a0.2.1), (.int .i64 a0.2.2.1), (.int .i64 a0.2.2.2.1), (.int .i64 a0.2.2.2.2)]), (1, .row R1 v1)], [], 2⟩
def f26L2Xret (v1 : List (Int)) (a0 : Int × Int × Int × Int × Int) : Sx := ⟨(.node .undef .nil (.node (.bool false) .nil .nil)), [], [], 0⟩
def f26L2X0 (v1 : List (Int)) (a0 : Int × Int × Int × Int × Int) : Sx := ⟨(.node .undef (.node (.ptr 0 0) .nil .nil) .nil), [(0, .box [(.int .i64 a0.1), (.int .i64 a0.2.1), (.int .i64 a0.2.2.1), (.int .i64 a0.2.2.2.1), (.int .i64 a0.2.2.2.2)])], [], 1⟩
noncomputable def f26L2N (n N m : Nat) (s : Sx) (k : Kont (Bool)) : Option (Bool) := loopN (get h26 6) (evCode (cx tl0 n h26) h26 N b26L2) m s k
theorem f26L2_ok (n N : Nat) (v1 : List (Int)) (a0 : Int × Int × Int × Int × Int) : ∀ (m : Nat) (v3 : Int) (k : Kont (Bool)), f26L2N n N m (f26L2S v1 a0 v3) k = f26L2 n v1 a0 m v3 (k.r (f26L2Xret v1 a0)) (k.x 0 (f26L2X0 v1 a0)) := by
  intro m
  induction m with
  | zero => intros; rfl
  | succ m ih =>
    intro v3 k
    have h := (by kernel_rfl : f26L2N n N (m + 1) (f26L2S v1 a0 v3) k = f26L2G n v1 a0 v3 (fun v3 => f26L2N n N m (f26L2S v1 a0 v3) k) (k.r (f26L2Xret v1 a0)) (k.x 0 (f26L2X0 v1 a0)))
    exact h.trans (congrArg (fun kc => f26L2G n v1 a0 v3 kc (k.r (f26L2Xret v1 a0)) (k.x 0 (f26L2X0 v1 a0))) (funext fun v3 => ih v3 k))
theorem f26_ev_s1 (n N : Nat) (a0 : Int × Int × Int × Int × Int) : evT (cx tl0 n h26) h26 N Try.f26 sg26 [encV true R2 a0] = f26G n a0 (fun v1 a0 v3 _ _ => f26L2N n N N (f26L2S v1 a0 v3) (kAt (cx tl0 n h26) h26 N [1, 0, 1, 0] (bodyOf Try.f26) (konT (cx tl0 n h26) Try.f26.results.toList sg26))) := by kernel_rfl
theorem f26_ev_s2 (n N : Nat) (a0 : Int × Int × Int × Int × Int) : f26G n a0 (fun v1 a0 v3 _ _ => f26L2 n v1 a0 N v3 ((kAt (cx tl0 n h26) h26 N [1, 0, 1, 0] (bodyOf Try.f26) (konT (cx tl0 n h26) Try.f26.results.toList sg26)).r (f26L2Xret v1 a0)) ((kAt (cx tl0 n h26) h26 N [1, 0, 1, 0] (bodyOf Try.f26) (konT (cx tl0 n h26) Try.f26.results.toList sg26)).x 0 (f26L2X0 v1 a0))) = f26G n a0 (fun v1 a0 => f26L2 n v1 a0 N) := by kernel_rfl
theorem f26_ev (n : Nat) (a0 : Int × Int × Int × Int × Int) : evT (cx tl0 n h26) h26 (n + 8) Try.f26 sg26 [encV true R2 a0] = f26 n a0 := by
  have h := (f26_ev_s1 n (n + 8) a0 : evT (cx tl0 n h26) h26 (n + 8) Try.f26 sg26 [encV true R2 a0] = f26G n a0 (fun v1 a0 v3 _ _ => f26L2N n (n + 8) (n + 8) (f26L2S v1 a0 v3) (kAt (cx tl0 n h26) h26 (n + 8) [1, 0, 1, 0] (bodyOf Try.f26) (konT (cx tl0 n h26) Try.f26.results.toList sg26))))
  replace h := h.trans (congrArg (fun lp => f26G n a0 lp) (funext fun x0 => funext fun x1 => funext fun x2 => funext fun _ => funext fun _ => f26L2_ok n (n + 8) x0 x1 (n + 8) x2 (kAt (cx tl0 n h26) h26 (n + 8) [1, 0, 1, 0] (bodyOf Try.f26) (konT (cx tl0 n h26) Try.f26.results.toList sg26))))
  replace h := h.trans (f26_ev_s2 n (n + 8) a0 : f26G n a0 (fun v1 a0 v3 _ _ => f26L2 n v1 a0 (n + 8) v3 ((kAt (cx tl0 n h26) h26 (n + 8) [1, 0, 1, 0] (bodyOf Try.f26) (konT (cx tl0 n h26) Try.f26.results.toList sg26)).r (f26L2Xret v1 a0)) ((kAt (cx tl0 n h26) h26 (n + 8) [1, 0, 1, 0] (bodyOf Try.f26) (konT (cx tl0 n h26) Try.f26.results.toList sg26)).x 0 (f26L2X0 v1 a0))) = f26G n a0 (fun v1 a0 => f26L2 n v1 a0 (n + 8)))
  exact h
noncomputable def sp26 : Sp := fun n => dat1 true R2 fun a0 => dat0 (ansO sg26 (f26 n a0) false)
theorem sp26_ok {n : Nat} (h : CallOk Try.prog (tabF tl0 n)) : ∀ args r, sp26 n args = some (true, r) → FnOK Try.prog 26 args r := SpR.all (SpR.dat1 fun a0 => SpR.ansO fun y hy => fnT_ok (cx_ok h) rfl (normal_ok _) Try.func26 (code_ok_of (cx_ok h) st26) ((f26_ev n a0).trans hy))
noncomputable def tl1 : List (Nat × Sp) := (26, sp26) :: tl0
theorem tl1_ok (n : Nat) : CallOk Try.prog (tabF tl1 n) := tabF_cons (tl0_ok n) (known_of Try.func26 (by decide +kernel) (by kernel_rfl)) (sp26_ok (tl0_ok n))
/-! f18: sawmill/yield.Add -/
abbrev sg18 : Sig := [(true, R2), (false, R1)]
noncomputable def h18 : List (Nat × List Keep) := hintsOf keeps 18
theorem st18 : fnSt Try.f18 = true := by kernel_rfl
theorem f18_ev (n : Nat) (a0 : Int × Int × Int × Int × Int) (a1 : Int × Int × Int × Int × Int) : evT (cx tl1 n h18) h18 (n + 8) Try.f18 sg18 [encV true R2 a0, encV true R2 a1] = f18 n a0 a1 := by
  have h := (by kernel_rfl : evT (cx tl1 n h18) h18 (n + 8) Try.f18 sg18 [encV true R2 a0, encV true R2 a1] = f18G n a0 a1)
  exact h
noncomputable def sp18 : Sp := fun n => dat1 true R2 fun a0 => dat1 true R2 fun a1 => dat0 (ansO sg18 (f18 n a0 a1) (((0 : Int), (0 : Int), (0 : Int), (0 : Int), (0 : Int)), (0 : Int)))
theorem sp18_ok {n : Nat} (h : CallOk Try.prog (tabF tl1 n)) : ∀ args r, sp18 n args = some (true, r) → FnOK Try.prog 18 args r := SpR.all (SpR.dat1 fun a0 => SpR.dat1 fun a1 => SpR.ansO fun y hy => fnT_ok (cx_ok h) rfl (normal_ok _) Try.func18 (code_ok_of (cx_ok h) st18) ((f18_ev n a0 a1).trans hy))
noncomputable def tl2 : List (Nat × Sp) := (18, sp18) :: tl1
theorem tl2_ok (n : Nat) : CallOk Try.prog (tabF tl2 n) := tabF_cons (tl1_ok n) (known_of Try.func18 (by decide +kernel) (by kernel_rfl)) (sp18_ok (tl1_ok n))
/-! f33: sawmill/sawmillref22.fits -/
abbrev sg33 : Sig := [(false, R0)]
noncomputable def h33 : List (Nat × List Keep) := hintsOf keeps 33
theorem st33 : fnSt Try.f33 = true := by kernel_rfl
theorem f33_ev (n : Nat) (a0 : Int) : evT (cx tl2 n h33) h33 (n + 8) Try.f33 sg33 [encV false R1 a0] = some (f33 a0) := (by kernel_rfl : evT (cx tl2 n h33) h33 (n + 8) Try.f33 sg33 [encV false R1 a0] = f33O a0).trans (f33_o a0)
noncomputable def sp33 : Sp := fun n => dat1 false R1 fun a0 => dat0 (ansT sg33 (f33 a0))
theorem sp33_ok {n : Nat} (h : CallOk Try.prog (tabF tl2 n)) : ∀ args r, sp33 n args = some (true, r) → FnOK Try.prog 33 args r := SpR.all (SpR.dat1 fun a0 => SpR.ansT (fnT_ok (cx_ok h) rfl (normal_ok _) Try.func33 (code_ok_of (cx_ok h) st33) (f33_ev n a0)))
noncomputable def tl3 : List (Nat × Sp) := (33, sp33) :: tl2
theorem tl3_ok (n : Nat) : CallOk Try.prog (tabF tl3 n) := tabF_cons (tl2_ok n) (known_of Try.func33 (by decide +kernel) (by kernel_rfl)) (sp33_ok (tl2_ok n))
/-! f32: sawmill/sawmillref22.valid -/
abbrev sg32 : Sig := [(false, R0)]
noncomputable def h32 : List (Nat × List Keep) := hintsOf keeps 32
theorem st32 : fnSt Try.f32 = true := by kernel_rfl
theorem f32_ev (n : Nat) (a0 : Int × Int × Int × Int × Int) : evT (cx tl3 n h32) h32 (n + 8) Try.f32 sg32 [encV true R2 a0] = some (f32 a0) := (by kernel_rfl : evT (cx tl3 n h32) h32 (n + 8) Try.f32 sg32 [encV true R2 a0] = f32O a0).trans (f32_o a0)
noncomputable def sp32 : Sp := fun n => dat1 true R2 fun a0 => dat0 (ansT sg32 (f32 a0))
theorem sp32_ok {n : Nat} (h : CallOk Try.prog (tabF tl3 n)) : ∀ args r, sp32 n args = some (true, r) → FnOK Try.prog 32 args r := SpR.all (SpR.dat1 fun a0 => SpR.ansT (fnT_ok (cx_ok h) rfl (normal_ok _) Try.func32 (code_ok_of (cx_ok h) st32) (f32_ev n a0)))
noncomputable def tl4 : List (Nat × Sp) := (32, sp32) :: tl3
theorem tl4_ok (n : Nat) : CallOk Try.prog (tabF tl4 n) := tabF_cons (tl3_ok n) (known_of Try.func32 (by decide +kernel) (by kernel_rfl)) (sp32_ok (tl3_ok n))
/-! f19: sawmill/sawmillref22.Add -/
abbrev sg19 : Sig := [(true, R2), (false, R1)]
noncomputable def h19 : List (Nat × List Keep) := hintsOf keeps 19
theorem st19 : fnSt Try.f19 = true := by kernel_rfl
theorem f19_ev (n : Nat) (a0 : Int × Int × Int × Int × Int) (a1 : Int × Int × Int × Int × Int) : evT (cx tl4 n h19) h19 (n + 8) Try.f19 sg19 [encV true R2 a0, encV true R2 a1] = some (f19 a0 a1) := (by kernel_rfl : evT (cx tl4 n h19) h19 (n + 8) Try.f19 sg19 [encV true R2 a0, encV true R2 a1] = f19O a0 a1).trans (f19_o a0 a1)
noncomputable def sp19 : Sp := fun n => dat1 true R2 fun a0 => dat1 true R2 fun a1 => dat0 (ansT sg19 (f19 a0 a1))
theorem sp19_ok {n : Nat} (h : CallOk Try.prog (tabF tl4 n)) : ∀ args r, sp19 n args = some (true, r) → FnOK Try.prog 19 args r := SpR.all (SpR.dat1 fun a0 => SpR.dat1 fun a1 => SpR.ansT (fnT_ok (cx_ok h) rfl (normal_ok _) Try.func19 (code_ok_of (cx_ok h) st19) (f19_ev n a0 a1)))
noncomputable def tl5 : List (Nat × Sp) := (19, sp19) :: tl4
theorem tl5_ok (n : Nat) : CallOk Try.prog (tabF tl5 n) := tabF_cons (tl4_ok n) (known_of Try.func19 (by decide +kernel) (by kernel_rfl)) (sp19_ok (tl4_ok n))
/-! f12: sawmill/yield.Balanced -/
abbrev sg12 : Sig := [(false, R0)]
noncomputable def h12 : List (Nat × List Keep) := hintsOf keeps 12
theorem st12 : fnSt Try.f12 = true := by kernel_rfl
theorem f12_ev (n : Nat) (a0 : Int × Int × Int × Int × Int) : evT (cx tl5 n h12) h12 (n + 8) Try.f12 sg12 [encV true R2 a0] = f12 n a0 := by
  have h := (by kernel_rfl : evT (cx tl5 n h12) h12 (n + 8) Try.f12 sg12 [encV true R2 a0] = f12G n a0)
  exact h
noncomputable def sp12 : Sp := fun n => dat1 true R2 fun a0 => dat0 (ansO sg12 (f12 n a0) false)
theorem sp12_ok {n : Nat} (h : CallOk Try.prog (tabF tl5 n)) : ∀ args r, sp12 n args = some (true, r) → FnOK Try.prog 12 args r := SpR.all (SpR.dat1 fun a0 => SpR.ansO fun y hy => fnT_ok (cx_ok h) rfl (normal_ok _) Try.func12 (code_ok_of (cx_ok h) st12) ((f12_ev n a0).trans hy))
noncomputable def tl6 : List (Nat × Sp) := (12, sp12) :: tl5
theorem tl6_ok (n : Nat) : CallOk Try.prog (tabF tl6 n) := tabF_cons (tl5_ok n) (known_of Try.func12 (by decide +kernel) (by kernel_rfl)) (sp12_ok (tl5_ok n))
/-! f20: sawmill/sawmillref22.Balanced -/
abbrev sg20 : Sig := [(false, R0)]
noncomputable def h20 : List (Nat × List Keep) := hintsOf keeps 20
theorem st20 : fnSt Try.f20 = true := by kernel_rfl
theorem f20_ev (n : Nat) (a0 : Int × Int × Int × Int × Int) : evT (cx tl6 n h20) h20 (n + 8) Try.f20 sg20 [encV true R2 a0] = some (f20 a0) := (by kernel_rfl : evT (cx tl6 n h20) h20 (n + 8) Try.f20 sg20 [encV true R2 a0] = f20O a0).trans (f20_o a0)
noncomputable def sp20 : Sp := fun n => dat1 true R2 fun a0 => dat0 (ansT sg20 (f20 a0))
theorem sp20_ok {n : Nat} (h : CallOk Try.prog (tabF tl6 n)) : ∀ args r, sp20 n args = some (true, r) → FnOK Try.prog 20 args r := SpR.all (SpR.dat1 fun a0 => SpR.ansT (fnT_ok (cx_ok h) rfl (normal_ok _) Try.func20 (code_ok_of (cx_ok h) st20) (f20_ev n a0)))
noncomputable def tl7 : List (Nat × Sp) := (20, sp20) :: tl6
theorem tl7_ok (n : Nat) : CallOk Try.prog (tabF tl7 n) := tabF_cons (tl6_ok n) (known_of Try.func20 (by decide +kernel) (by kernel_rfl)) (sp20_ok (tl6_ok n))
/-! f46: sawmill/units.magnitude -/
abbrev sg46 : Sig := [(false, R3)]
noncomputable def h46 : List (Nat × List Keep) := hintsOf keeps 46
theorem st46 : fnSt Try.f46 = true := by kernel_rfl
theorem f46_ev (n : Nat) (a0 : Int) : evT (cx tl7 n h46) h46 (n + 8) Try.f46 sg46 [encV false R1 a0] = some (f46 a0) := (by kernel_rfl : evT (cx tl7 n h46) h46 (n + 8) Try.f46 sg46 [encV false R1 a0] = f46O a0).trans (f46_o a0)
noncomputable def sp46 : Sp := fun n => dat1 false R1 fun a0 => dat0 (ansT sg46 (f46 a0))
theorem sp46_ok {n : Nat} (h : CallOk Try.prog (tabF tl7 n)) : ∀ args r, sp46 n args = some (true, r) → FnOK Try.prog 46 args r := SpR.all (SpR.dat1 fun a0 => SpR.ansT (fnT_ok (cx_ok h) rfl (normal_ok _) Try.func46 (code_ok_of (cx_ok h) st46) (f46_ev n a0)))
noncomputable def tl8 : List (Nat × Sp) := (46, sp46) :: tl7
theorem tl8_ok (n : Nat) : CallOk Try.prog (tabF tl8 n) := tabF_cons (tl7_ok n) (known_of Try.func46 (by decide +kernel) (by kernel_rfl)) (sp46_ok (tl7_ok n))
/-! f45: math/bits.Mul64 -/
abbrev sg45 : Sig := [(false, R3), (false, R3)]
noncomputable def h45 : List (Nat × List Keep) := hintsOf keeps 45
theorem st45 : fnSt Try.f45 = true := by kernel_rfl
theorem f45_ev (n : Nat) (a0 : Int) (a1 : Int) : evT (cx tl8 n h45) h45 (n + 8) Try.f45 sg45 [encV false R3 a0, encV false R3 a1] = some (f45 a0 a1) := (by kernel_rfl : evT (cx tl8 n h45) h45 (n + 8) Try.f45 sg45 [encV false R3 a0, encV false R3 a1] = f45O a0 a1).trans (f45_o a0 a1)
noncomputable def sp45 : Sp := fun n => dat1 false R3 fun a0 => dat1 false R3 fun a1 => dat0 (ansT sg45 (f45 a0 a1))
theorem sp45_ok {n : Nat} (h : CallOk Try.prog (tabF tl8 n)) : ∀ args r, sp45 n args = some (true, r) → FnOK Try.prog 45 args r := SpR.all (SpR.dat1 fun a0 => SpR.dat1 fun a1 => SpR.ansT (fnT_ok (cx_ok h) rfl (normal_ok _) Try.func45 (code_ok_of (cx_ok h) st45) (f45_ev n a0 a1)))
noncomputable def tl9 : List (Nat × Sp) := (45, sp45) :: tl8
theorem tl9_ok (n : Nat) : CallOk Try.prog (tabF tl9 n) := tabF_cons (tl8_ok n) (known_of Try.func45 (by decide +kernel) (by kernel_rfl)) (sp45_ok (tl8_ok n))
/-! f77: math/bits.Len64 -/
abbrev sg77 : Sig := [(false, R1)]
noncomputable def h77 : List (Nat × List Keep) := hintsOf keeps 77
theorem st77 : fnSt Try.f77 = true := by kernel_rfl
theorem f77_ev (n : Nat) (a0 : Int) : evT (cx tl9 n h77) h77 (n + 8) Try.f77 sg77 [encV false R3 a0] = f77 a0 := by
  have h := (by kernel_rfl : evT (cx tl9 n h77) h77 (n + 8) Try.f77 sg77 [encV false R3 a0] = f77G a0)
  exact h
noncomputable def sp77 : Sp := fun n => dat1 false R3 fun a0 => dat0 (ansO sg77 (f77 a0) (0 : Int))
theorem sp77_ok {n : Nat} (h : CallOk Try.prog (tabF tl9 n)) : ∀ args r, sp77 n args = some (true, r) → FnOK Try.prog 77 args r := SpR.all (SpR.dat1 fun a0 => SpR.ansO fun y hy => fnT_ok (cx_ok h) rfl (normal_ok _) Try.func77 (code_ok_of (cx_ok h) st77) ((f77_ev n a0).trans hy))
noncomputable def tl10 : List (Nat × Sp) := (77, sp77) :: tl9
theorem tl10_ok (n : Nat) : CallOk Try.prog (tabF tl10 n) := tabF_cons (tl9_ok n) (known_of Try.func77 (by decide +kernel) (by kernel_rfl)) (sp77_ok (tl9_ok n))
/-! f60: math/bits.LeadingZeros64 -/
abbrev sg60 : Sig := [(false, R1)]
noncomputable def h60 : List (Nat × List Keep) := hintsOf keeps 60
theorem st60 : fnSt Try.f60 = true := by kernel_rfl
theorem f60_ev (n : Nat) (a0 : Int) : evT (cx tl10 n h60) h60 (n + 8) Try.f60 sg60 [encV false R3 a0] = f60 a0 := by
  have h := (by kernel_rfl : evT (cx tl10 n h60) h60 (n + 8) Try.f60 sg60 [encV false R3 a0] = f60G a0)
  exact h
noncomputable def sp60 : Sp := fun n => dat1 false R3 fun a0 => dat0 (ansO sg60 (f60 a0) (0 : Int))
theorem sp60_ok {n : Nat} (h : CallOk Try.prog (tabF tl10 n)) : ∀ args r, sp60 n args = some (true, r) → FnOK Try.prog 60 args r := SpR.all (SpR.dat1 fun a0 => SpR.ansO fun y hy => fnT_ok (cx_ok h) rfl (normal_ok _) Try.func60 (code_ok_of (cx_ok h) st60) ((f60_ev n a0).trans hy))
noncomputable def tl11 : List (Nat × Sp) := (60, sp60) :: tl10
theorem tl11_ok (n : Nat) : CallOk Try.prog (tabF tl11 n) := tabF_cons (tl10_ok n) (known_of Try.func60 (by decide +kernel) (by kernel_rfl)) (sp60_ok (tl10_ok n))
/-! f47: math/bits.Div64 -/
abbrev sg47 : Sig := [(false, R3), (false, R3)]
noncomputable def h47 : List (Nat × List Keep) := hintsOf keeps 47
theorem st47 : fnSt Try.f47 = true := by kernel_rfl
noncomputable def b47L17 : Code := sub [1, 1, 1, 1, 1, 1, 1, 1, 1, 1, 1, 1, 1, 1, 0, 0, 0] (bodyOf Try.f47)
def f47L17S (v6 : Int) (v5 : Int) (v7 : Int) (v8 : Int) (v12 : Int) (v14 : Int) (v15 : Int) (v26 : Int) (v27 : Int) : Sx := ⟨(.node .undef (.node .undef (.node .undef (.node .undef (.node (.int .u64 v26) .nil .nil) .nil) (.node (.int .u64 v12) .nil .nil)) (.node .undef (.node (.int .u64 v7) .nil .nil) (.node (.int .u64 v14) .nil .nil))) (.node (.int .u64 v6) (.node .undef (.node (.int .u64 v5) (.node (.int .u64 v27) .nil .nil) .nil) .nil) (.node .undef (.node (.int .u64 v8) .nil .nil) (.node (.int .u64 v15) .nil .nil)))), [], [], 0⟩
def f47L17X0 (v6 : Int) (v5 : Int) (v7 : Int) (v8 : Int) (v12 : Int) (v14 : Int) (v15 : Int) (v35 : Int) : Sx := ⟨(.node .undef (.node .undef (.node .undef (.node .undef (.node (.int .u64 v35) .nil .nil) .nil) (.node (.int .u64 v12) .nil .nil)) (.node .undef (.node (.int .u64 v7) .nil .nil) (.node (.int .u64 v14) .nil .nil))) (.node (.int .u64 v6) (.node .undef (.node (.int .u64 v5) .nil .nil) .nil) (.node .undef (.node (.int .u64 v8) .nil .nil) (.node (.int .u64 v15) .nil .nil)))), [], [], 0⟩
noncomputable def f47L17N (n N m : Nat) (s : Sx) (k : Kont (Int × Int)) : Option (Int × Int) := loopN (get h47 51) (evCode (cx tl11 n h47) h47 N b47L17) m s k
theorem f47L17_ok (n N : Nat) (v6 : Int) (v5 : Int) (v7 : Int) (v8 : Int) (v12 : Int) (v14 : Int) (v15 : Int) : ∀ (m : Nat) (v26 : Int) (v27 : Int) (k : Kont (Int × Int)), f47L17N n N m (f47L17S v6 v5 v7 v8 v12 v14 v15 v26 v27) k = f47L17 n v6 v5 v7 v8 v12 v14 v15 m v26 v27 (fun v35 => k.x 0 (f47L17X0 v6 v5 v7 v8 v12 v14 v15 v35)) := by
  intro m
  induction m with
  | zero => intros; rfl
  | succ m ih =>
    intro v26 v27 k
    have h := (by kernel_rfl : f47L17N n N (m + 1) (f47L17S v6 v5 v7 v8 v12 v14 v15 v26 v27) k = f47L17G n v6 v5 v7 v8 v12 v14 v15 v26 v27 (fun v26 v27 => f47L17N n N m (f47L17S v6 v5 v7 v8 v12 v14 v15 v26 v27) k) (fun v35 => k.x 0 (f47L17X0 v6 v5 v7 v8 v12 v14 v15 v35)))
    exact h.trans (congrArg (fun kc => f47L17G n v6 v5 v7 v8 v12 v14 v15 v26 v27 kc (fun v35 => k.x 0 (f47L17X0 v6 v5 v7 v8 v12 v14 v15 v35))) (funext fun v26 => funext fun v27 => ih v26 v27 k))
noncomputable def b47L24 : Code := sub [1, 1, 1, 1, 1, 1, 1, 1, 1, 1, 1, 1, 1, 1, 1, 1, 1, 1, 0, 0, 0] (bodyOf Try.f47)
def f47L24S (v6 : Int) (v5 : Int) (v7 : Int) (v8 : Int) (v15 : Int) (v36 : Int) (v40 : Int) (v51 : Int) (v52 : Int) : Sx := ⟨(.node .undef (.node .undef (.node .undef (.node .undef (.node (.int .u64 v36) .nil .nil) .nil) .nil) (.node .undef (.node (.int .u64 v7) (.node (.int .u64 v40) .nil .nil) .nil) .nil)) (.node (.int .u64 v6) (.node .undef (.node (.int .u64 v5) (.node (.int .u64 v51) .nil .nil) .nil) .nil) (.node .undef (.node (.int .u64 v8) (.node (.int .u64 v52) .nil .nil) .nil) (.node (.int .u64 v15) .nil .nil)))), [], [], 0⟩
def f47L24X2 (v6 : Int) (v5 : Int) (v7 : Int) (v8 : Int) (v15 : Int) (v36 : Int) (v40 : Int) (v60 : Int) : Sx := ⟨(.node .undef (.node .undef (.node .undef (.node .undef (.node (.int .u64 v36) .nil .nil) .nil) .nil) (.node .undef (.node .undef (.node (.int .u64 v40) .nil .nil) .nil) .nil)) (.node (.int .u64 v6) (.node .undef (.node (.int .u64 v5) .nil .nil) .nil) (.node .undef (.node .undef (.node (.int .u64 v60) .nil .nil) .nil) (.node (.int .u64 v15) .nil .nil)))), [], [], 0⟩
noncomputable def f47L24N (n N m : Nat) (s : Sx) (k : Kont (Int × Int)) : Option (Int × Int) := loopN (get h47 72) (evCode (cx tl11 n h47) h47 N b47L24) m s k
theorem f47L24_ok (n N : Nat) (v6 : Int) (v5 : Int) (v7 : Int) (v8 : Int) (v15 : Int) (v36 : Int) (v40 : Int) : ∀ (m : Nat) (v51 : Int) (v52 : Int) (k : Kont (Int × Int)), f47L24N n N m (f47L24S v6 v5 v7 v8 v15 v36 v40 v51 v52) k = f47L24 n v6 v5 v7 v8 v15 v36 v40 m v51 v52 (fun v60 => k.x 2 (f47L24X2 v6 v5 v7 v8 v15 v36 v40 v60)) := by
  intro m
  induction m with
  | zero => intros; rfl
  | succ m ih =>
    intro v51 v52 k
    have h := (by kernel_rfl : f47L24N n N (m + 1) (f47L24S v6 v5 v7 v8 v15 v36 v40 v51 v52) k = f47L24G n v6 v5 v7 v8 v15 v36 v40 v51 v52 (fun v51 v52 => f47L24N n N m (f47L24S v6 v5 v7 v8 v15 v36 v40 v51 v52) k) (fun v60 => k.x 2 (f47L24X2 v6 v5 v7 v8 v15 v36 v40 v60)))
    exact h.trans (congrArg (fun kc => f47L24G n v6 v5 v7 v8 v15 v36 v40 v51 v52 kc (fun v60 => k.x 2 (f47L24X2 v6 v5 v7 v8 v15 v36 v40 v60))) (funext fun v51 => funext fun v52 => ih v51 v52 k))
theorem f47_ev_s1 (n N : Nat) (a0 : Int) (a1 : Int) (a2 : Int) : evT (cx tl11 n h47) h47 N Try.f47 sg47 [encV false R3 a0, encV false R3 a1, encV false R3 a2] = f47G n a0 a1 a2 (fun v6 v5 v7 v8 v12 v14 v15 v26 v27 _ => f47L17N n N N (f47L17S v6 v5 v7 v8 v12 v14 v15 v26 v27) (kAt (cx tl11 n h47) h47 N [1, 1, 1, 1, 1, 1, 1, 1, 1, 1, 1, 1, 1, 1, 0, 0] (bodyOf Try.f47) (konT (cx tl11 n h47) Try.f47.results.toList sg47))) (fun v6 v5 v7 v8 v15 v36 v40 v51 v52 _ => f47L24N n N N (f47L24S v6 v5 v7 v8 v15 v36 v40 v51 v52) (kAt (cx tl11 n h47) h47 N [1, 1, 1, 1, 1, 1, 1, 1, 1, 1, 1, 1, 1, 1, 1, 1, 1, 1, 0, 0] (bodyOf Try.f47) (konT (cx tl11 n h47) Try.f47.results.toList sg47))) := by kernel_rfl
theorem f47_ev_s2 (n N : Nat) (a0 : Int) (a1 : Int) (a2 : Int) : f47G n a0 a1 a2 (fun v6 v5 v7 v8 v12 v14 v15 v26 v27 _ => f47L17 n v6 v5 v7 v8 v12 v14 v15 N v26 v27 (fun v35 => (kAt (cx tl11 n h47) h47 N [1, 1, 1, 1, 1, 1, 1, 1, 1, 1, 1, 1, 1, 1, 0, 0] (bodyOf Try.f47) (konT (cx tl11 n h47) Try.f47.results.toList sg47)).x 0 (f47L17X0 v6 v5 v7 v8 v12 v14 v15 v35))) (fun v6 v5 v7 v8 v15 v36 v40 v51 v52 _ => f47L24N n N N (f47L24S v6 v5 v7 v8 v15 v36 v40 v51 v52) (kAt (cx tl11 n h47) h47 N [1, 1, 1, 1, 1, 1, 1, 1, 1, 1, 1, 1, 1, 1, 1, 1, 1, 1, 0, 0] (bodyOf Try.f47) (konT (cx tl11 n h47) Try.f47.results.toList sg47))) = f47G n a0 a1 a2 (fun v6 v5 v7 v8 v12 v14 v15 => f47L17 n v6 v5 v7 v8 v12 v14 v15 N) (fun v6 v5 v7 v8 v15 v36 v40 v51 v52 _ => f47L24N n N N (f47L24S v6 v5 v7 v8 v15 v36 v40 v51 v52) (kAt (cx tl11 n h47) h47 N [1, 1, 1, 1, 1, 1, 1, 1, 1, 1, 1, 1, 1, 1, 1, 1, 1, 1, 0, 0] (bodyOf Try.f47) (konT (cx tl11 n h47) Try.f47.results.toList sg47))) := by kernel_rfl
theorem f47_ev_s3 (n N : Nat) (a0 : Int) (a1 : Int) (a2 : Int) : f47G n a0 a1 a2 (fun v6 v5 v7 v8 v12 v14 v15 => f47L17 n v6 v5 v7 v8 v12 v14 v15 N) (fun v6 v5 v7 v8 v15 v36 v40 v51 v52 _ => f47L24 n v6 v5 v7 v8 v15 v36 v40 N v51 v52 (fun v60 => (kAt (cx tl11 n h47) h47 N [1, 1, 1, 1, 1, 1, 1, 1, 1, 1, 1, 1, 1, 1, 1, 1, 1, 1, 0, 0] (bodyOf Try.f47) (konT (cx tl11 n h47) Try.f47.results.toList sg47)).x 2 (f47L24X2 v6 v5 v7 v8 v15 v36 v40 v60))) = f47G n a0 a1 a2 (fun v6 v5 v7 v8 v12 v14 v15 => f47L17 n v6 v5 v7 v8 v12 v14 v15 N) (fun v6 v5 v7 v8 v15 v36 v40 => f47L24 n v6 v5 v7 v8 v15 v36 v40 N) := by kernel_rfl
theorem f47_ev (n : Nat) (a0 : Int) (a1 : Int) (a2 : Int) : evT (cx tl11 n h47) h47 (n + 8) Try.f47 sg47 [encV false R3 a0, encV false R3 a1, encV false R3 a2] = f47 n a0 a1 a2 := by
  have h := (f47_ev_s1 n (n + 8) a0 a1 a2 : evT (cx tl11 n h47) h47 (n + 8) Try.f47 sg47 [encV false R3 a0, encV false R3 a1, encV false R3 a2] = f47G n a0 a1 a2 (fun v6 v5 v7 v8 v12 v14 v15 v26 v27 _ => f47L17N n (n + 8) (n + 8) (f47L17S v6 v5 v7 v8 v12 v14 v15 v26 v27) (kAt (cx tl11 n h47) h47 (n + 8) [1, 1, 1, 1, 1, 1, 1, 1, 1, 1, 1, 1, 1, 1, 0, 0] (bodyOf Try.f47) (konT (cx tl11 n h47) Try.f47.results.toList sg47))) (fun v6 v5 v7 v8 v15 v36 v40 v51 v52 _ => f47L24N n (n + 8) (n + 8) (f47L24S v6 v5 v7 v8 v15 v36 v40 v51 v52) (kAt (cx tl11 n h47) h47 (n + 8) [1, 1, 1, 1, 1, 1, 1, 1, 1, 1, 1, 1, 1, 1, 1, 1, 1, 1, 0, 0] (bodyOf Try.f47) (konT (cx tl11 n h47) Try.f47.results.toList sg47))))
  replace h := h.trans (congrArg (fun lp => f47G n a0 a1 a2 lp (fun v6 v5 v7 v8 v15 v36 v40 v51 v52 _ => f47L24N n (n + 8) (n + 8) (f47L24S v6 v5 v7 v8 v15 v36 v40 v51 v52) (kAt (cx tl11 n h47) h47 (n + 8) [1, 1, 1, 1, 1, 1, 1, 1, 1, 1, 1, 1, 1, 1, 1, 1, 1, 1, 0, 0] (bodyOf Try.f47) (konT (cx tl11 n h47) Try.f47.results.toList sg47)))) (funext fun x0 => funext fun x1 => funext fun x2 => funext fun x3 => funext fun x4 => funext fun x5 => funext fun x6 => funext fun x7 => funext fun x8 => funext fun _ => f47L17_ok n (n + 8) x0 x1 x2 x3 x4 x5 x6 (n + 8) x7 x8 (kAt (cx tl11 n h47) h47 (n + 8) [1, 1, 1, 1, 1, 1, 1, 1, 1, 1, 1, 1, 1, 1, 0, 0] (bodyOf Try.f47) (konT (cx tl11 n h47) Try.f47.results.toList sg47))))
  replace h := h.trans (f47_ev_s2 n (n + 8) a0 a1 a2 : f47G n a0 a1 a2 (fun v6 v5 v7 v8 v12 v14 v15 v26 v27 _ => f47L17 n v6 v5 v7 v8 v12 v14 v15 (n + 8) v26 v27 (fun v35 => (kAt (cx tl11 n h47) h47 (n + 8) [1, 1, 1, 1, 1, 1, 1, 1, 1, 1, 1, 1, 1, 1, 0, 0] (bodyOf Try.f47) (konT (cx tl11 n h47) Try.f47.results.toList sg47)).x 0 (f47L17X0 v6 v5 v7 v8 v12 v14 v15 v35))) (fun v6 v5 v7 v8 v15 v36 v40 v51 v52 _ => f47L24N n (n + 8) (n + 8) (f47L24S v6 v5 v7 v8 v15 v36 v40 v51 v52) (kAt (cx tl11 n h47) h47 (n + 8) [1, 1, 1, 1, 1, 1, 1, 1, 1, 1, 1, 1, 1, 1, 1, 1, 1, 1, 0, 0] (bodyOf Try.f47) (konT (cx tl11 n h47) Try.f47.results.toList sg47))) = f47G n a0 a1 a2 (fun v6 v5 v7 v8 v12 v14 v15 => f47L17 n v6 v5 v7 v8 v12 v14 v15 (n + 8)) (fun v6 v5 v7 v8 v15 v36 v40 v51 v52 _ => f47L24N n (n + 8) (n + 8) (f47L24S v6 v5 v7 v8 v15 v36 v40 v51 v52) (kAt (cx tl11 n h47) h47 (n + 8) [1, 1, 1, 1, 1, 1, 1, 1, 1, 1, 1, 1, 1, 1, 1, 1, 1, 1, 0, 0] (bodyOf Try.f47) (konT (cx tl11 n h47) Try.f47.results.toList sg47))))
  replace h := h.trans (congrArg (fun lp => f47G n a0 a1 a2 (fun v6 v5 v7 v8 v12 v14 v15 => f47L17 n v6 v5 v7 v8 v12 v14 v15 (n + 8)) lp) (funext fun x0 => funext fun x1 => funext fun x2 => funext fun x3 => funext fun x4 => funext fun x5 => funext fun x6 => funext fun x7 => funext fun x8 => funext fun _ => f47L24_ok n (n + 8) x0 x1 x2 x3 x4 x5 x6 (n + 8) x7 x8 (kAt (cx tl11 n h47) h47 (n + 8) [1, 1, 1, 1, 1, 1, 1, 1, 1, 1, 1, 1, 1, 1, 1, 1, 1, 1, 0, 0] (bodyOf Try.f47) (konT (cx tl11 n h47) Try.f47.results.toList sg47))))
  replace h := h.trans (f47_ev_s3 n (n + 8) a0 a1 a2 : f47G n a0 a1 a2 (fun v6 v5 v7 v8 v12 v14 v15 => f47L17 n v6 v5 v7 v8 v12 v14 v15 (n + 8)) (fun v6 v5 v7 v8 v15 v36 v40 v51 v52 _ => f47L24 n v6 v5 v7 v8 v15 v36 v40 (n + 8) v51 v52 (fun v60 => (kAt (cx tl11 n h47) h47 (n + 8) [1, 1, 1, 1, 1, 1, 1, 1, 1, 1, 1, 1, 1, 1, 1, 1, 1, 1, 0, 0] (bodyOf Try.f47) (konT (cx tl11 n h47) Try.f47.results.toList sg47)).x 2 (f47L24X2 v6 v5 v7 v8 v15 v36 v40 v60))) = f47G n a0 a1 a2 (fun v6 v5 v7 v8 v12 v14 v15 => f47L17 n v6 v5 v7 v8 v12 v14 v15 (n + 8)) (fun v6 v5 v7 v8 v15 v36 v40 => f47L24 n v6 v5 v7 v8 v15 v36 v40 (n + 8)))
  exact h
noncomputable def sp47 : Sp := fun n => dat1 false R3 fun a0 => dat1 false R3 fun a1 => dat1 false R3 fun a2 => dat0 (ansO sg47 (f47 n a0 a1 a2) ((0 : Int), (0 : Int)))
theorem sp47_ok {n : Nat} (h : CallOk Try.prog (tabF tl11 n)) : ∀ args r, sp47 n args = some (true, r) → FnOK Try.prog 47 args r := SpR.all (SpR.dat1 fun a0 => SpR.dat1 fun a1 => SpR.dat1 fun a2 => SpR.ansO fun y hy => fnT_ok (cx_ok h) rfl (normal_ok _) Try.func47 (code_ok_of (cx_ok h) st47) ((f47_ev n a0 a1 a2).trans hy))
noncomputable def tl12 : List (Nat × Sp) := (47, sp47) :: tl11
theorem tl12_ok (n : Nat) : CallOk Try.prog (tabF tl12 n) := tabF_cons (tl11_ok n) (known_of Try.func47 (by decide +kernel) (by kernel_rfl)) (sp47_ok (tl11_ok n))
/-! f30: sawmill/units.MulDiv -/
abbrev sg30 : Sig := [(false, R1), (false, R1)]
noncomputable def h30 : List (Nat × List Keep) := hintsOf keeps 30
theorem st30 : fnSt Try.f30 = true := by kernel_rfl
theorem f30_ev (n : Nat) (a0 : Int) (a1 : Int) (a2 : Int) : evT (cx tl12 n h30) h30 (n + 8) Try.f30 sg30 [encV false R1 a0, encV false R1 a1, encV false R1 a2] = f30 n a0 a1 a2 := by
  have h := (by kernel_rfl : evT (cx tl12 n h30) h30 (n + 8) Try.f30 sg30 [encV false R1 a0, encV false R1 a1, encV false R1 a2] = f30G n a0 a1 a2)
  exact h
noncomputable def sp30 : Sp := fun n => dat1 false R1 fun a0 => dat1 false R1 fun a1 => dat1 false R1 fun a2 => dat0 (ansO sg30 (f30 n a0 a1 a2) ((0 : Int), (0 : Int)))
theorem sp30_ok {n : Nat} (h : CallOk Try.prog (tabF tl12 n)) : ∀ args r, sp30 n args = some (true, r) → FnOK Try.prog 30 args r := SpR.all (SpR.dat1 fun a0 => SpR.dat1 fun a1 => SpR.dat1 fun a2 => SpR.ansO fun y hy => fnT_ok (cx_ok h) rfl (normal_ok _) Try.func30 (code_ok_of (cx_ok h) st30) ((f30_ev n a0 a1 a2).trans hy))
noncomputable def tl13 : List (Nat × Sp) := (30, sp30) :: tl12
theorem tl13_ok (n : Nat) : CallOk Try.prog (tabF tl13 n) := tabF_cons (tl12_ok n) (known_of Try.func30 (by decide +kernel) (by kernel_rfl)) (sp30_ok (tl12_ok n))
/-! f14: sawmill/yield.Recovery -/
abbrev sg14 : Sig := [(false, R1)]
noncomputable def h14 : List (Nat × List Keep) := hintsOf keeps 14
theorem st14 : fnSt Try.f14 = true := by kernel_rfl
theorem f14_ev (n : Nat) (a0 : Int × Int × Int × Int × Int) : evT (cx tl13 n h14) h14 (n + 8) Try.f14 sg14 [encV true R2 a0] = f14 n a0 := by
  have h := (by kernel_rfl : evT (cx tl13 n h14) h14 (n + 8) Try.f14 sg14 [encV true R2 a0] = f14G n a0)
  exact h
noncomputable def sp14 : Sp := fun n => dat1 true R2 fun a0 => dat0 (ansO sg14 (f14 n a0) (0 : Int))
theorem sp14_ok {n : Nat} (h : CallOk Try.prog (tabF tl13 n)) : ∀ args r, sp14 n args = some (true, r) → FnOK Try.prog 14 args r := SpR.all (SpR.dat1 fun a0 => SpR.ansO fun y hy => fnT_ok (cx_ok h) rfl (normal_ok _) Try.func14 (code_ok_of (cx_ok h) st14) ((f14_ev n a0).trans hy))
noncomputable def tl14 : List (Nat × Sp) := (14, sp14) :: tl13
theorem tl14_ok (n : Nat) : CallOk Try.prog (tabF tl14 n) := tabF_cons (tl13_ok n) (known_of Try.func14 (by decide +kernel) (by kernel_rfl)) (sp14_ok (tl13_ok n))
/-! f21: sawmill/sawmillref22.Recovery -/
abbrev sg21 : Sig := [(false, R1)]
noncomputable def h21 : List (Nat × List Keep) := hintsOf keeps 21
theorem st21 : fnSt Try.f21 = true := by kernel_rfl
noncomputable def b21L10 : Code := sub [1, 1, 1, 0, 1, 0, 0, 1, 0, 0, 1, 1, 0, 1, 0, 0] (bodyOf Try.f21)
def f21L10S (v24 : Int) (v25 : Int) (v26 : Int) (a0 : Int × Int × Int × Int × Int) (v31 : Int) (v32 : Int) (v33 : Int) : Sx := ⟨(.node .undef (.node (.ptr 0 0) (.node (.int .i64 v24) (.node (.int .i64 v32) .nil .nil) .nil) (.node (.int .i64 v26) .nil .nil)) (.node .undef (.node (.int .i64 v25) (.node (.int .i64 v33) .nil .nil) .nil) (.node (.int .i64 v31) .nil .nil))), [(0, .box [(.int .i64 a0.1), (.int .i64 a0.2.1), (.int .i64 a0.2.2.1), (.int .i64 a0.2.2.2.1), (.int .i64 a0.2.2.2.2)])], [], 1⟩
def f21L10X2 (v24 : Int) (v25 : Int) (v26 : Int) (a0 : Int × Int × Int × Int × Int) (v41 : Int) (v42 : Int) : Sx := ⟨(.node .undef (.node (.ptr 0 0) (.node (.int .i64 v24) (.node (.int .i64 v42) .nil .nil) .nil) (.node (.int .i64 v26) .nil .nil)) (.node .undef .nil (.node (.int .i64 v41) .nil .nil))), [(0, .box [(.int .i64 a0.1), (.int .i64 a0.2.1), (.int .i64 a0.2.2.1), (.int .i64 a0.2.2.2.1), (.int .i64 a0.2.2.2.2)])], [], 1⟩
noncomputable def f21L10N (n N m : Nat) (s : Sx) (k : Kont (Int)) : Option (Int) := loopN (get h21 30) (evCode (cx tl14 n h21) h21 N b21L10) m s k
theorem f21L10_ok (n N : Nat) (v24 : Int) (v25 : Int) (v26 : Int) (a0 : Int × Int × Int × Int × Int) : ∀ (m : Nat) (v31 : Int) (v32 : Int) (v33 : Int) (k : Kont (Int)), f21L10N n N m (f21L10S v24 v25 v26 a0 v31 v32 v33) k = f21L10 n v24 v25 v26 a0 m v31 v32 v33 (fun v41 v42 => k.x 2 (f21L10X2 v24 v25 v26 a0 v41 v42)) := by
  intro m
  induction m with
  | zero => intros; rfl
  | succ m ih =>
    intro v31 v32 v33 k
    have h := (by kernel_rfl : f21L10N n N (m + 1) (f21L10S v24 v25 v26 a0 v31 v32 v33) k = f21L10G n v24 v25 v26 a0 v31 v32 v33 (fun v31 v32 v33 => f21L10N n N m (f21L10S v24 v25 v26 a0 v31 v32 v33) k) (fun v41 v42 => k.x 2 (f21L10X2 v24 v25 v26 a0 v41 v42)))
    exact h.trans (congrArg (fun kc => f21L10G n v24 v25 v26 a0 v31 v32 v33 kc (fun v41 v42 => k.x 2 (f21L10X2 v24 v25 v26 a0 v41 v42))) (funext fun v31 => funext fun v32 => funext fun v33 => ih v31 v32 v33 k))
noncomputable def b21L5 : Code := sub [1, 1, 1, 0, 1, 0, 0] (bodyOf Try.f21)
def f21L5S (a0 : Int × Int × Int × Int × Int) (v24 : Int) (v25 : Int) (v26 : Int) : Sx := ⟨(.node .undef (.node (.ptr 0 0) (.node (.int .i64 v24) .nil .nil) (.node (.int .i64 v26) .nil .nil)) (.node .undef (.node (.int .i64 v25) .nil .nil) .nil)), [(0, .box [(.int .i64 a0.1), (.int .i64 a0.2.1), (.int .i64 a0.2.2.1), (.int .i64 a0.2.2.2.1), (.int .i64 a0.2.2.2.2)])], [], 1⟩
def f21L5X0 (a0 : Int × Int × Int × Int × Int) (v48 : Int) : Sx := ⟨(.node .undef (.node .undef (.node (.int .i64 v48) .nil .nil) .nil) .nil), [], [], 0⟩
noncomputable def f21L5N (n N m : Nat) (s : Sx) (k : Kont (Int)) : Option (Int) := loopN (get h21 15) (evCode (cx tl14 n h21) h21 N b21L5) m s k
theorem f21L5_s1 (n N : Nat) (m : Nat) (a0 : Int × Int × Int × Int × Int) (v24 : Int) (v25 : Int) (v26 : Int) (k : Kont (Int)) : f21L5N n N (m + 1) (f21L5S a0 v24 v25 v26) k = f21L5G n a0 (fun v24 v25 v26 a0 v31 v32 v33 _ => f21L10N n N N (f21L10S v24 v25 v26 a0 v31 v32 v33) (kAt (cx tl14 n h21) h21 N [1, 0, 0, 1, 1, 0, 1, 0] (b21L5) (backK (cx tl14 n h21) h21 N m 15 b21L5 k))) v24 v25 v26 (fun v24 v25 v26 => f21L5N n N m (f21L5S a0 v24 v25 v26) k) (fun v48 => k.x 0 (f21L5X0 a0 v48)) := by kernel_rfl
theorem f21L5_s2 (n N : Nat) (m : Nat) (a0 : Int × Int × Int × Int × Int) (v24 : Int) (v25 : Int) (v26 : Int) (k : Kont (Int)) : f21L5G n a0 (fun v24 v25 v26 a0 v31 v32 v33 _ => f21L10 n v24 v25 v26 a0 N v31 v32 v33 (fun v41 v42 => (kAt (cx tl14 n h21) h21 N [1, 0, 0, 1, 1, 0, 1, 0] (b21L5) (backK (cx tl14 n h21) h21 N m 15 b21L5 k)).x 2 (f21L10X2 v24 v25 v26 a0 v41 v42))) v24 v25 v26 (fun v24 v25 v26 => f21L5N n N m (f21L5S a0 v24 v25 v26) k) (fun v48 => k.x 0 (f21L5X0 a0 v48)) = f21L5G n a0 (fun v24 v25 v26 a0 => f21L10 n v24 v25 v26 a0 N) v24 v25 v26 (fun v24 v25 v26 => f21L5N n N m (f21L5S a0 v24 v25 v26) k) (fun v48 => k.x 0 (f21L5X0 a0 v48)) := by kernel_rfl
theorem f21L5_ok (n : Nat) (a0 : Int × Int × Int × Int × Int) : ∀ (m : Nat) (v24 : Int) (v25 : Int) (v26 : Int) (k : Kont (Int)), f21L5N n (n + 8) m (f21L5S a0 v24 v25 v26) k = f21L5 n a0 m v24 v25 v26 (fun v48 => k.x 0 (f21L5X0 a0 v48)) := by
  intro m
  induction m with
  | zero => intros; rfl
  | succ m ih =>
    intro v24 v25 v26 k
    have h := (f21L5_s1 n (n + 8) m a0 v24 v25 v26 k : f21L5N n (n + 8) (m + 1) (f21L5S a0 v24 v25 v26) k = f21L5G n a0 (fun v24 v25 v26 a0 v31 v32 v33 _ => f21L10N n (n + 8) (n + 8) (f21L10S v24 v25 v26 a0 v31 v32 v33) (kAt (cx tl14 n h21) h21 (n + 8) [1, 0, 0, 1, 1, 0, 1, 0] (b21L5) (backK (cx tl14 n h21) h21 (n + 8) m 15 b21L5 k))) v24 v25 v26 (fun v24 v25 v26 => f21L5N n (n + 8) m (f21L5S a0 v24 v25 v26) k) (fun v48 => k.x 0 (f21L5X0 a0 v48)))
    replace h := h.trans (congrArg (fun lp => f21L5G n a0 lp v24 v25 v26 (fun v24 v25 v26 => f21L5N n (n + 8) m (f21L5S a0 v24 v25 v26) k) (fun v48 => k.x 0 (f21L5X0 a0 v48))) (funext fun x0 => funext fun x1 => funext fun x2 => funext fun x3 => funext fun x4 => funext fun x5 => funext fun x6 => funext fun _ => f21L10_ok n (n + 8) x0 x1 x2 x3 (n + 8) x4 x5 x6 (kAt (cx tl14 n h21) h21 (n + 8) [1, 0, 0, 1, 1, 0, 1, 0] (b21L5) (backK (cx tl14 n h21) h21 (n + 8) m 15 b21L5 k))))
    replace h := h.trans (f21L5_s2 n (n + 8) m a0 v24 v25 v26 k : f21L5G n a0 (fun v24 v25 v26 a0 v31 v32 v33 _ => f21L10 n v24 v25 v26 a0 (n + 8) v31 v32 v33 (fun v41 v42 => (kAt (cx tl14 n h21) h21 (n + 8) [1, 0, 0, 1, 1, 0, 1, 0] (b21L5) (backK (cx tl14 n h21) h21 (n + 8) m 15 b21L5 k)).x 2 (f21L10X2 v24 v25 v26 a0 v41 v42))) v24 v25 v26 (fun v24 v25 v26 => f21L5N n (n + 8) m (f21L5S a0 v24 v25 v26) k) (fun v48 => k.x 0 (f21L5X0 a0 v48)) = f21L5G n a0 (fun v24 v25 v26 a0 => f21L10 n v24 v25 v26 a0 (n + 8)) v24 v25 v26 (fun v24 v25 v26 => f21L5N n (n + 8) m (f21L5S a0 v24 v25 v26) k) (fun v48 => k.x 0 (f21L5X0 a0 v48)))
    exact h.trans (congrArg (fun kc => f21L5G n a0 (fun v24 v25 v26 a0 => f21L10 n v24 v25 v26 a0 (n + 8)) v24 v25 v26 kc (fun v48 => k.x 0 (f21L5X0 a0 v48))) (funext fun v24 => funext fun v25 => funext fun v26 => ih v24 v25 v26 k))
theorem f21_ev_s1 (n N : Nat) (a0 : Int × Int × Int × Int × Int) : evT (cx tl14 n h21) h21 N Try.f21 sg21 [encV true R2 a0] = f21G n a0 (fun a0 v24 v25 v26 _ => f21L5N n N N (f21L5S a0 v24 v25 v26) (kAt (cx tl14 n h21) h21 N [1, 1, 1, 0, 1, 0] (bodyOf Try.f21) (konT (cx tl14 n h21) Try.f21.results.toList sg21))) := by kernel_rfl
theorem f21_ev_s2 (n N : Nat) (a0 : Int × Int × Int × Int × Int) : f21G n a0 (fun a0 v24 v25 v26 _ => f21L5 n a0 N v24 v25 v26 (fun v48 => (kAt (cx tl14 n h21) h21 N [1, 1, 1, 0, 1, 0] (bodyOf Try.f21) (konT (cx tl14 n h21) Try.f21.results.toList sg21)).x 0 (f21L5X0 a0 v48))) = f21G n a0 (fun a0 => f21L5 n a0 N) := by kernel_rfl
theorem f21_ev (n : Nat) (a0 : Int × Int × Int × Int × Int) : evT (cx tl14 n h21) h21 (n + 8) Try.f21 sg21 [encV true R2 a0] = f21 n a0 := by
  have h := (f21_ev_s1 n (n + 8) a0 : evT (cx tl14 n h21) h21 (n + 8) Try.f21 sg21 [encV true R2 a0] = f21G n a0 (fun a0 v24 v25 v26 _ => f21L5N n (n + 8) (n + 8) (f21L5S a0 v24 v25 v26) (kAt (cx tl14 n h21) h21 (n + 8) [1, 1, 1, 0, 1, 0] (bodyOf Try.f21) (konT (cx tl14 n h21) Try.f21.results.toList sg21))))
  replace h := h.trans (congrArg (fun lp => f21G n a0 lp) (funext fun x0 => funext fun x1 => funext fun x2 => funext fun x3 => funext fun _ => f21L5_ok n x0 (n + 8) x1 x2 x3 (kAt (cx tl14 n h21) h21 (n + 8) [1, 1, 1, 0, 1, 0] (bodyOf Try.f21) (konT (cx tl14 n h21) Try.f21.results.toList sg21))))
  replace h := h.trans (f21_ev_s2 n (n + 8) a0 : f21G n a0 (fun a0 v24 v25 v26 _ => f21L5 n a0 (n + 8) v24 v25 v26 (fun v48 => (kAt (cx tl14 n h21) h21 (n + 8) [1, 1, 1, 0, 1, 0] (bodyOf Try.f21) (konT (cx tl14 n h21) Try.f21.results.toList sg21)).x 0 (f21L5X0 a0 v48))) = f21G n a0 (fun a0 => f21L5 n a0 (n + 8)))
  exact h
noncomputable def sp21 : Sp := fun n => dat1 true R2 fun a0 => dat0 (ansO sg21 (f21 n a0) (0 : Int))
theorem sp21_ok {n : Nat} (h : CallOk Try.prog (tabF tl14 n)) : ∀ args r, sp21 n args = some (true, r) → FnOK Try.prog 21 args r := SpR.all (SpR.dat1 fun a0 => SpR.ansO fun y hy => fnT_ok (cx_ok h) rfl (normal_ok _) Try.func21 (code_ok_of (cx_ok h) st21) ((f21_ev n a0).trans hy))
noncomputable def tl15 : List (Nat × Sp) := (21, sp21) :: tl14
theorem tl15_ok (n : Nat) : CallOk Try.prog (tabF tl15 n) := tabF_cons (tl14_ok n) (known_of Try.func21 (by decide +kernel) (by kernel_rfl)) (sp21_ok (tl14_ok n))
/-! f9: sawmill/sawmilllaw22.awake -/
abbrev sg9 : Sig := [(false, R0)]
noncomputable def sp9 : Sp := fun _ => dat0 (ansT sg9 true)
noncomputable def tl16 : List (Nat × Sp) := (9, sp9) :: tl15
theorem tl16_ok (n : Nat) : CallOk Try.prog (tabF tl16 n) := tabF_cons (tl15_ok n) (known_of Try.func9 (by decide +kernel) (by kernel_rfl)) (SpR.all (SpR.ansT given9))
/-! f6: sawmill/sawmilllaw22.YieldAdds -/
abbrev sg6 : Sig := [(false, R0)]
noncomputable def h6 : List (Nat × List Keep) := hintsOf keeps 6
theorem st6 : fnSt Try.f6 = true := by kernel_rfl
theorem f6_ev (n : Nat) (a0 : Int × Int × Int × Int × Int) (a1 : Int × Int × Int × Int × Int) : evT (cx tl16 n h6) h6 (n + 8) Try.f6 sg6 [encV true R2 a0, encV true R2 a1] = f6 n a0 a1 := by
  have h := (by kernel_rfl : evT (cx tl16 n h6) h6 (n + 8) Try.f6 sg6 [encV true R2 a0, encV true R2 a1] = f6G n a0 a1)
  exact h
noncomputable def sp6 : Sp := fun n => dat1 true R2 fun a0 => dat1 true R2 fun a1 => dat0 (ansO sg6 (f6 n a0 a1) false)
theorem sp6_ok {n : Nat} (h : CallOk Try.prog (tabF tl16 n)) : ∀ args r, sp6 n args = some (true, r) → FnOK Try.prog 6 args r := SpR.all (SpR.dat1 fun a0 => SpR.dat1 fun a1 => SpR.ansO fun y hy => fnT_ok (cx_ok h) rfl (normal_ok _) Try.func6 (code_ok_of (cx_ok h) st6) ((f6_ev n a0 a1).trans hy))
noncomputable def tl17 : List (Nat × Sp) := (6, sp6) :: tl16
theorem tl17_ok (n : Nat) : CallOk Try.prog (tabF tl17 n) := tabF_cons (tl16_ok n) (known_of Try.func6 (by decide +kernel) (by kernel_rfl)) (sp6_ok (tl16_ok n))
/-! f7: sawmill/sawmilllaw22.YieldSums -/
abbrev sg7 : Sig := [(false, R0)]
noncomputable def h7 : List (Nat × List Keep) := hintsOf keeps 7
theorem st7 : fnSt Try.f7 = true := by kernel_rfl
theorem f7_ev (n : Nat) (a0 : Int × Int × Int × Int × Int) (a1 : Int × Int × Int × Int × Int) : evT (cx tl17 n h7) h7 (n + 8) Try.f7 sg7 [encV true R2 a0, encV true R2 a1] = f7 n a0 a1 := by
  have h := (by kernel_rfl : evT (cx tl17 n h7) h7 (n + 8) Try.f7 sg7 [encV true R2 a0, encV true R2 a1] = f7G n a0 a1)
  exact h
noncomputable def sp7 : Sp := fun n => dat1 true R2 fun a0 => dat1 true R2 fun a1 => dat0 (ansO sg7 (f7 n a0 a1) false)
theorem sp7_ok {n : Nat} (h : CallOk Try.prog (tabF tl17 n)) : ∀ args r, sp7 n args = some (true, r) → FnOK Try.prog 7 args r := SpR.all (SpR.dat1 fun a0 => SpR.dat1 fun a1 => SpR.ansO fun y hy => fnT_ok (cx_ok h) rfl (normal_ok _) Try.func7 (code_ok_of (cx_ok h) st7) ((f7_ev n a0 a1).trans hy))
noncomputable def tl18 : List (Nat × Sp) := (7, sp7) :: tl17
theorem tl18_ok (n : Nat) : CallOk Try.prog (tabF tl18 n) := tabF_cons (tl17_ok n) (known_of Try.func7 (by decide +kernel) (by kernel_rfl)) (sp7_ok (tl17_ok n))
end Go.Proofs.Ytcjhegiidnjepaa.Ev
